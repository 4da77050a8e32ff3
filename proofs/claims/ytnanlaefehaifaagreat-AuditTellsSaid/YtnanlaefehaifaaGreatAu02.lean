/-
  Texts of this claim, joined: RC, RD, KA, KB.
-/
import Derived.Deep.LoopGhost
import Derived.IntWalk
import Derived.Laws.Tables
import Derived.Test.YtnanlaefehaifaaGreatAu01
set_option maxHeartbeats 6400000
set_option maxRecDepth 100000
namespace Go.Proofs.YtnanlaefehaifaaGreat
open Go.RowKit
def u32V (x : Nat) : Value := .int .u32 (x : Nat)
def bitSum : Nat → Nat
  | 0 => 1
  | b + 1 => if bitSum b % 2 = 1 then bitSum b / 2 ^^^ 2197175160 else bitSum b / 2
def inT (T : List Nat) (sum step : Nat) : Nat → List Nat
  | 0 => T
  | k + 1 => (inT T sum step k).set (2 * step * k + step) ((inT T sum step k).getD (2 * step * k) 0 ^^^ sum)
def outT : Nat → List Nat
  | 0 => List.replicate 256 0
  | b + 1 => inT (outT b) (bitSum (b + 1)) (128 / 2 ^ b) (2 ^ b)
theorem inT_length (T : List Nat) (sum step k : Nat) : (inT T sum step k).length = T.length := by
  induction k with
  | zero => rfl
  | succ k ih => rw [inT, List.length_set, ih]
theorem outT_length (b : Nat) : (outT b).length = 256 := by
  induction b with
  | zero => exact List.length_replicate
  | succ b ih => rw [outT, inT_length, ih]
theorem bits_xor_u32_nat (a b : Nat) (ha : a < 4294967296) (hb : b < 4294967296) : bits .xor .u32 (a : Int) (b : Int) = ((a ^^^ b : Nat) : Int) := by
  have hx : a ^^^ b < 2 ^ 32 := Nat.xor_lt_two_pow (by omega) (by omega)
  have h1 : (BitVec.ofInt 32 (a : Int)).toNat = a := by
    rw [BitVec.ofInt_natCast, BitVec.toNat_ofNat]; exact Nat.mod_eq_of_lt (by omega)
  have h2 : (BitVec.ofInt 32 (b : Int)).toNat = b := by
    rw [BitVec.ofInt_natCast, BitVec.toNat_ofNat]; exact Nat.mod_eq_of_lt (by omega)
  show IntKind.u32.wrap ((BitVec.ofInt 32 (a : Int) ^^^ BitVec.ofInt 32 (b : Int)).toNat : Int) = _
  rw [BitVec.toNat_xor, h1, h2, IntKind.wrap_u32]
  omega
def All32 (T : List Nat) : Prop := ∀ x ∈ T, x < 4294967296
theorem All32.getD {T : List Nat} (h : All32 T) (i : Nat) : T.getD i 0 < 4294967296 := by
  rw [List.getD_eq_getElem?_getD]
  cases hi : T[i]? with
  | none => simp
  | some x => exact h x (List.mem_of_getElem? hi)
theorem All32.set {T : List Nat} (h : All32 T) (i x : Nat) (hx : x < 4294967296) : All32 (T.set i x) := by
  intro y hy
  rcases List.mem_or_eq_of_mem_set hy with h1 | rfl
  · exact h y h1
  · exact hx
theorem All32.inT {T : List Nat} (h : All32 T) {sum : Nat} (hs : sum < 4294967296) (step k : Nat) : All32 (inT T sum step k) := by
  induction k with
  | zero => exact h
  | succ k ih => exact ih.set _ _ (Nat.xor_lt_two_pow (n := 32) (ih.getD _) hs)
theorem u32_set {T : List Nat} {i x : Nat} : ((T.map u32V).toArray).setIfInBounds i (u32V x) = ((T.set i x).map u32V).toArray := by
  rw [List.setIfInBounds_toArray, List.map_set]
theorem u32_at {T : List Nat} {i : Nat} (h : i < T.length) : ((T.map u32V).toArray)[i]? = some (.int .u32 ((T.getD i 0 : Nat) : Int)) := by
  rw [List.getElem?_toArray, List.getElem?_map, List.getElem?_eq_getElem h, List.getD_eq_getElem?_getD, List.getElem?_eq_getElem h]
  rfl
theorem zeros_u32 : Tryz.zeroCells329 = ((outT 0).map u32V).toArray := by
  rw [show (outT 0).map u32V = List.replicate 256 (u32V 0) by simp [outT]]
  kernel_rfl
theorem all32_zero : All32 (outT 0) := by
  intro x hx
  simp only [outT, List.mem_replicate] at hx
  omega
theorem table_any (w : World) : Calls Tryz.prog 251 #[] w fun e w' => e = .returned (.agg ((outT 8).map u32V).toArray) ∧ Below w.heap.size w w' := by
  go_enter Tryz.func251, Tryz.ntmps251
  go_wp2
  go_loopw [2, 7] (fun s i wr => ∃ b : Nat, b ≤ 8 ∧ i = .int .i64 b ∧ s = u32V (bitSum b) ∧ Below w.heap.size w wr ∧ w.heap.size + 2 ≤ wr.heap.size ∧ Blk wr (w.heap.size + 1) 329 ((outT b).map u32V).toArray ∧ All32 (outT b) ∧ ∃ cs, Blk wr w.heap.size 329 cs ∧ cs.size = 256) (fun _ i _ => 8 - (intOf i).toNat)
  case atStart => exact ⟨0, by omega, rfl, rfl, below2 _ _ _, by simp, by rw [← zeros_u32]; simpa using Blk.new (w.alloc (.cells Tryz.zeroCells329 329)) 329 Tryz.zeroCells329, all32_zero, _, (Blk.new _ _ _).alloc _, by kernel_rfl⟩
  case round =>
    obtain ⟨b, hb, rfl, rfl, hbw, hz, kT, h32, cs, kR, hcs⟩ := hrel
    have HKT := hide kT
    have HKR := hide kR
    have HCS := hide hcs
    have H32 := hide h32
    clear kT kR hcs h32
    by_cases hlt : b < 8
    · have hb8 : b = 0 ∨ b = 1 ∨ b = 2 ∨ b = 3 ∨ b = 4 ∨ b = 5 ∨ b = 6 ∨ b = 7 := by omega
      rcases hb8 with rfl | rfl | rfl | rfl | rfl | rfl | rfl | rfl
      · rw [show u32V (bitSum 0) = .int .u32 1 by kernel_rfl, show ((0 : Nat) : Int) = 0 from rfl]
        have ea : bits BinOp.and IntKind.u32 1 1 = 1 := by kernel_rfl
        have ex : bits BinOp.xor IntKind.u32 0 2197175160 = 2197175160 := by kernel_rfl
        have HT1 := hide (show outT (0 + 1) = inT (outT 0) 2197175160 128 1 by rw [outT]; exact congrArg (fun s => inT (outT 0) s 128 1) (by kernel_rfl))
        have HS1 := hide (show Value.int .u32 2197175160 = u32V (bitSum (0 + 1)) by kernel_rfl)
        go_wp2
        clear ea ex
        obtain ⟨wo, rfl⟩ : ∃ wo : World, wo = wr := ⟨_, rfl⟩
        go_loopw [6] (fun i wr => ∃ k : Nat, k ≤ 1 ∧ i = .int .i64 (256 * (k : Int)) ∧ Below w.heap.size w wr ∧ w.heap.size + 2 ≤ wr.heap.size ∧ Blk wr (w.heap.size + 1) 329 ((inT (outT 0) 2197175160 128 k).map u32V).toArray ∧ Blk wr w.heap.size 329 cs) (fun i _ => 1 * 256 - (intOf i).toNat)
        case atStart => exact ⟨0, Nat.zero_le _, by go_num, hbw, hz, HKT.out, HKR.out⟩
        case round =>
          clear HKT HKR hbw hz
          obtain ⟨k, hk, rfl, hbw, hz, kT, kR⟩ := hrel
          have HKT := hide kT
          have HKR := hide kR
          have h32 := (H32.out.inT (sum := 2197175160) (by omega) 128 k)
          have hlen := inT_length (outT 0) 2197175160 128 k
          rw [outT_length] at hlen
          by_cases hlt2 : k < 1
          · obtain ⟨j, hj⟩ : ∃ j : Nat, j = 256 * k := ⟨_, rfl⟩
            have ej : (256 : Int) * (k : Int) = (j : Int) := by omega
            rw [ej]
            have b1 : (0 : Int) ≤ j := by omega
            have b2 : (j : Int) < 256 := by omega
            have b3 : (j : Int) + 128 < 256 := by omega
            have HEJ := hide ej
            have HJ := hide hj
            obtain ⟨x, hx⟩ : ∃ x, (inT (outT 0) 2197175160 128 k).getD j 0 = x := ⟨_, rfl⟩
            have hx32 : x < 4294967296 := by rw [← hx]; exact h32.getD j
            have q0 : wr.cell? ⟨w.heap.size + 1, j, none⟩ = some (.int .u32 (x : Nat)) := by rw [kT.cell, u32_at (by omega), hx]
            have q1 : wr.cell? ⟨w.heap.size + 1, j + 128, none⟩ = some (.int .u32 (((inT (outT 0) 2197175160 128 k).getD (j + 128) 0 : Nat) : Int)) := by rw [kT.cell, u32_at (by omega)]
            have f1 := kT.frozen (j + 128)
            have hxor := bits_xor_u32_nat x 2197175160 hx32 (by omega)
            have hxor : bits BinOp.xor IntKind.u32 (x : Int) 2197175160 = ((x ^^^ 2197175160 : Nat) : Int) := hxor
            have HIN := hide (show inT (outT 0) 2197175160 128 (k + 1) = (inT (outT 0) 2197175160 128 k).set (j + 128) (x ^^^ 2197175160) by rw [inT, ← hx, hj])
            generalize (inT (outT 0) 2197175160 128 k).getD (j + 128) 0 = y at q1
            clear hx hj ej kT kR h32 hlen
            go_wp2
            go_roundw
            case rel =>
              refine ⟨k + 1, by omega, by rw [show (j : Int) + 256 = 256 * ((k + 1 : Nat) : Int) by have := HJ.out; omega], hbw.setCell (p := ⟨w.heap.size + 1, j + 128, none⟩) (by simp) _, by simpa [World.setCell] using hz, ?_, HKR.out.far (p := ⟨w.heap.size + 1, j + 128, none⟩) (by simp) _⟩
              rw [HIN.out, ← u32_set]
              exact HKT.out.set_ _ _
            case measure => have := HJ.out; simp [intOf]; omega
          · obtain rfl : k = 1 := by omega
            have H32' := hide (show All32 (outT (0 + 1)) by rw [HT1.out]; exact h32)
            clear kT kR h32 hlen
            go_wp2
            go_roundw
            case rel => exact ⟨0 + 1, by omega, by go_num, HS1.out, hbw, hz, by rw [HT1.out]; exact HKT.out, H32'.out, cs, HKR.out, HCS.out⟩
            case measure => simp [intOf]
      · rw [show u32V (bitSum 1) = .int .u32 2197175160 by kernel_rfl, show ((1 : Nat) : Int) = 1 from rfl]
        have ea : bits BinOp.and IntKind.u32 2197175160 1 = 0 := by kernel_rfl
        have ex : bits BinOp.xor IntKind.u32 1098587580 2197175160 = 3280807620 := by kernel_rfl
        have HT1 := hide (show outT (1 + 1) = inT (outT 1) 1098587580 64 2 by rw [outT]; exact congrArg (fun s => inT (outT 1) s 64 2) (by kernel_rfl))
        have HS1 := hide (show Value.int .u32 1098587580 = u32V (bitSum (1 + 1)) by kernel_rfl)
        go_wp2
        clear ea ex
        obtain ⟨wo, rfl⟩ : ∃ wo : World, wo = wr := ⟨_, rfl⟩
        go_loopw [6] (fun i wr => ∃ k : Nat, k ≤ 2 ∧ i = .int .i64 (128 * (k : Int)) ∧ Below w.heap.size w wr ∧ w.heap.size + 2 ≤ wr.heap.size ∧ Blk wr (w.heap.size + 1) 329 ((inT (outT 1) 1098587580 64 k).map u32V).toArray ∧ Blk wr w.heap.size 329 cs) (fun i _ => 2 * 128 - (intOf i).toNat)
        case atStart => exact ⟨0, Nat.zero_le _, by go_num, hbw, hz, HKT.out, HKR.out⟩
        case round =>
          clear HKT HKR hbw hz
          obtain ⟨k, hk, rfl, hbw, hz, kT, kR⟩ := hrel
          have HKT := hide kT
          have HKR := hide kR
          have h32 := (H32.out.inT (sum := 1098587580) (by omega) 64 k)
          have hlen := inT_length (outT 1) 1098587580 64 k
          rw [outT_length] at hlen
          by_cases hlt2 : k < 2
          · obtain ⟨j, hj⟩ : ∃ j : Nat, j = 128 * k := ⟨_, rfl⟩
            have ej : (128 : Int) * (k : Int) = (j : Int) := by omega
            rw [ej]
            have b1 : (0 : Int) ≤ j := by omega
            have b2 : (j : Int) < 256 := by omega
            have b3 : (j : Int) + 64 < 256 := by omega
            have HEJ := hide ej
            have HJ := hide hj
            obtain ⟨x, hx⟩ : ∃ x, (inT (outT 1) 1098587580 64 k).getD j 0 = x := ⟨_, rfl⟩
            have hx32 : x < 4294967296 := by rw [← hx]; exact h32.getD j
            have q0 : wr.cell? ⟨w.heap.size + 1, j, none⟩ = some (.int .u32 (x : Nat)) := by rw [kT.cell, u32_at (by omega), hx]
            have q1 : wr.cell? ⟨w.heap.size + 1, j + 64, none⟩ = some (.int .u32 (((inT (outT 1) 1098587580 64 k).getD (j + 64) 0 : Nat) : Int)) := by rw [kT.cell, u32_at (by omega)]
            have f1 := kT.frozen (j + 64)
            have hxor := bits_xor_u32_nat x 1098587580 hx32 (by omega)
            have hxor : bits BinOp.xor IntKind.u32 (x : Int) 1098587580 = ((x ^^^ 1098587580 : Nat) : Int) := hxor
            have HIN := hide (show inT (outT 1) 1098587580 64 (k + 1) = (inT (outT 1) 1098587580 64 k).set (j + 64) (x ^^^ 1098587580) by rw [inT, ← hx, hj])
            generalize (inT (outT 1) 1098587580 64 k).getD (j + 64) 0 = y at q1
            clear hx hj ej kT kR h32 hlen
            go_wp2
            go_roundw
            case rel =>
              refine ⟨k + 1, by omega, by rw [show (j : Int) + 128 = 128 * ((k + 1 : Nat) : Int) by have := HJ.out; omega], hbw.setCell (p := ⟨w.heap.size + 1, j + 64, none⟩) (by simp) _, by simpa [World.setCell] using hz, ?_, HKR.out.far (p := ⟨w.heap.size + 1, j + 64, none⟩) (by simp) _⟩
              rw [HIN.out, ← u32_set]
              exact HKT.out.set_ _ _
            case measure => have := HJ.out; simp [intOf]; omega
          · obtain rfl : k = 2 := by omega
            have H32' := hide (show All32 (outT (1 + 1)) by rw [HT1.out]; exact h32)
            clear kT kR h32 hlen
            go_wp2
            go_roundw
            case rel => exact ⟨1 + 1, by omega, by go_num, HS1.out, hbw, hz, by rw [HT1.out]; exact HKT.out, H32'.out, cs, HKR.out, HCS.out⟩
            case measure => simp [intOf]
      · rw [show u32V (bitSum 2) = .int .u32 1098587580 by kernel_rfl, show ((2 : Nat) : Int) = 2 from rfl]
        have ea : bits BinOp.and IntKind.u32 1098587580 1 = 0 := by kernel_rfl
        have ex : bits BinOp.xor IntKind.u32 549293790 2197175160 = 2722870694 := by kernel_rfl
        have HT1 := hide (show outT (2 + 1) = inT (outT 2) 549293790 32 4 by rw [outT]; exact congrArg (fun s => inT (outT 2) s 32 4) (by kernel_rfl))
        have HS1 := hide (show Value.int .u32 549293790 = u32V (bitSum (2 + 1)) by kernel_rfl)
        go_wp2
        clear ea ex
        obtain ⟨wo, rfl⟩ : ∃ wo : World, wo = wr := ⟨_, rfl⟩
        go_loopw [6] (fun i wr => ∃ k : Nat, k ≤ 4 ∧ i = .int .i64 (64 * (k : Int)) ∧ Below w.heap.size w wr ∧ w.heap.size + 2 ≤ wr.heap.size ∧ Blk wr (w.heap.size + 1) 329 ((inT (outT 2) 549293790 32 k).map u32V).toArray ∧ Blk wr w.heap.size 329 cs) (fun i _ => 4 * 64 - (intOf i).toNat)
        case atStart => exact ⟨0, Nat.zero_le _, by go_num, hbw, hz, HKT.out, HKR.out⟩
        case round =>
          clear HKT HKR hbw hz
          obtain ⟨k, hk, rfl, hbw, hz, kT, kR⟩ := hrel
          have HKT := hide kT
          have HKR := hide kR
          have h32 := (H32.out.inT (sum := 549293790) (by omega) 32 k)
          have hlen := inT_length (outT 2) 549293790 32 k
          rw [outT_length] at hlen
          by_cases hlt2 : k < 4
          · obtain ⟨j, hj⟩ : ∃ j : Nat, j = 64 * k := ⟨_, rfl⟩
            have ej : (64 : Int) * (k : Int) = (j : Int) := by omega
            rw [ej]
            have b1 : (0 : Int) ≤ j := by omega
            have b2 : (j : Int) < 256 := by omega
            have b3 : (j : Int) + 32 < 256 := by omega
            have HEJ := hide ej
            have HJ := hide hj
            obtain ⟨x, hx⟩ : ∃ x, (inT (outT 2) 549293790 32 k).getD j 0 = x := ⟨_, rfl⟩
            have hx32 : x < 4294967296 := by rw [← hx]; exact h32.getD j
            have q0 : wr.cell? ⟨w.heap.size + 1, j, none⟩ = some (.int .u32 (x : Nat)) := by rw [kT.cell, u32_at (by omega), hx]
            have q1 : wr.cell? ⟨w.heap.size + 1, j + 32, none⟩ = some (.int .u32 (((inT (outT 2) 549293790 32 k).getD (j + 32) 0 : Nat) : Int)) := by rw [kT.cell, u32_at (by omega)]
            have f1 := kT.frozen (j + 32)
            have hxor := bits_xor_u32_nat x 549293790 hx32 (by omega)
            have hxor : bits BinOp.xor IntKind.u32 (x : Int) 549293790 = ((x ^^^ 549293790 : Nat) : Int) := hxor
            have HIN := hide (show inT (outT 2) 549293790 32 (k + 1) = (inT (outT 2) 549293790 32 k).set (j + 32) (x ^^^ 549293790) by rw [inT, ← hx, hj])
            generalize (inT (outT 2) 549293790 32 k).getD (j + 32) 0 = y at q1
            clear hx hj ej kT kR h32 hlen
            go_wp2
            go_roundw
            case rel =>
              refine ⟨k + 1, by omega, by rw [show (j : Int) + 64 = 64 * ((k + 1 : Nat) : Int) by have := HJ.out; omega], hbw.setCell (p := ⟨w.heap.size + 1, j + 32, none⟩) (by simp) _, by simpa [World.setCell] using hz, ?_, HKR.out.far (p := ⟨w.heap.size + 1, j + 32, none⟩) (by simp) _⟩
              rw [HIN.out, ← u32_set]
              exact HKT.out.set_ _ _
            case measure => have := HJ.out; simp [intOf]; omega
          · obtain rfl : k = 4 := by omega
            have H32' := hide (show All32 (outT (2 + 1)) by rw [HT1.out]; exact h32)
            clear kT kR h32 hlen
            go_wp2
            go_roundw
            case rel => exact ⟨2 + 1, by omega, by go_num, HS1.out, hbw, hz, by rw [HT1.out]; exact HKT.out, H32'.out, cs, HKR.out, HCS.out⟩
            case measure => simp [intOf]
      · rw [show u32V (bitSum 3) = .int .u32 549293790 by kernel_rfl, show ((3 : Nat) : Int) = 3 from rfl]
        have ea : bits BinOp.and IntKind.u32 549293790 1 = 0 := by kernel_rfl
        have ex : bits BinOp.xor IntKind.u32 274646895 2197175160 = 2460548119 := by kernel_rfl
        have HT1 := hide (show outT (3 + 1) = inT (outT 3) 274646895 16 8 by rw [outT]; exact congrArg (fun s => inT (outT 3) s 16 8) (by kernel_rfl))
        have HS1 := hide (show Value.int .u32 274646895 = u32V (bitSum (3 + 1)) by kernel_rfl)
        go_wp2
        clear ea ex
        obtain ⟨wo, rfl⟩ : ∃ wo : World, wo = wr := ⟨_, rfl⟩
        go_loopw [6] (fun i wr => ∃ k : Nat, k ≤ 8 ∧ i = .int .i64 (32 * (k : Int)) ∧ Below w.heap.size w wr ∧ w.heap.size + 2 ≤ wr.heap.size ∧ Blk wr (w.heap.size + 1) 329 ((inT (outT 3) 274646895 16 k).map u32V).toArray ∧ Blk wr w.heap.size 329 cs) (fun i _ => 8 * 32 - (intOf i).toNat)
        case atStart => exact ⟨0, Nat.zero_le _, by go_num, hbw, hz, HKT.out, HKR.out⟩
        case round =>
          clear HKT HKR hbw hz
          obtain ⟨k, hk, rfl, hbw, hz, kT, kR⟩ := hrel
          have HKT := hide kT
          have HKR := hide kR
          have h32 := (H32.out.inT (sum := 274646895) (by omega) 16 k)
          have hlen := inT_length (outT 3) 274646895 16 k
          rw [outT_length] at hlen
          by_cases hlt2 : k < 8
          · obtain ⟨j, hj⟩ : ∃ j : Nat, j = 32 * k := ⟨_, rfl⟩
            have ej : (32 : Int) * (k : Int) = (j : Int) := by omega
            rw [ej]
            have b1 : (0 : Int) ≤ j := by omega
            have b2 : (j : Int) < 256 := by omega
            have b3 : (j : Int) + 16 < 256 := by omega
            have HEJ := hide ej
            have HJ := hide hj
            obtain ⟨x, hx⟩ : ∃ x, (inT (outT 3) 274646895 16 k).getD j 0 = x := ⟨_, rfl⟩
            have hx32 : x < 4294967296 := by rw [← hx]; exact h32.getD j
            have q0 : wr.cell? ⟨w.heap.size + 1, j, none⟩ = some (.int .u32 (x : Nat)) := by rw [kT.cell, u32_at (by omega), hx]
            have q1 : wr.cell? ⟨w.heap.size + 1, j + 16, none⟩ = some (.int .u32 (((inT (outT 3) 274646895 16 k).getD (j + 16) 0 : Nat) : Int)) := by rw [kT.cell, u32_at (by omega)]
            have f1 := kT.frozen (j + 16)
            have hxor := bits_xor_u32_nat x 274646895 hx32 (by omega)
            have hxor : bits BinOp.xor IntKind.u32 (x : Int) 274646895 = ((x ^^^ 274646895 : Nat) : Int) := hxor
            have HIN := hide (show inT (outT 3) 274646895 16 (k + 1) = (inT (outT 3) 274646895 16 k).set (j + 16) (x ^^^ 274646895) by rw [inT, ← hx, hj])
            generalize (inT (outT 3) 274646895 16 k).getD (j + 16) 0 = y at q1
            clear hx hj ej kT kR h32 hlen
            go_wp2
            go_roundw
            case rel =>
              refine ⟨k + 1, by omega, by rw [show (j : Int) + 32 = 32 * ((k + 1 : Nat) : Int) by have := HJ.out; omega], hbw.setCell (p := ⟨w.heap.size + 1, j + 16, none⟩) (by simp) _, by simpa [World.setCell] using hz, ?_, HKR.out.far (p := ⟨w.heap.size + 1, j + 16, none⟩) (by simp) _⟩
              rw [HIN.out, ← u32_set]
              exact HKT.out.set_ _ _
            case measure => have := HJ.out; simp [intOf]; omega
          · obtain rfl : k = 8 := by omega
            have H32' := hide (show All32 (outT (3 + 1)) by rw [HT1.out]; exact h32)
            clear kT kR h32 hlen
            go_wp2
            go_roundw
            case rel => exact ⟨3 + 1, by omega, by go_num, HS1.out, hbw, hz, by rw [HT1.out]; exact HKT.out, H32'.out, cs, HKR.out, HCS.out⟩
            case measure => simp [intOf]
      · rw [show u32V (bitSum 4) = .int .u32 274646895 by kernel_rfl, show ((4 : Nat) : Int) = 4 from rfl]
        have ea : bits BinOp.and IntKind.u32 274646895 1 = 1 := by kernel_rfl
        have ex : bits BinOp.xor IntKind.u32 137323447 2197175160 = 2329499855 := by kernel_rfl
        have HT1 := hide (show outT (4 + 1) = inT (outT 4) 2329499855 8 16 by rw [outT]; exact congrArg (fun s => inT (outT 4) s 8 16) (by kernel_rfl))
        have HS1 := hide (show Value.int .u32 2329499855 = u32V (bitSum (4 + 1)) by kernel_rfl)
        go_wp2
        clear ea ex
        obtain ⟨wo, rfl⟩ : ∃ wo : World, wo = wr := ⟨_, rfl⟩
        go_loopw [6] (fun i wr => ∃ k : Nat, k ≤ 16 ∧ i = .int .i64 (16 * (k : Int)) ∧ Below w.heap.size w wr ∧ w.heap.size + 2 ≤ wr.heap.size ∧ Blk wr (w.heap.size + 1) 329 ((inT (outT 4) 2329499855 8 k).map u32V).toArray ∧ Blk wr w.heap.size 329 cs) (fun i _ => 16 * 16 - (intOf i).toNat)
        case atStart => exact ⟨0, Nat.zero_le _, by go_num, hbw, hz, HKT.out, HKR.out⟩
        case round =>
          clear HKT HKR hbw hz
          obtain ⟨k, hk, rfl, hbw, hz, kT, kR⟩ := hrel
          have HKT := hide kT
          have HKR := hide kR
          have h32 := (H32.out.inT (sum := 2329499855) (by omega) 8 k)
          have hlen := inT_length (outT 4) 2329499855 8 k
          rw [outT_length] at hlen
          by_cases hlt2 : k < 16
          · obtain ⟨j, hj⟩ : ∃ j : Nat, j = 16 * k := ⟨_, rfl⟩
            have ej : (16 : Int) * (k : Int) = (j : Int) := by omega
            rw [ej]
            have b1 : (0 : Int) ≤ j := by omega
            have b2 : (j : Int) < 256 := by omega
            have b3 : (j : Int) + 8 < 256 := by omega
            have HEJ := hide ej
            have HJ := hide hj
            obtain ⟨x, hx⟩ : ∃ x, (inT (outT 4) 2329499855 8 k).getD j 0 = x := ⟨_, rfl⟩
            have hx32 : x < 4294967296 := by rw [← hx]; exact h32.getD j
            have q0 : wr.cell? ⟨w.heap.size + 1, j, none⟩ = some (.int .u32 (x : Nat)) := by rw [kT.cell, u32_at (by omega), hx]
            have q1 : wr.cell? ⟨w.heap.size + 1, j + 8, none⟩ = some (.int .u32 (((inT (outT 4) 2329499855 8 k).getD (j + 8) 0 : Nat) : Int)) := by rw [kT.cell, u32_at (by omega)]
            have f1 := kT.frozen (j + 8)
            have hxor := bits_xor_u32_nat x 2329499855 hx32 (by omega)
            have hxor : bits BinOp.xor IntKind.u32 (x : Int) 2329499855 = ((x ^^^ 2329499855 : Nat) : Int) := hxor
            have HIN := hide (show inT (outT 4) 2329499855 8 (k + 1) = (inT (outT 4) 2329499855 8 k).set (j + 8) (x ^^^ 2329499855) by rw [inT, ← hx, hj])
            generalize (inT (outT 4) 2329499855 8 k).getD (j + 8) 0 = y at q1
            clear hx hj ej kT kR h32 hlen
            go_wp2
            go_roundw
            case rel =>
              refine ⟨k + 1, by omega, by rw [show (j : Int) + 16 = 16 * ((k + 1 : Nat) : Int) by have := HJ.out; omega], hbw.setCell (p := ⟨w.heap.size + 1, j + 8, none⟩) (by simp) _, by simpa [World.setCell] using hz, ?_, HKR.out.far (p := ⟨w.heap.size + 1, j + 8, none⟩) (by simp) _⟩
              rw [HIN.out, ← u32_set]
              exact HKT.out.set_ _ _
            case measure => have := HJ.out; simp [intOf]; omega
          · obtain rfl : k = 16 := by omega
            have H32' := hide (show All32 (outT (4 + 1)) by rw [HT1.out]; exact h32)
            clear kT kR h32 hlen
            go_wp2
            go_roundw
            case rel => exact ⟨4 + 1, by omega, by go_num, HS1.out, hbw, hz, by rw [HT1.out]; exact HKT.out, H32'.out, cs, HKR.out, HCS.out⟩
            case measure => simp [intOf]
      · rw [show u32V (bitSum 5) = .int .u32 2329499855 by kernel_rfl, show ((5 : Nat) : Int) = 5 from rfl]
        have ea : bits BinOp.and IntKind.u32 2329499855 1 = 1 := by kernel_rfl
        have ex : bits BinOp.xor IntKind.u32 1164749927 2197175160 = 3348797215 := by kernel_rfl
        have HT1 := hide (show outT (5 + 1) = inT (outT 5) 3348797215 4 32 by rw [outT]; exact congrArg (fun s => inT (outT 5) s 4 32) (by kernel_rfl))
        have HS1 := hide (show Value.int .u32 3348797215 = u32V (bitSum (5 + 1)) by kernel_rfl)
        go_wp2
        clear ea ex
        obtain ⟨wo, rfl⟩ : ∃ wo : World, wo = wr := ⟨_, rfl⟩
        go_loopw [6] (fun i wr => ∃ k : Nat, k ≤ 32 ∧ i = .int .i64 (8 * (k : Int)) ∧ Below w.heap.size w wr ∧ w.heap.size + 2 ≤ wr.heap.size ∧ Blk wr (w.heap.size + 1) 329 ((inT (outT 5) 3348797215 4 k).map u32V).toArray ∧ Blk wr w.heap.size 329 cs) (fun i _ => 32 * 8 - (intOf i).toNat)
        case atStart => exact ⟨0, Nat.zero_le _, by go_num, hbw, hz, HKT.out, HKR.out⟩
        case round =>
          clear HKT HKR hbw hz
          obtain ⟨k, hk, rfl, hbw, hz, kT, kR⟩ := hrel
          have HKT := hide kT
          have HKR := hide kR
          have h32 := (H32.out.inT (sum := 3348797215) (by omega) 4 k)
          have hlen := inT_length (outT 5) 3348797215 4 k
          rw [outT_length] at hlen
          by_cases hlt2 : k < 32
          · obtain ⟨j, hj⟩ : ∃ j : Nat, j = 8 * k := ⟨_, rfl⟩
            have ej : (8 : Int) * (k : Int) = (j : Int) := by omega
            rw [ej]
            have b1 : (0 : Int) ≤ j := by omega
            have b2 : (j : Int) < 256 := by omega
            have b3 : (j : Int) + 4 < 256 := by omega
            have HEJ := hide ej
            have HJ := hide hj
            obtain ⟨x, hx⟩ : ∃ x, (inT (outT 5) 3348797215 4 k).getD j 0 = x := ⟨_, rfl⟩
            have hx32 : x < 4294967296 := by rw [← hx]; exact h32.getD j
            have q0 : wr.cell? ⟨w.heap.size + 1, j, none⟩ = some (.int .u32 (x : Nat)) := by rw [kT.cell, u32_at (by omega), hx]
            have q1 : wr.cell? ⟨w.heap.size + 1, j + 4, none⟩ = some (.int .u32 (((inT (outT 5) 3348797215 4 k).getD (j + 4) 0 : Nat) : Int)) := by rw [kT.cell, u32_at (by omega)]
            have f1 := kT.frozen (j + 4)
            have hxor := bits_xor_u32_nat x 3348797215 hx32 (by omega)
            have hxor : bits BinOp.xor IntKind.u32 (x : Int) 3348797215 = ((x ^^^ 3348797215 : Nat) : Int) := hxor
            have HIN := hide (show inT (outT 5) 3348797215 4 (k + 1) = (inT (outT 5) 3348797215 4 k).set (j + 4) (x ^^^ 3348797215) by rw [inT, ← hx, hj])
            generalize (inT (outT 5) 3348797215 4 k).getD (j + 4) 0 = y at q1
            clear hx hj ej kT kR h32 hlen
            go_wp2
            go_roundw
            case rel =>
              refine ⟨k + 1, by omega, by rw [show (j : Int) + 8 = 8 * ((k + 1 : Nat) : Int) by have := HJ.out; omega], hbw.setCell (p := ⟨w.heap.size + 1, j + 4, none⟩) (by simp) _, by simpa [World.setCell] using hz, ?_, HKR.out.far (p := ⟨w.heap.size + 1, j + 4, none⟩) (by simp) _⟩
              rw [HIN.out, ← u32_set]
              exact HKT.out.set_ _ _
            case measure => have := HJ.out; simp [intOf]; omega
          · obtain rfl : k = 32 := by omega
            have H32' := hide (show All32 (outT (5 + 1)) by rw [HT1.out]; exact h32)
            clear kT kR h32 hlen
            go_wp2
            go_roundw
            case rel => exact ⟨5 + 1, by omega, by go_num, HS1.out, hbw, hz, by rw [HT1.out]; exact HKT.out, H32'.out, cs, HKR.out, HCS.out⟩
            case measure => simp [intOf]
      · rw [show u32V (bitSum 6) = .int .u32 3348797215 by kernel_rfl, show ((6 : Nat) : Int) = 6 from rfl]
        have ea : bits BinOp.and IntKind.u32 3348797215 1 = 1 := by kernel_rfl
        have ex : bits BinOp.xor IntKind.u32 1674398607 2197175160 = 3778769143 := by kernel_rfl
        have HT1 := hide (show outT (6 + 1) = inT (outT 6) 3778769143 2 64 by rw [outT]; exact congrArg (fun s => inT (outT 6) s 2 64) (by kernel_rfl))
        have HS1 := hide (show Value.int .u32 3778769143 = u32V (bitSum (6 + 1)) by kernel_rfl)
        go_wp2
        clear ea ex
        obtain ⟨wo, rfl⟩ : ∃ wo : World, wo = wr := ⟨_, rfl⟩
        go_loopw [6] (fun i wr => ∃ k : Nat, k ≤ 64 ∧ i = .int .i64 (4 * (k : Int)) ∧ Below w.heap.size w wr ∧ w.heap.size + 2 ≤ wr.heap.size ∧ Blk wr (w.heap.size + 1) 329 ((inT (outT 6) 3778769143 2 k).map u32V).toArray ∧ Blk wr w.heap.size 329 cs) (fun i _ => 64 * 4 - (intOf i).toNat)
        case atStart => exact ⟨0, Nat.zero_le _, by go_num, hbw, hz, HKT.out, HKR.out⟩
        case round =>
          clear HKT HKR hbw hz
          obtain ⟨k, hk, rfl, hbw, hz, kT, kR⟩ := hrel
          have HKT := hide kT
          have HKR := hide kR
          have h32 := (H32.out.inT (sum := 3778769143) (by omega) 2 k)
          have hlen := inT_length (outT 6) 3778769143 2 k
          rw [outT_length] at hlen
          by_cases hlt2 : k < 64
          · obtain ⟨j, hj⟩ : ∃ j : Nat, j = 4 * k := ⟨_, rfl⟩
            have ej : (4 : Int) * (k : Int) = (j : Int) := by omega
            rw [ej]
            have b1 : (0 : Int) ≤ j := by omega
            have b2 : (j : Int) < 256 := by omega
            have b3 : (j : Int) + 2 < 256 := by omega
            have HEJ := hide ej
            have HJ := hide hj
            obtain ⟨x, hx⟩ : ∃ x, (inT (outT 6) 3778769143 2 k).getD j 0 = x := ⟨_, rfl⟩
            have hx32 : x < 4294967296 := by rw [← hx]; exact h32.getD j
            have q0 : wr.cell? ⟨w.heap.size + 1, j, none⟩ = some (.int .u32 (x : Nat)) := by rw [kT.cell, u32_at (by omega), hx]
            have q1 : wr.cell? ⟨w.heap.size + 1, j + 2, none⟩ = some (.int .u32 (((inT (outT 6) 3778769143 2 k).getD (j + 2) 0 : Nat) : Int)) := by rw [kT.cell, u32_at (by omega)]
            have f1 := kT.frozen (j + 2)
            have hxor := bits_xor_u32_nat x 3778769143 hx32 (by omega)
            have hxor : bits BinOp.xor IntKind.u32 (x : Int) 3778769143 = ((x ^^^ 3778769143 : Nat) : Int) := hxor
            have HIN := hide (show inT (outT 6) 3778769143 2 (k + 1) = (inT (outT 6) 3778769143 2 k).set (j + 2) (x ^^^ 3778769143) by rw [inT, ← hx, hj])
            generalize (inT (outT 6) 3778769143 2 k).getD (j + 2) 0 = y at q1
            clear hx hj ej kT kR h32 hlen
            go_wp2
            go_roundw
            case rel =>
              refine ⟨k + 1, by omega, by rw [show (j : Int) + 4 = 4 * ((k + 1 : Nat) : Int) by have := HJ.out; omega], hbw.setCell (p := ⟨w.heap.size + 1, j + 2, none⟩) (by simp) _, by simpa [World.setCell] using hz, ?_, HKR.out.far (p := ⟨w.heap.size + 1, j + 2, none⟩) (by simp) _⟩
              rw [HIN.out, ← u32_set]
              exact HKT.out.set_ _ _
            case measure => have := HJ.out; simp [intOf]; omega
          · obtain rfl : k = 64 := by omega
            have H32' := hide (show All32 (outT (6 + 1)) by rw [HT1.out]; exact h32)
            clear kT kR h32 hlen
            go_wp2
            go_roundw
            case rel => exact ⟨6 + 1, by omega, by go_num, HS1.out, hbw, hz, by rw [HT1.out]; exact HKT.out, H32'.out, cs, HKR.out, HCS.out⟩
            case measure => simp [intOf]
      · rw [show u32V (bitSum 7) = .int .u32 3778769143 by kernel_rfl, show ((7 : Nat) : Int) = 7 from rfl]
        have ea : bits BinOp.and IntKind.u32 3778769143 1 = 1 := by kernel_rfl
        have ex : bits BinOp.xor IntKind.u32 1889384571 2197175160 = 4067132163 := by kernel_rfl
        have HT1 := hide (show outT (7 + 1) = inT (outT 7) 4067132163 1 128 by rw [outT]; exact congrArg (fun s => inT (outT 7) s 1 128) (by kernel_rfl))
        have HS1 := hide (show Value.int .u32 4067132163 = u32V (bitSum (7 + 1)) by kernel_rfl)
        go_wp2
        clear ea ex
        obtain ⟨wo, rfl⟩ : ∃ wo : World, wo = wr := ⟨_, rfl⟩
        go_loopw [6] (fun i wr => ∃ k : Nat, k ≤ 128 ∧ i = .int .i64 (2 * (k : Int)) ∧ Below w.heap.size w wr ∧ w.heap.size + 2 ≤ wr.heap.size ∧ Blk wr (w.heap.size + 1) 329 ((inT (outT 7) 4067132163 1 k).map u32V).toArray ∧ Blk wr w.heap.size 329 cs) (fun i _ => 128 * 2 - (intOf i).toNat)
        case atStart => exact ⟨0, Nat.zero_le _, by go_num, hbw, hz, HKT.out, HKR.out⟩
        case round =>
          clear HKT HKR hbw hz
          obtain ⟨k, hk, rfl, hbw, hz, kT, kR⟩ := hrel
          have HKT := hide kT
          have HKR := hide kR
          have h32 := (H32.out.inT (sum := 4067132163) (by omega) 1 k)
          have hlen := inT_length (outT 7) 4067132163 1 k
          rw [outT_length] at hlen
          by_cases hlt2 : k < 128
          · obtain ⟨j, hj⟩ : ∃ j : Nat, j = 2 * k := ⟨_, rfl⟩
            have ej : (2 : Int) * (k : Int) = (j : Int) := by omega
            rw [ej]
            have b1 : (0 : Int) ≤ j := by omega
            have b2 : (j : Int) < 256 := by omega
            have b3 : (j : Int) + 1 < 256 := by omega
            have HEJ := hide ej
            have HJ := hide hj
            obtain ⟨x, hx⟩ : ∃ x, (inT (outT 7) 4067132163 1 k).getD j 0 = x := ⟨_, rfl⟩
            have hx32 : x < 4294967296 := by rw [← hx]; exact h32.getD j
            have q0 : wr.cell? ⟨w.heap.size + 1, j, none⟩ = some (.int .u32 (x : Nat)) := by rw [kT.cell, u32_at (by omega), hx]
            have q1 : wr.cell? ⟨w.heap.size + 1, j + 1, none⟩ = some (.int .u32 (((inT (outT 7) 4067132163 1 k).getD (j + 1) 0 : Nat) : Int)) := by rw [kT.cell, u32_at (by omega)]
            have f1 := kT.frozen (j + 1)
            have hxor := bits_xor_u32_nat x 4067132163 hx32 (by omega)
            have hxor : bits BinOp.xor IntKind.u32 (x : Int) 4067132163 = ((x ^^^ 4067132163 : Nat) : Int) := hxor
            have HIN := hide (show inT (outT 7) 4067132163 1 (k + 1) = (inT (outT 7) 4067132163 1 k).set (j + 1) (x ^^^ 4067132163) by rw [inT, ← hx, hj])
            generalize (inT (outT 7) 4067132163 1 k).getD (j + 1) 0 = y at q1
            clear hx hj ej kT kR h32 hlen
            go_wp2
            go_roundw
            case rel =>
              refine ⟨k + 1, by omega, by rw [show (j : Int) + 2 = 2 * ((k + 1 : Nat) : Int) by have := HJ.out; omega], hbw.setCell (p := ⟨w.heap.size + 1, j + 1, none⟩) (by simp) _, by simpa [World.setCell] using hz, ?_, HKR.out.far (p := ⟨w.heap.size + 1, j + 1, none⟩) (by simp) _⟩
              rw [HIN.out, ← u32_set]
              exact HKT.out.set_ _ _
            case measure => have := HJ.out; simp [intOf]; omega
          · obtain rfl : k = 128 := by omega
            have H32' := hide (show All32 (outT (7 + 1)) by rw [HT1.out]; exact h32)
            clear kT kR h32 hlen
            go_wp2
            go_roundw
            case rel => exact ⟨7 + 1, by omega, by go_num, HS1.out, hbw, hz, by rw [HT1.out]; exact HKT.out, H32'.out, cs, HKR.out, HCS.out⟩
            case measure => simp [intOf]
    · obtain rfl : b = 8 := by omega
      have hsz : ((outT 8).map u32V).toArray.size = 256 := by rw [List.size_toArray, List.length_map, outT_length]
      have hii : (Tryz.prog.info? 329).map (·.size) = some ((outT 8).map u32V).toArray.size := by rw [hsz]; kernel_rfl
      have h1c : ((outT 8).map u32V).toArray.all (·.oneCell') = true := Array.all_eq_true_iff_forall_mem.2 (fun v hv => by
        have hv : v ∈ (outT 8).map u32V := by simpa using hv
        obtain ⟨x, _, rfl⟩ := List.mem_map.1 hv
        rfl)
      have hold : cs.size = ((outT 8).map u32V).toArray.size := by rw [HCS.out, hsz]
      have hK2 : Blk (wr.setRow w.heap.size ((outT 8).map u32V).toArray) w.heap.size 329 ((outT 8).map u32V).toArray := setRow_heap wr w.heap.size cs _ _ _ HKR.out
      have hb2 : Below w.heap.size w (wr.setRow w.heap.size ((outT 8).map u32V).toArray) := (touch_setRow wr w.heap.size _).below hbw (Nat.le_refl _)
      have HI := hide hii
      have H1 := hide h1c
      have HO := hide hold
      have HK := hide hK2
      clear hsz hii h1c hold hK2
      generalize hX : ((outT 8).map u32V).toArray = X at *
      have HX := hide hX
      clear hX
      go_wp2_with (first
        | (refine wpList_load_row rfl 329 (.tmp 1) rfl (w.heap.size + 1) rfl 329 X (0, 0) _ HKT.out Tryz.underlying329 rfl HI.out ?_)
        | (refine wpList_store_row rfl 329 (.tmp 0) (.tmp 37) rfl w.heap.size X rfl rfl 329 cs HKR.out HI.out HO.out H1.out ?_))
      exact bodyPost_ret (results_cell_row Tryz.results251 _ _ w.heap.size 329 X (0, 0) _ rfl HK.out Tryz.underlying329 rfl HI.out) rfl ⟨by rw [HX.out], hb2⟩
end Go.Proofs.YtnanlaefehaifaaGreat
namespace Go.Proofs.YtnanlaefehaifaaGreat
open Go.RowKit
def crcStep (s : Nat) (c : UInt8) : Nat := (s / 256) ^^^ (outT 8).getD ((s % 256) ^^^ c.toNat) 0
def moreD (s : Nat) (bs : List UInt8) : Nat := 4294967295 - bs.foldl crcStep (4294967295 - s)
theorem all32_8 : All32 (outT 8) := by
  have h : ∀ b, b ≤ 8 → All32 (outT b) := by
    intro b
    induction b with
    | zero => exact fun _ => all32_zero
    | succ b ih =>
      intro hb
      rw [outT]
      refine (ih (by omega)).inT ?_ _ _
      have hb8 : b = 0 ∨ b = 1 ∨ b = 2 ∨ b = 3 ∨ b = 4 ∨ b = 5 ∨ b = 6 ∨ b = 7 := by omega
      rcases hb8 with rfl | rfl | rfl | rfl | rfl | rfl | rfl | rfl <;> exact Nat.le_of_ble_eq_true (by kernel_rfl)
  exact h 8 (Nat.le_refl _)
theorem crcStep_lt (s : Nat) (c : UInt8) (hs : s < 4294967296) : crcStep s c < 4294967296 :=
  Nat.xor_lt_two_pow (n := 32) (by omega) (all32_8.getD _)
theorem crcFold_lt (bs : List UInt8) : ∀ s, s < 4294967296 → bs.foldl crcStep s < 4294967296 := by
  induction bs with
  | nil => exact fun _ h => h
  | cons b bs ih => exact fun s h => ih _ (crcStep_lt s b h)
theorem bits_xor_u8_nat (a b : Nat) (ha : a < 256) (hb : b < 256) : bits .xor .u8 (a : Int) (b : Int) = ((a ^^^ b : Nat) : Int) := by
  have hx : a ^^^ b < 2 ^ 8 := Nat.xor_lt_two_pow (by omega) (by omega)
  have h1 : (BitVec.ofInt 8 (a : Int)).toNat = a := by
    rw [BitVec.ofInt_natCast, BitVec.toNat_ofNat]; exact Nat.mod_eq_of_lt (by omega)
  have h2 : (BitVec.ofInt 8 (b : Int)).toNat = b := by
    rw [BitVec.ofInt_natCast, BitVec.toNat_ofNat]; exact Nat.mod_eq_of_lt (by omega)
  show IntKind.u8.wrap ((BitVec.ofInt 8 (a : Int) ^^^ BitVec.ofInt 8 (b : Int)).toNat : Int) = _
  rw [BitVec.toNat_xor, h1, h2, IntKind.wrap_u8]
  omega
theorem bits_not_u32 (s : Nat) (hs : s < 4294967296) : bits .xor .u32 IntKind.u32.max (s : Int) = ((4294967295 - s : Nat) : Int) := by
  have h1 : bits .xor .u32 IntKind.u32.max (s : Int) = ((4294967295 ^^^ s : Nat) : Int) := bits_xor_u32_nat 4294967295 s (by omega) hs
  rw [h1]
  have h2 : (BitVec.allOnes 32 ^^^ BitVec.ofNat 32 s) = ~~~ (BitVec.ofNat 32 s) := BitVec.allOnes_xor
  have h3 := congrArg BitVec.toNat h2
  rw [BitVec.toNat_xor, BitVec.toNat_not, BitVec.toNat_allOnes, BitVec.toNat_ofNat, Nat.mod_eq_of_lt (by omega)] at h3
  have h4 : 4294967295 ^^^ s = 4294967295 - s := h3
  rw [h4]
theorem more_any (s : Nat) (A : Option Addr) (n c : Nat) (bs : List UInt8) (B : Nat) (w : World) (hs : s < 4294967296) (hB : B ≤ w.heap.size) (hm : n ≤ 100000000) (hn : n = bs.length) (hr : Reads w B 1 A n (bs.map byteV)) :
    Calls Tryz.prog 228 #[.int .u32 (s : Nat), .slice A n c] w fun e w' => e = .returned (.int .u32 ((moreD s bs : Nat) : Int)) ∧ Below w.heap.size w w' := by
  have HT := hide (fun W => table_any W)
  have HR := hide hr
  have HN := hide hn
  have hsz : ((outT 8).map u32V).toArray.size = 256 := by rw [List.size_toArray, List.length_map, outT_length]
  have hii : (Tryz.prog.info? 329).map (·.size) = some ((outT 8).map u32V).toArray.size := by rw [hsz]; kernel_rfl
  have h1c : ((outT 8).map u32V).toArray.all (·.oneCell') = true := Array.all_eq_true_iff_forall_mem.2 (fun v hv => by
    have hv : v ∈ (outT 8).map u32V := by simpa using hv
    obtain ⟨x, _, rfl⟩ := List.mem_map.1 hv
    rfl)
  have hat : ∀ i, i < 256 → ((outT 8).map u32V).toArray[i]? = some (.int .u32 (((outT 8).getD i 0 : Nat) : Int)) := fun i hi => u32_at (by rw [outT_length]; omega)
  have hzc : Tryz.zeroCells329.size = ((outT 8).map u32V).toArray.size := by rw [hsz]; kernel_rfl
  have HI := hide hii
  have H1 := hide h1c
  have HA := hide hat
  have HZ := hide hzc
  clear hr hn hsz hii h1c hat hzc
  generalize hX : ((outT 8).map u32V).toArray = X at *
  clear hX
  go_enter Tryz.func228, Tryz.ntmps228
  go_wp2_with (first
    | (refine (HT.out _).mono ?_; rintro e w1 ⟨rfl, hb1⟩)
    | (refine wpList_store_row rfl 329 (.tmp 5) (.tmp 9) rfl w1.heap.size X rfl rfl 329 Tryz.zeroCells329 (Blk.new w1 _ _) HI.out HZ.out H1.out ?_))
  obtain ⟨wq, hwq⟩ : ∃ wq, wq = (w1.alloc (Obj.cells Tryz.zeroCells329 329)).setRow w1.heap.size X := ⟨_, rfl⟩
  have kX : Blk wq w1.heap.size 329 X := by rw [hwq]; exact setRow_heap _ w1.heap.size _ _ _ _ (Blk.new w1 _ _)
  have hbq : Below w.heap.size w wq := by rw [hwq]; exact (touch_setRow _ w1.heap.size _).below (hb1.alloc hb1.size _) hb1.size
  rw [← hwq]
  clear hwq
  have HX := hide kX
  clear kX
  go_loopw [6, 14] (fun sv iv wr => wr = wq ∧ ∃ k : Nat, k ≤ n ∧ iv = .int .i64 k ∧ sv = .int .u32 (((bs.take k).foldl crcStep (4294967295 - s) : Nat) : Int)) (fun _ iv _ => n - (intOf iv).toNat)
  case atStart => exact ⟨rfl, 0, Nat.zero_le _, rfl, by rw [List.take_zero, List.foldl_nil, bits_not_u32 s hs]⟩
  case round =>
    obtain ⟨rfl, k, hk, rfl, rfl⟩ := hrel
    have hst := crcFold_lt (bs.take k) (4294967295 - s) (by omega)
    generalize hS : (bs.take k).foldl crcStep (4294967295 - s) = st at hst ⊢
    by_cases hlt : k < n
    · obtain ⟨b, o, rfl, hbB, hcell⟩ := (HR.out.below hbq hB).plain (by omega) (by omega)
      have hkb : k < bs.length := by have := HN.out; omega
      have hc := hcell k (byteV bs[k]) (by rw [List.getElem?_map, List.getElem?_eq_getElem hkb]; rfl)
      obtain ⟨x, hx⟩ : ∃ x, bs[k] = x := ⟨_, rfl⟩
      rw [hx] at hc
      replace hc : wr.cell? ⟨b, o + k, none⟩ = some (.int .u8 ((x.toNat : Nat) : Int)) := hc
      have hxl := x.toNat_lt
      obtain ⟨y, hy⟩ : ∃ y, y = x.toNat := ⟨_, rfl⟩
      rw [← hy] at hc hxl
      have e1 : bits BinOp.xor IntKind.u8 ((st : Int) % 256) (y : Int) = (((st % 256) ^^^ y : Nat) : Int) := bits_xor_u8_nat (st % 256) y (by omega) (by omega)
      obtain ⟨z, hz⟩ : ∃ z, z = (st % 256) ^^^ y := ⟨_, rfl⟩
      have hzl : z < 256 := by rw [hz]; exact Nat.xor_lt_two_pow (n := 8) (by omega) (by omega)
      rw [← hz] at e1
      have qT : wr.cell? ⟨w1.heap.size, z, none⟩ = some (.int .u32 (((outT 8).getD z 0 : Nat) : Int)) := by rw [HX.out.cell]; exact HA.out z hzl
      have hTz := all32_8.getD z
      obtain ⟨u, hu⟩ : ∃ u, u = (outT 8).getD z 0 := ⟨_, rfl⟩
      rw [← hu] at qT hTz
      have e2 : bits BinOp.xor IntKind.u32 ((st : Int) / 256) (u : Int) = (((st / 256) ^^^ u : Nat) : Int) := bits_xor_u32_nat (st / 256) u (by omega) hTz
      have HS := hide (show (bs.take (k + 1)).foldl crcStep (4294967295 - s) = (st / 256) ^^^ u by
        rw [List.take_succ_eq_append_getElem hkb, List.foldl_append, hS, hx]
        show crcStep st x = _
        rw [crcStep, ← hy, ← hz, ← hu])
      clear hS hx hy hz hu hcell hkb hTz
      go_wp2
      go_roundw
      case rel => exact ⟨trivial, k + 1, by omega, by go_num, by rw [HS.out]⟩
      case measure => simp [intOf]; omega
    · obtain rfl : k = n := by omega
      rw [HN.out, List.take_length] at hS
      have HS := hide hS
      clear hS
      go_wp2
      go_ret
      refine ⟨?_, hbq⟩
      rw [moreD, HS.out]
      exact congrArg (fun z => Ending.returned (Value.int .u32 z)) (bits_not_u32 st hst)
theorem sum_any (A : Option Addr) (n c : Nat) (bs : List UInt8) (B : Nat) (w : World) (hB : B ≤ w.heap.size) (hm : n ≤ 100000000) (hn : n = bs.length) (hr : Reads w B 1 A n (bs.map byteV)) :
    Calls Tryz.prog 181 #[.slice A n c] w fun e w' => e = .returned (.int .u32 ((moreD 0 bs : Nat) : Int)) ∧ Below w.heap.size w w' := by
  have HM := hide (more_any 0 A n c bs B w (by omega) hB hm hn hr)
  clear hr hn
  go_enter Tryz.func181, Tryz.ntmps181
  go_wp2_with (refine HM.out.mono ?_; rintro e w1 ⟨rfl, hb1⟩)
  go_ret
  exact ⟨rfl, hb1⟩
end Go.Proofs.YtnanlaefehaifaaGreat
namespace Go.Proofs.YtnanlaefehaifaaGreat
open Go.RowKit
def bitR (v : Nat) : Nat := if v % 2 = 1 then v / 2 ^^^ 2197175160 else v / 2
def bitsR : Nat → Nat → Nat
  | 0, v => v
  | n + 1, v => bitsR n (bitR v)
def stepR (s : Nat) (c : UInt8) : Nat := bitsR 8 (s ^^^ c.toNat)
def moreR (s : Nat) (bs : List UInt8) : Nat := 4294967295 - bs.foldl stepR (4294967295 - s)
theorem bitR_xor (a b : Nat) : bitR (a ^^^ b) = bitR a ^^^ bitR b := by
  have h1 : (a ^^^ b) / 2 = a / 2 ^^^ b / 2 := by have := Nat.xor_div_two_pow (a := a) (b := b) (n := 1); simpa using this
  have h2 : (a ^^^ b) % 2 = (a % 2) ^^^ (b % 2) := by have := Nat.xor_mod_two_pow (a := a) (b := b) (n := 1); simpa using this
  unfold bitR
  rw [h1, h2]
  rcases Nat.mod_two_eq_zero_or_one a with ha | ha <;> rcases Nat.mod_two_eq_zero_or_one b with hb | hb <;> rw [ha, hb]
  · simp
  · simp [Nat.xor_assoc]
  · rw [if_pos (by decide), if_pos rfl, if_neg (by decide), Nat.xor_assoc, Nat.xor_assoc, Nat.xor_comm 2197175160]
  · simp only [Nat.xor_self, if_true]
    rw [if_neg (by decide), Nat.xor_assoc, ← Nat.xor_assoc 2197175160, Nat.xor_comm 2197175160 (b / 2), Nat.xor_assoc (b / 2), Nat.xor_self, Nat.xor_zero]
theorem bitsR_xor : ∀ (n a b : Nat), bitsR n (a ^^^ b) = bitsR n a ^^^ bitsR n b
  | 0, _, _ => rfl
  | n + 1, a, b => by rw [bitsR, bitR_xor, bitsR_xor n]; rfl
theorem bitsR_shift : ∀ (n h : Nat), bitsR n (2 ^ n * h) = h
  | 0, h => by simp [bitsR]
  | n + 1, h => by
    have h1 : 2 ^ (n + 1) * h = 2 * (2 ^ n * h) := by rw [Nat.pow_succ, Nat.mul_comm (2 ^ n) 2, Nat.mul_assoc]
    rw [bitsR, h1]
    have h2 : bitR (2 * (2 ^ n * h)) = 2 ^ n * h := by unfold bitR; rw [if_neg (by omega)]; omega
    rw [h2, bitsR_shift n]
theorem outT_bits : outT 8 = (List.range 256).map (bitsR 8) := by kernel_rfl
theorem split_xor (x : Nat) : x = 2 ^ 8 * (x / 256) ^^^ (x % 256) := by
  apply Nat.eq_of_testBit_eq
  intro i
  have h := Nat.testBit_two_pow_mul_add (x / 256) (i := 8) (b := x % 256) (Nat.mod_lt _ (by omega)) i
  have hx : 2 ^ 8 * (x / 256) + x % 256 = x := by omega
  rw [hx] at h
  rw [h, Nat.testBit_xor, Nat.testBit_two_pow_mul]
  by_cases hi : i < 8
  · rw [if_pos hi]
    have : decide (i ≥ 8) = false := by simp; omega
    simp [this]
  · rw [if_neg hi]
    have h8 : decide (i ≥ 8) = true := by simp; omega
    have hi8 : 8 ≤ i := by omega
    have hlt : x % 256 < 2 ^ i := Nat.lt_of_lt_of_le (Nat.mod_lt x (by decide : 0 < 256)) (Nat.pow_le_pow_right (n := 2) (by decide) hi8)
    rw [Nat.testBit_lt_two_pow hlt, h8]
    simp
theorem crcStep_eq (s : Nat) (c : UInt8) : crcStep s c = stepR s c := by
  have hc : c.toNat < 256 := c.toNat_lt
  have h1 : (s ^^^ c.toNat) / 256 = s / 256 := by
    have := Nat.xor_div_two_pow (a := s) (b := c.toNat) (n := 8)
    rw [show (2 : Nat) ^ 8 = 256 from rfl, Nat.div_eq_of_lt hc, Nat.xor_zero] at this
    exact this
  have h2 : (s ^^^ c.toNat) % 256 = s % 256 ^^^ c.toNat := by
    have := Nat.xor_mod_two_pow (a := s) (b := c.toNat) (n := 8)
    rw [show (2 : Nat) ^ 8 = 256 from rfl, Nat.mod_eq_of_lt hc] at this
    exact this
  have h3 : s % 256 ^^^ c.toNat < 256 := Nat.xor_lt_two_pow (n := 8) (Nat.mod_lt _ (by omega)) hc
  unfold crcStep stepR
  rw [split_xor (s ^^^ c.toNat), bitsR_xor, bitsR_shift, h1, h2, outT_bits, List.getD_eq_getElem?_getD, List.getElem?_map, List.getElem?_range h3]
  rfl
theorem moreD_eq (s : Nat) (bs : List UInt8) : moreD s bs = moreR s bs := by
  unfold moreD moreR
  rw [show crcStep = stepR from funext fun s => funext fun c => crcStep_eq s c]
theorem bitR_lt (v : Nat) (hv : v < 4294967296) : bitR v < 4294967296 := by
  unfold bitR
  split
  · exact Nat.xor_lt_two_pow (n := 32) (by omega) (by omega)
  · omega
theorem bitsR_lt : ∀ (n v : Nat), v < 4294967296 → bitsR n v < 4294967296
  | 0, _, h => h
  | n + 1, v, h => bitsR_lt n _ (bitR_lt v h)
theorem stepR_lt (s : Nat) (c : UInt8) (hs : s < 4294967296) : stepR s c < 4294967296 :=
  bitsR_lt 8 _ (Nat.xor_lt_two_pow (n := 32) hs (by have := c.toNat_lt; omega))
theorem foldR_lt (bs : List UInt8) : ∀ s, s < 4294967296 → bs.foldl stepR s < 4294967296 := by
  induction bs with
  | nil => exact fun _ h => h
  | cons b bs ih => exact fun s h => ih _ (stepR_lt s b h)
theorem bitsR_succ : ∀ (n v : Nat), bitsR (n + 1) v = bitR (bitsR n v)
  | 0, _ => rfl
  | n + 1, v => bitsR_succ n (bitR v)
theorem bit_any (v : Nat) (hv : v < 4294967296) (w : World) : Calls Tryz.prog 192 #[.int .u32 (v : Nat)] w fun e w' => e = .returned (.int .u32 ((bitR v : Nat) : Int)) ∧ w' = w := by
  by_cases h : v % 2 = 1
  · have HB := hide (show bitR v = v / 2 ^^^ 2197175160 from if_pos h)
    have e1 : bits BinOp.xor IntKind.u32 ((v : Int) / 2) 2197175160 = ((v / 2 ^^^ 2197175160 : Nat) : Int) := bits_xor_u32_nat (v / 2) 2197175160 (by omega) (by omega)
    have h1 : (((v : Int) % 2) == 1) = true := by rw [beq_iff_eq]; omega
    have h2 : (v : Int) % 2 = 1 := by omega
    clear h
    rw [HB.out]
    go_enter Tryz.func192, Tryz.ntmps192
    go_wp2
    go_ret
    exact ⟨rfl, rfl⟩
  · have HB := hide (show bitR v = v / 2 from if_neg h)
    have h2 : (v : Int) % 2 = 0 := by omega
    clear h
    rw [HB.out]
    go_enter Tryz.func192, Tryz.ntmps192
    go_wp2
    go_ret
    exact ⟨rfl, rfl⟩
theorem moreR_any (s : Nat) (A : Option Addr) (n c : Nat) (bs : List UInt8) (B : Nat) (w : World) (hs : s < 4294967296) (hm : n ≤ 100000000) (hn : n = bs.length) (hr : Reads w B 1 A n (bs.map byteV)) :
    Calls Tryz.prog 131 #[.int .u32 (s : Nat), .slice A n c] w fun e w' => e = .returned (.int .u32 ((moreR s bs : Nat) : Int)) ∧ w' = w := by
  have HR := hide hr
  have HN := hide hn
  have HBI := hide (fun v hv W => bit_any v hv W)
  clear hr hn
  go_enter Tryz.func131, Tryz.ntmps131
  go_wp2
  go_loopw [5, 6] (fun sv iv wr => wr = w ∧ ∃ k : Nat, k ≤ n ∧ iv = .int .i64 k ∧ sv = .int .u32 (((bs.take k).foldl stepR (4294967295 - s) : Nat) : Int)) (fun _ iv _ => n - (intOf iv).toNat)
  case atStart => exact ⟨rfl, 0, Nat.zero_le _, rfl, by rw [List.take_zero, List.foldl_nil]; congr 1; omega⟩
  case round =>
    obtain ⟨rfl, k, hk, rfl, rfl⟩ := hrel
    have hst := foldR_lt (bs.take k) (4294967295 - s) (by omega)
    generalize hS : (bs.take k).foldl stepR (4294967295 - s) = st at hst ⊢
    by_cases hlt : (k : Int) < n
    · obtain ⟨b, o, rfl, hbB, hcell⟩ := HR.out.plain (by omega) (by omega)
      have hkb : k < bs.length := by have := HN.out; omega
      have hc := hcell k (byteV bs[k]) (by rw [List.getElem?_map, List.getElem?_eq_getElem hkb]; rfl)
      obtain ⟨x, hx⟩ : ∃ x, bs[k] = x := ⟨_, rfl⟩
      rw [hx] at hc
      replace hc : wr.cell? ⟨b, o + k, none⟩ = some (.int .u8 ((x.toNat : Nat) : Int)) := hc
      have hxl := x.toNat_lt
      obtain ⟨y, hy⟩ : ∃ y, y = x.toNat := ⟨_, rfl⟩
      rw [← hy] at hc hxl
      have e1 : bits BinOp.xor IntKind.u32 (st : Int) (y : Int) = ((st ^^^ y : Nat) : Int) := bits_xor_u32_nat st y (by omega) (by omega)
      obtain ⟨z, hz⟩ : ∃ z, z = st ^^^ y := ⟨_, rfl⟩
      have hzl : z < 4294967296 := by rw [hz]; exact Nat.xor_lt_two_pow (n := 32) (by omega) (by omega)
      rw [← hz] at e1
      have HS := hide (show (bs.take (k + 1)).foldl stepR (4294967295 - s) = bitsR 8 z by
        rw [List.take_succ_eq_append_getElem hkb, List.foldl_append, hS, hx]
        show stepR st x = _
        rw [stepR, ← hy, ← hz])
      have u0 : (0 : Int) ≤ k := by omega
      clear hS hx hy hz hcell hkb
      go_wp2
      go_loopw [5, 7] (fun sv jv wx => wx = wr ∧ ∃ j : Nat, j ≤ 8 ∧ jv = .int .i64 j ∧ sv = .int .u32 ((bitsR j z : Nat) : Int)) (fun _ jv _ => 8 - (intOf jv).toNat)
      case atStart => exact ⟨rfl, 0, by omega, rfl, rfl⟩
      case round =>
        obtain ⟨rfl, j, hj, rfl, rfl⟩ := hrel
        have hjl := bitsR_lt j z hzl
        have HJ := hide (bitsR_succ j z)
        by_cases hj8 : (j : Int) < 8
        · have hb := hide (HBI.out (bitsR j z) hjl)
          generalize bitsR j z = v at *
          go_wp2_with (go_at_call 192; refine (hb.out _).mono ?_; rintro e w' ⟨rfl, hw'⟩; obtain rfl := hw'.symm)
          go_roundw
          case rel => exact ⟨by trivial, j + 1, by omega, by go_num, by rw [HJ.out]⟩
          case measure => simp [intOf]; omega
        · obtain rfl : j = 8 := by omega
          go_wp2
          go_roundw
          case rel => exact ⟨by trivial, k + 1, by omega, by go_num, by rw [HS.out]⟩
          case measure => simp [intOf]; omega
    · have HE := hide (show 4294967295 - st = moreR s bs by rw [moreR, ← hS, List.take_of_length_le (by have := HN.out; omega)])
      clear hS
      go_wp2
      go_ret
      exact ⟨by rw [← HE.out, Int.natCast_sub (by omega)]; rfl, rfl⟩
end Go.Proofs.YtnanlaefehaifaaGreat
namespace Go.Proofs.YtnanlaefehaifaaGreat
open Go.RowKit
def numB (bs : List UInt8) : Nat := bs.foldl (fun u b => 256 * u + b.toNat) 0
theorem numB_snoc (bs : List UInt8) (b : UInt8) : numB (bs ++ [b]) = 256 * numB bs + b.toNat := by simp [numB]
theorem numB_lt (bs : List UInt8) : numB bs < 256 ^ bs.length := by
  have h : ∀ (l : List UInt8) (u : Nat), l.foldl (fun u b => 256 * u + b.toNat) u < (u + 1) * 256 ^ l.length := by
    intro l
    induction l with
    | nil => intro u; simp
    | cons b l ih =>
      intro u
      refine Nat.lt_of_lt_of_le (ih _) ?_
      have hb := b.toNat_lt
      rw [List.length_cons, Nat.pow_succ, Nat.mul_comm (256 ^ l.length) 256, ← Nat.mul_assoc]
      exact Nat.mul_le_mul_right _ (by show 256 * u + b.toNat + 1 ≤ (u + 1) * 256; omega)
  simpa [numB] using h bs 0
def cutB (bs : List UInt8) (at_ width : Nat) : List UInt8 := (bs.drop at_).take width
def numI (bs : List UInt8) : Int := wrap64 (numB bs : Nat)
theorem numB_lt64 (bs : List UInt8) (h : bs.length ≤ 8) : numB bs < 18446744073709551616 :=
  Nat.lt_of_lt_of_le (numB_lt bs) (Nat.le_trans (Nat.pow_le_pow_right (by decide) h) (by decide))
theorem cutB_succ {bs : List UInt8} {at_ k : Nat} {x : UInt8} (h : bs[at_ + k]? = some x) : cutB bs at_ (k + 1) = cutB bs at_ k ++ [x] := by
  unfold cutB
  have h1 : (bs.drop at_)[k]? = some x := by rw [List.getElem?_drop]; exact h
  obtain ⟨hk, e⟩ := List.getElem?_eq_some_iff.1 h1
  rw [List.take_succ_eq_append_getElem hk, e]
theorem atR_any (A : Option Addr) (n c : Nat) (bs : List UInt8) (at_ width : Nat) (B : Nat) (w : World) (hm : n ≤ 100000000) (hn : n = bs.length) (hr : Reads w B 1 A n (bs.map byteV)) (h1 : 1 ≤ width) (h8 : width ≤ 8) (hin : at_ + width ≤ n) :
    Calls Tryz.prog 132 #[.slice A n c, .int .i64 (at_ : Nat), .int .i64 (width : Nat)] w fun e w' => e = .returned (.tuple #[.int .i64 (numI (cutB bs at_ width)), .bool true]) ∧ w' = w := by
  obtain ⟨b, o, rfl, hbB, hcell⟩ := hr.plain (by omega) (by omega)
  have HC := hide hcell
  have HN := hide hn
  have a1 : (at_ : Int) < n := by omega
  have a2 : (0 : Int) ≤ at_ := by omega
  have a3 : (width : Int) ≤ (n : Int) - at_ := by omega
  have a4 : (1 : Int) ≤ width := by omega
  have a5 : (width : Int) ≤ 8 := by omega
  clear hr hn hcell
  go_enter Tryz.func132, Tryz.ntmps132
  go_wp2
  go_loopw [8, 9] (fun uv iv wr => wr = w ∧ ∃ k : Nat, k ≤ width ∧ iv = .int .i64 k ∧ uv = .int .u64 (numB (cutB bs at_ k) : Nat)) (fun _ iv _ => width - (intOf iv).toNat)
  case atStart => exact ⟨rfl, 0, Nat.zero_le _, rfl, rfl⟩
  case round =>
    obtain ⟨rfl, k, hk, rfl, rfl⟩ := hrel
    by_cases hlt : (k : Int) < width
    · have hkb : at_ + k < bs.length := by have := HN.out; omega
      obtain ⟨x, hx⟩ : ∃ x, bs[at_ + k]? = some x := ⟨_, List.getElem?_eq_getElem hkb⟩
      have hc : wr.cell? ⟨b, o + (at_ + k), none⟩ = some (.int .u8 ((x.toNat : Nat) : Int)) := HC.out (at_ + k) (byteV x) (by rw [List.getElem?_map, hx]; rfl)
      have hxl := x.toNat_lt
      have HS := hide (show numB (cutB bs at_ (k + 1)) = 256 * numB (cutB bs at_ k) + x.toNat by rw [cutB_succ hx, numB_snoc])
      have hu : numB (cutB bs at_ k) < 256 ^ 7 := Nat.lt_of_lt_of_le (numB_lt _) (Nat.pow_le_pow_right (by decide) (by unfold cutB; rw [List.length_take]; omega))
      have hu2 : numB (cutB bs at_ k) < 72057594037927936 := hu
      generalize numB (cutB bs at_ k) = u at *
      generalize x.toNat = y at *
      have t1 : ((at_ : Int) + (k : Int)).toNat = at_ + k := by omega
      have t2 : (0 : Int) ≤ (at_ : Int) + k := by omega
      have t3 : (at_ : Int) + k < n := by omega
      clear hu hx hkb
      go_wp2
      go_roundw
      case rel => exact ⟨by trivial, k + 1, by omega, by go_num, by rw [HS.out]; go_num⟩
      case measure => simp [intOf]; omega
    · obtain rfl : k = width := by omega
      have hu := numB_lt64 (cutB bs at_ k) (by unfold cutB; rw [List.length_take]; omega)
      have HV := hide (show numI (cutB bs at_ k) = wrap64 ((numB (cutB bs at_ k) : Nat) : Int) from rfl)
      generalize numB (cutB bs at_ k) = u at *
      go_wp2
      go_ret2
      refine ⟨?_, rfl⟩
      rw [HV.out]
      simp
theorem bits_or_256 (u y : Nat) (hu : u < 72057594037927936) (hy : y < 256) : bits .or .u64 ((256 * u : Nat) : Int) (y : Int) = ((256 * u + y : Nat) : Int) := by
  have h1 : (BitVec.ofInt 64 ((256 * u : Nat) : Int)).toNat = 256 * u := by
    rw [BitVec.ofInt_natCast, BitVec.toNat_ofNat]; exact Nat.mod_eq_of_lt (by omega)
  have h2 : (BitVec.ofInt 64 (y : Int)).toNat = y := by
    rw [BitVec.ofInt_natCast, BitVec.toNat_ofNat]; exact Nat.mod_eq_of_lt (by omega)
  have h3 : 256 * u ||| y = 256 * u + y := by
    have := Nat.two_pow_add_eq_or_of_lt (i := 8) (b := y) hy u
    rw [show (2 : Nat) ^ 8 = 256 from rfl] at this
    exact this.symm
  show IntKind.u64.wrap ((BitVec.ofInt 64 ((256 * u : Nat) : Int) ||| BitVec.ofInt 64 (y : Int)).toNat : Int) = _
  rw [BitVec.toNat_or, h1, h2, h3, IntKind.wrap_u64]
  omega
theorem num_any (A : Option Addr) (n c : Nat) (bs : List UInt8) (at_ width : Nat) (B : Nat) (w : World) (hm : n ≤ 100000000) (hnc : n ≤ c) (hn : n = bs.length) (hr : Reads w B 1 A n (bs.map byteV)) (h1 : 1 ≤ width) (h8 : width ≤ 8) (hin : at_ + width ≤ n) :
    Calls Tryz.prog 167 #[.slice A n c, .int .i64 (at_ : Nat), .int .i64 (width : Nat)] w fun e w' => e = .returned (.tuple #[.int .i64 (numI (cutB bs at_ width)), .bool true]) ∧ w' = w := by
  obtain ⟨b, o, rfl, hbB, hcell⟩ := hr.plain (by omega) (by omega)
  have HC := hide hcell
  have HN := hide hn
  have HW := hide (wide_any (width : Nat) true (by simp; omega) w)
  have a1 : (at_ : Int) ≤ n := by omega
  have a2 : (0 : Int) ≤ at_ := by omega
  have a3 : (width : Int) ≤ (n : Int) - at_ := by omega
  have a4 : (1 : Int) ≤ width := by omega
  have a5 : (width : Int) ≤ 8 := by omega
  have a6 : (at_ : Int) + width ≤ n := by omega
  have a7 : (at_ : Int) + width ≤ c := by omega
  clear hr hn hcell
  go_enter Tryz.func167, Tryz.ntmps167
  go_upto_region 5 with (go_at_call 175; refine HW.out.mono ?_; rintro e w' ⟨rfl, hw'⟩; obtain rfl := hw'.symm)
  have hww : at_ + width - at_ = width := by omega
  rw [hww]
  go_loopw [8, 42] (fun uv iv wr => wr = w ∧ ∃ k : Nat, k ≤ width ∧ iv = .int .i64 k ∧ uv = .int .u64 (numB (cutB bs at_ k) : Nat)) (fun _ iv _ => width - (intOf iv).toNat)
  case atStart => exact ⟨rfl, 0, Nat.zero_le _, rfl, rfl⟩
  case round =>
    obtain ⟨rfl, k, hk, rfl, rfl⟩ := hrel
    clear hww
    by_cases hlt : (k : Int) < width
    · have hkb : at_ + k < bs.length := by have := HN.out; omega
      obtain ⟨x, hx⟩ : ∃ x, bs[at_ + k]? = some x := ⟨_, List.getElem?_eq_getElem hkb⟩
      have hc : wr.cell? ⟨b, o + at_ + k, none⟩ = some (.int .u8 ((x.toNat : Nat) : Int)) := by
        rw [Nat.add_assoc]
        exact HC.out (at_ + k) (byteV x) (by rw [List.getElem?_map, hx]; rfl)
      have hxl := x.toNat_lt
      have HS := hide (show numB (cutB bs at_ (k + 1)) = 256 * numB (cutB bs at_ k) + x.toNat by rw [cutB_succ hx, numB_snoc])
      have hu : numB (cutB bs at_ k) < 256 ^ 7 := Nat.lt_of_lt_of_le (numB_lt _) (Nat.pow_le_pow_right (by decide) (by unfold cutB; rw [List.length_take]; omega))
      have hu2 : numB (cutB bs at_ k) < 72057594037927936 := hu
      generalize numB (cutB bs at_ k) = u at *
      generalize x.toNat = y at *
      have e1 : bits BinOp.or IntKind.u64 ((u : Int) * 256) (y : Int) = ((256 * u + y : Nat) : Int) := by
        have h9 := bits_or_256 u y hu2 hxl
        rw [show ((256 * u : Nat) : Int) = (u : Int) * 256 by omega] at h9
        exact h9
      have t2 : (0 : Int) ≤ k := by omega
      clear hu hx hkb
      go_wp2
      go_roundw
      case rel => exact ⟨by trivial, k + 1, by omega, by go_num, by rw [HS.out]; go_num⟩
      case measure => simp [intOf]; omega
    · obtain rfl : k = width := by omega
      have hu := numB_lt64 (cutB bs at_ k) (by unfold cutB; rw [List.length_take]; omega)
      have HV := hide (show numI (cutB bs at_ k) = wrap64 ((numB (cutB bs at_ k) : Nat) : Int) from rfl)
      generalize numB (cutB bs at_ k) = u at *
      go_wp2
      go_ret2
      refine ⟨?_, rfl⟩
      rw [HV.out]
      simp
end Go.Proofs.YtnanlaefehaifaaGreat
