/-
  WALKS OF THE PROGRAM: crc.table.
-/
import Derived.Test.YtnanlaefehaifaaGreatRB
import Derived.Deep.LoopGhost
import Derived.IntWalk
import Derived.Laws.Rows
import Derived.Laws.Tables
namespace Go.Proofs.YtnanlaefehaifaaGreat
open Go.RowKit

def u32V (x : Nat) : Value := .int .u32 (x : Nat)
/-- The sums of the single bits. -/
def bitSum : Nat → Nat
  | 0 => 1
  | b + 1 => if bitSum b % 2 = 1 then bitSum b / 2 ^^^ 2197175160 else bitSum b / 2
/-- The round of one bit. -/
def inT (T : List Nat) (sum step : Nat) : Nat → List Nat
  | 0 => T
  | k + 1 => (inT T sum step k).set (2 * step * k + step) ((inT T sum step k).getD (2 * step * k) 0 ^^^ sum)
def outT : Nat → List Nat
  | 0 => List.replicate 256 0
  | b + 1 => inT (outT b) (bitSum (b + 1)) (128 / 2 ^ b) (2 ^ b)
theorem inT_length (T : List Nat) (sum step k : Nat) : (inT T sum step k).length = T.length := by
  induction k with
  | zero => rfl
  | succ k ih => rw [inT, List.length_set, ih]
theorem outT_length (b : Nat) : (outT b).length = 256 := by
  induction b with
  | zero => exact List.length_replicate
  | succ b ih => rw [outT, inT_length, ih]
theorem bits_xor_u32_nat (a b : Nat) (ha : a < 4294967296) (hb : b < 4294967296) : bits .xor .u32 (a : Int) (b : Int) = ((a ^^^ b : Nat) : Int) := by
  have hx : a ^^^ b < 2 ^ 32 := Nat.xor_lt_two_pow (by omega) (by omega)
  have h1 : (BitVec.ofInt 32 (a : Int)).toNat = a := by
    rw [BitVec.ofInt_natCast, BitVec.toNat_ofNat]; exact Nat.mod_eq_of_lt (by omega)
  have h2 : (BitVec.ofInt 32 (b : Int)).toNat = b := by
    rw [BitVec.ofInt_natCast, BitVec.toNat_ofNat]; exact Nat.mod_eq_of_lt (by omega)
  show IntKind.u32.wrap ((BitVec.ofInt 32 (a : Int) ^^^ BitVec.ofInt 32 (b : Int)).toNat : Int) = _
  rw [BitVec.toNat_xor, h1, h2, IntKind.wrap_u32]
  omega
/-- All are numbers of 32 bits. -/
def All32 (T : List Nat) : Prop := ∀ x ∈ T, x < 4294967296
theorem All32.getD {T : List Nat} (h : All32 T) (i : Nat) : T.getD i 0 < 4294967296 := by
  rw [List.getD_eq_getElem?_getD]
  cases hi : T[i]? with
  | none => simp
  | some x => exact h x (List.mem_of_getElem? hi)
theorem All32.set {T : List Nat} (h : All32 T) (i x : Nat) (hx : x < 4294967296) : All32 (T.set i x) := by
  intro y hy
  rcases List.mem_or_eq_of_mem_set hy with h1 | rfl
  · exact h y h1
  · exact hx
theorem All32.inT {T : List Nat} (h : All32 T) {sum : Nat} (hs : sum < 4294967296) (step k : Nat) : All32 (inT T sum step k) := by
  induction k with
  | zero => exact h
  | succ k ih => exact ih.set _ _ (Nat.xor_lt_two_pow (n := 32) (ih.getD _) hs)
theorem u32_set {T : List Nat} {i x : Nat} : ((T.map u32V).toArray).setIfInBounds i (u32V x) = ((T.set i x).map u32V).toArray := by
  rw [List.setIfInBounds_toArray, List.map_set]
theorem u32_at {T : List Nat} {i : Nat} (h : i < T.length) : ((T.map u32V).toArray)[i]? = some (.int .u32 ((T.getD i 0 : Nat) : Int)) := by
  rw [List.getElem?_toArray, List.getElem?_map, List.getElem?_eq_getElem h, List.getD_eq_getElem?_getD, List.getElem?_eq_getElem h]
  rfl
set_option maxRecDepth 100000 in
theorem zeros_u32 : Tryz.zeroCells329 = ((outT 0).map u32V).toArray := by
  rw [show (outT 0).map u32V = List.replicate 256 (u32V 0) by simp [outT]]
  kernel_rfl
theorem all32_zero : All32 (outT 0) := by
  intro x hx
  simp only [outT, List.mem_replicate] at hx
  omega
set_option maxHeartbeats 6400000 in
set_option maxRecDepth 100000 in
theorem table_any (w : World) : Calls Tryz.prog 251 #[] w fun e w' => e = .returned (.agg ((outT 8).map u32V).toArray) ∧ Below w.heap.size w w' := by
  go_enter Tryz.func251, Tryz.ntmps251
  go_wp2
  go_loopw [2, 7] (fun s i wr => ∃ b : Nat, b ≤ 8 ∧ i = .int .i64 b ∧ s = u32V (bitSum b) ∧ Below w.heap.size w wr ∧ w.heap.size + 2 ≤ wr.heap.size ∧ Blk wr (w.heap.size + 1) 329 ((outT b).map u32V).toArray ∧ All32 (outT b) ∧ ∃ cs, Blk wr w.heap.size 329 cs ∧ cs.size = 256) (fun _ i _ => 8 - (intOf i).toNat)
  case atStart => exact ⟨0, by omega, rfl, rfl, below2 _ _ _, by simp, by rw [← zeros_u32]; simpa using Blk.new (w.alloc (.cells Tryz.zeroCells329 329)) 329 Tryz.zeroCells329, all32_zero, _, (Blk.new _ _ _).alloc _, by kernel_rfl⟩
  case round =>
    obtain ⟨b, hb, rfl, rfl, hbw, hz, kT, h32, cs, kR, hcs⟩ := hrel
    have HKT := hide kT
    have HKR := hide kR
    have HCS := hide hcs
    have H32 := hide h32
    clear kT kR hcs h32
    by_cases hlt : b < 8
    · have hb8 : b = 0 ∨ b = 1 ∨ b = 2 ∨ b = 3 ∨ b = 4 ∨ b = 5 ∨ b = 6 ∨ b = 7 := by omega
      rcases hb8 with rfl | rfl | rfl | rfl | rfl | rfl | rfl | rfl
      · rw [show u32V (bitSum 0) = .int .u32 1 by kernel_rfl, show ((0 : Nat) : Int) = 0 from rfl]
        have ea : bits BinOp.and IntKind.u32 1 1 = 1 := by kernel_rfl
        have ex : bits BinOp.xor IntKind.u32 0 2197175160 = 2197175160 := by kernel_rfl
        have HT1 := hide (show outT (0 + 1) = inT (outT 0) 2197175160 128 1 by rw [outT]; exact congrArg (fun s => inT (outT 0) s 128 1) (by kernel_rfl))
        have HS1 := hide (show Value.int .u32 2197175160 = u32V (bitSum (0 + 1)) by kernel_rfl)
        go_wp2
        clear ea ex
        obtain ⟨wo, rfl⟩ : ∃ wo : World, wo = wr := ⟨_, rfl⟩
        go_loopw [6] (fun i wr => ∃ k : Nat, k ≤ 1 ∧ i = .int .i64 (256 * (k : Int)) ∧ Below w.heap.size w wr ∧ w.heap.size + 2 ≤ wr.heap.size ∧ Blk wr (w.heap.size + 1) 329 ((inT (outT 0) 2197175160 128 k).map u32V).toArray ∧ Blk wr w.heap.size 329 cs) (fun i _ => 1 * 256 - (intOf i).toNat)
        case atStart => exact ⟨0, Nat.zero_le _, by go_num, hbw, hz, HKT.out, HKR.out⟩
        case round =>
          clear HKT HKR hbw hz
          obtain ⟨k, hk, rfl, hbw, hz, kT, kR⟩ := hrel
          have HKT := hide kT
          have HKR := hide kR
          have h32 := (H32.out.inT (sum := 2197175160) (by omega) 128 k)
          have hlen := inT_length (outT 0) 2197175160 128 k
          rw [outT_length] at hlen
          by_cases hlt2 : k < 1
          · obtain ⟨j, hj⟩ : ∃ j : Nat, j = 256 * k := ⟨_, rfl⟩
            have ej : (256 : Int) * (k : Int) = (j : Int) := by omega
            rw [ej]
            have b1 : (0 : Int) ≤ j := by omega
            have b2 : (j : Int) < 256 := by omega
            have b3 : (j : Int) + 128 < 256 := by omega
            have HEJ := hide ej
            have HJ := hide hj
            obtain ⟨x, hx⟩ : ∃ x, (inT (outT 0) 2197175160 128 k).getD j 0 = x := ⟨_, rfl⟩
            have hx32 : x < 4294967296 := by rw [← hx]; exact h32.getD j
            have q0 : wr.cell? ⟨w.heap.size + 1, j, none⟩ = some (.int .u32 (x : Nat)) := by rw [kT.cell, u32_at (by omega), hx]
            have q1 : wr.cell? ⟨w.heap.size + 1, j + 128, none⟩ = some (.int .u32 (((inT (outT 0) 2197175160 128 k).getD (j + 128) 0 : Nat) : Int)) := by rw [kT.cell, u32_at (by omega)]
            have f1 := kT.frozen (j + 128)
            have hxor := bits_xor_u32_nat x 2197175160 hx32 (by omega)
            have hxor : bits BinOp.xor IntKind.u32 (x : Int) 2197175160 = ((x ^^^ 2197175160 : Nat) : Int) := hxor
            have HIN := hide (show inT (outT 0) 2197175160 128 (k + 1) = (inT (outT 0) 2197175160 128 k).set (j + 128) (x ^^^ 2197175160) by rw [inT, ← hx, hj])
            generalize (inT (outT 0) 2197175160 128 k).getD (j + 128) 0 = y at q1
            clear hx hj ej kT kR h32 hlen
            go_wp2
            go_roundw
            case rel =>
              refine ⟨k + 1, by omega, by rw [show (j : Int) + 256 = 256 * ((k + 1 : Nat) : Int) by have := HJ.out; omega], hbw.setCell (p := ⟨w.heap.size + 1, j + 128, none⟩) (by simp) _, by simpa [World.setCell] using hz, ?_, HKR.out.far (p := ⟨w.heap.size + 1, j + 128, none⟩) (by simp) _⟩
              rw [HIN.out, ← u32_set]
              exact HKT.out.set_ _ _
            case measure => have := HJ.out; simp [intOf]; omega
          · obtain rfl : k = 1 := by omega
            have H32' := hide (show All32 (outT (0 + 1)) by rw [HT1.out]; exact h32)
            clear kT kR h32 hlen
            go_wp2
            go_roundw
            case rel => exact ⟨0 + 1, by omega, by go_num, HS1.out, hbw, hz, by rw [HT1.out]; exact HKT.out, H32'.out, cs, HKR.out, HCS.out⟩
            case measure => simp [intOf]
      · rw [show u32V (bitSum 1) = .int .u32 2197175160 by kernel_rfl, show ((1 : Nat) : Int) = 1 from rfl]
        have ea : bits BinOp.and IntKind.u32 2197175160 1 = 0 := by kernel_rfl
        have ex : bits BinOp.xor IntKind.u32 1098587580 2197175160 = 3280807620 := by kernel_rfl
        have HT1 := hide (show outT (1 + 1) = inT (outT 1) 1098587580 64 2 by rw [outT]; exact congrArg (fun s => inT (outT 1) s 64 2) (by kernel_rfl))
        have HS1 := hide (show Value.int .u32 1098587580 = u32V (bitSum (1 + 1)) by kernel_rfl)
        go_wp2
        clear ea ex
        obtain ⟨wo, rfl⟩ : ∃ wo : World, wo = wr := ⟨_, rfl⟩
        go_loopw [6] (fun i wr => ∃ k : Nat, k ≤ 2 ∧ i = .int .i64 (128 * (k : Int)) ∧ Below w.heap.size w wr ∧ w.heap.size + 2 ≤ wr.heap.size ∧ Blk wr (w.heap.size + 1) 329 ((inT (outT 1) 1098587580 64 k).map u32V).toArray ∧ Blk wr w.heap.size 329 cs) (fun i _ => 2 * 128 - (intOf i).toNat)
        case atStart => exact ⟨0, Nat.zero_le _, by go_num, hbw, hz, HKT.out, HKR.out⟩
        case round =>
          clear HKT HKR hbw hz
          obtain ⟨k, hk, rfl, hbw, hz, kT, kR⟩ := hrel
          have HKT := hide kT
          have HKR := hide kR
          have h32 := (H32.out.inT (sum := 1098587580) (by omega) 64 k)
          have hlen := inT_length (outT 1) 1098587580 64 k
          rw [outT_length] at hlen
          by_cases hlt2 : k < 2
          · obtain ⟨j, hj⟩ : ∃ j : Nat, j = 128 * k := ⟨_, rfl⟩
            have ej : (128 : Int) * (k : Int) = (j : Int) := by omega
            rw [ej]
            have b1 : (0 : Int) ≤ j := by omega
            have b2 : (j : Int) < 256 := by omega
            have b3 : (j : Int) + 64 < 256 := by omega
            have HEJ := hide ej
            have HJ := hide hj
            obtain ⟨x, hx⟩ : ∃ x, (inT (outT 1) 1098587580 64 k).getD j 0 = x := ⟨_, rfl⟩
            have hx32 : x < 4294967296 := by rw [← hx]; exact h32.getD j
            have q0 : wr.cell? ⟨w.heap.size + 1, j, none⟩ = some (.int .u32 (x : Nat)) := by rw [kT.cell, u32_at (by omega), hx]
            have q1 : wr.cell? ⟨w.heap.size + 1, j + 64, none⟩ = some (.int .u32 (((inT (outT 1) 1098587580 64 k).getD (j + 64) 0 : Nat) : Int)) := by rw [kT.cell, u32_at (by omega)]
            have f1 := kT.frozen (j + 64)
            have hxor := bits_xor_u32_nat x 1098587580 hx32 (by omega)
            have hxor : bits BinOp.xor IntKind.u32 (x : Int) 1098587580 = ((x ^^^ 1098587580 : Nat) : Int) := hxor
            have HIN := hide (show inT (outT 1) 1098587580 64 (k + 1) = (inT (outT 1) 1098587580 64 k).set (j + 64) (x ^^^ 1098587580) by rw [inT, ← hx, hj])
            generalize (inT (outT 1) 1098587580 64 k).getD (j + 64) 0 = y at q1
            clear hx hj ej kT kR h32 hlen
            go_wp2
            go_roundw
            case rel =>
              refine ⟨k + 1, by omega, by rw [show (j : Int) + 128 = 128 * ((k + 1 : Nat) : Int) by have := HJ.out; omega], hbw.setCell (p := ⟨w.heap.size + 1, j + 64, none⟩) (by simp) _, by simpa [World.setCell] using hz, ?_, HKR.out.far (p := ⟨w.heap.size + 1, j + 64, none⟩) (by simp) _⟩
              rw [HIN.out, ← u32_set]
              exact HKT.out.set_ _ _
            case measure => have := HJ.out; simp [intOf]; omega
          · obtain rfl : k = 2 := by omega
            have H32' := hide (show All32 (outT (1 + 1)) by rw [HT1.out]; exact h32)
            clear kT kR h32 hlen
            go_wp2
            go_roundw
            case rel => exact ⟨1 + 1, by omega, by go_num, HS1.out, hbw, hz, by rw [HT1.out]; exact HKT.out, H32'.out, cs, HKR.out, HCS.out⟩
            case measure => simp [intOf]
      · rw [show u32V (bitSum 2) = .int .u32 1098587580 by kernel_rfl, show ((2 : Nat) : Int) = 2 from rfl]
        have ea : bits BinOp.and IntKind.u32 1098587580 1 = 0 := by kernel_rfl
        have ex : bits BinOp.xor IntKind.u32 549293790 2197175160 = 2722870694 := by kernel_rfl
        have HT1 := hide (show outT (2 + 1) = inT (outT 2) 549293790 32 4 by rw [outT]; exact congrArg (fun s => inT (outT 2) s 32 4) (by kernel_rfl))
        have HS1 := hide (show Value.int .u32 549293790 = u32V (bitSum (2 + 1)) by kernel_rfl)
        go_wp2
        clear ea ex
        obtain ⟨wo, rfl⟩ : ∃ wo : World, wo = wr := ⟨_, rfl⟩
        go_loopw [6] (fun i wr => ∃ k : Nat, k ≤ 4 ∧ i = .int .i64 (64 * (k : Int)) ∧ Below w.heap.size w wr ∧ w.heap.size + 2 ≤ wr.heap.size ∧ Blk wr (w.heap.size + 1) 329 ((inT (outT 2) 549293790 32 k).map u32V).toArray ∧ Blk wr w.heap.size 329 cs) (fun i _ => 4 * 64 - (intOf i).toNat)
        case atStart => exact ⟨0, Nat.zero_le _, by go_num, hbw, hz, HKT.out, HKR.out⟩
        case round =>
          clear HKT HKR hbw hz
          obtain ⟨k, hk, rfl, hbw, hz, kT, kR⟩ := hrel
          have HKT := hide kT
          have HKR := hide kR
          have h32 := (H32.out.inT (sum := 549293790) (by omega) 32 k)
          have hlen := inT_length (outT 2) 549293790 32 k
          rw [outT_length] at hlen
          by_cases hlt2 : k < 4
          · obtain ⟨j, hj⟩ : ∃ j : Nat, j = 64 * k := ⟨_, rfl⟩
            have ej : (64 : Int) * (k : Int) = (j : Int) := by omega
            rw [ej]
            have b1 : (0 : Int) ≤ j := by omega
            have b2 : (j : Int) < 256 := by omega
            have b3 : (j : Int) + 32 < 256 := by omega
            have HEJ := hide ej
            have HJ := hide hj
            obtain ⟨x, hx⟩ : ∃ x, (inT (outT 2) 549293790 32 k).getD j 0 = x := ⟨_, rfl⟩
            have hx32 : x < 4294967296 := by rw [← hx]; exact h32.getD j
            have q0 : wr.cell? ⟨w.heap.size + 1, j, none⟩ = some (.int .u32 (x : Nat)) := by rw [kT.cell, u32_at (by omega), hx]
            have q1 : wr.cell? ⟨w.heap.size + 1, j + 32, none⟩ = some (.int .u32 (((inT (outT 2) 549293790 32 k).getD (j + 32) 0 : Nat) : Int)) := by rw [kT.cell, u32_at (by omega)]
            have f1 := kT.frozen (j + 32)
            have hxor := bits_xor_u32_nat x 549293790 hx32 (by omega)
            have hxor : bits BinOp.xor IntKind.u32 (x : Int) 549293790 = ((x ^^^ 549293790 : Nat) : Int) := hxor
            have HIN := hide (show inT (outT 2) 549293790 32 (k + 1) = (inT (outT 2) 549293790 32 k).set (j + 32) (x ^^^ 549293790) by rw [inT, ← hx, hj])
            generalize (inT (outT 2) 549293790 32 k).getD (j + 32) 0 = y at q1
            clear hx hj ej kT kR h32 hlen
            go_wp2
            go_roundw
            case rel =>
              refine ⟨k + 1, by omega, by rw [show (j : Int) + 64 = 64 * ((k + 1 : Nat) : Int) by have := HJ.out; omega], hbw.setCell (p := ⟨w.heap.size + 1, j + 32, none⟩) (by simp) _, by simpa [World.setCell] using hz, ?_, HKR.out.far (p := ⟨w.heap.size + 1, j + 32, none⟩) (by simp) _⟩
              rw [HIN.out, ← u32_set]
              exact HKT.out.set_ _ _
            case measure => have := HJ.out; simp [intOf]; omega
          · obtain rfl : k = 4 := by omega
            have H32' := hide (show All32 (outT (2 + 1)) by rw [HT1.out]; exact h32)
            clear kT kR h32 hlen
            go_wp2
            go_roundw
            case rel => exact ⟨2 + 1, by omega, by go_num, HS1.out, hbw, hz, by rw [HT1.out]; exact HKT.out, H32'.out, cs, HKR.out, HCS.out⟩
            case measure => simp [intOf]
      · rw [show u32V (bitSum 3) = .int .u32 549293790 by kernel_rfl, show ((3 : Nat) : Int) = 3 from rfl]
        have ea : bits BinOp.and IntKind.u32 549293790 1 = 0 := by kernel_rfl
        have ex : bits BinOp.xor IntKind.u32 274646895 2197175160 = 2460548119 := by kernel_rfl
        have HT1 := hide (show outT (3 + 1) = inT (outT 3) 274646895 16 8 by rw [outT]; exact congrArg (fun s => inT (outT 3) s 16 8) (by kernel_rfl))
        have HS1 := hide (show Value.int .u32 274646895 = u32V (bitSum (3 + 1)) by kernel_rfl)
        go_wp2
        clear ea ex
        obtain ⟨wo, rfl⟩ : ∃ wo : World, wo = wr := ⟨_, rfl⟩
        go_loopw [6] (fun i wr => ∃ k : Nat, k ≤ 8 ∧ i = .int .i64 (32 * (k : Int)) ∧ Below w.heap.size w wr ∧ w.heap.size + 2 ≤ wr.heap.size ∧ Blk wr (w.heap.size + 1) 329 ((inT (outT 3) 274646895 16 k).map u32V).toArray ∧ Blk wr w.heap.size 329 cs) (fun i _ => 8 * 32 - (intOf i).toNat)
        case atStart => exact ⟨0, Nat.zero_le _, by go_num, hbw, hz, HKT.out, HKR.out⟩
        case round =>
          clear HKT HKR hbw hz
          obtain ⟨k, hk, rfl, hbw, hz, kT, kR⟩ := hrel
          have HKT := hide kT
          have HKR := hide kR
          have h32 := (H32.out.inT (sum := 274646895) (by omega) 16 k)
          have hlen := inT_length (outT 3) 274646895 16 k
          rw [outT_length] at hlen
          by_cases hlt2 : k < 8
          · obtain ⟨j, hj⟩ : ∃ j : Nat, j = 32 * k := ⟨_, rfl⟩
            have ej : (32 : Int) * (k : Int) = (j : Int) := by omega
            rw [ej]
            have b1 : (0 : Int) ≤ j := by omega
            have b2 : (j : Int) < 256 := by omega
            have b3 : (j : Int) + 16 < 256 := by omega
            have HEJ := hide ej
            have HJ := hide hj
            obtain ⟨x, hx⟩ : ∃ x, (inT (outT 3) 274646895 16 k).getD j 0 = x := ⟨_, rfl⟩
            have hx32 : x < 4294967296 := by rw [← hx]; exact h32.getD j
            have q0 : wr.cell? ⟨w.heap.size + 1, j, none⟩ = some (.int .u32 (x : Nat)) := by rw [kT.cell, u32_at (by omega), hx]
            have q1 : wr.cell? ⟨w.heap.size + 1, j + 16, none⟩ = some (.int .u32 (((inT (outT 3) 274646895 16 k).getD (j + 16) 0 : Nat) : Int)) := by rw [kT.cell, u32_at (by omega)]
            have f1 := kT.frozen (j + 16)
            have hxor := bits_xor_u32_nat x 274646895 hx32 (by omega)
            have hxor : bits BinOp.xor IntKind.u32 (x : Int) 274646895 = ((x ^^^ 274646895 : Nat) : Int) := hxor
            have HIN := hide (show inT (outT 3) 274646895 16 (k + 1) = (inT (outT 3) 274646895 16 k).set (j + 16) (x ^^^ 274646895) by rw [inT, ← hx, hj])
            generalize (inT (outT 3) 274646895 16 k).getD (j + 16) 0 = y at q1
            clear hx hj ej kT kR h32 hlen
            go_wp2
            go_roundw
            case rel =>
              refine ⟨k + 1, by omega, by rw [show (j : Int) + 32 = 32 * ((k + 1 : Nat) : Int) by have := HJ.out; omega], hbw.setCell (p := ⟨w.heap.size + 1, j + 16, none⟩) (by simp) _, by simpa [World.setCell] using hz, ?_, HKR.out.far (p := ⟨w.heap.size + 1, j + 16, none⟩) (by simp) _⟩
              rw [HIN.out, ← u32_set]
              exact HKT.out.set_ _ _
            case measure => have := HJ.out; simp [intOf]; omega
          · obtain rfl : k = 8 := by omega
            have H32' := hide (show All32 (outT (3 + 1)) by rw [HT1.out]; exact h32)
            clear kT kR h32 hlen
            go_wp2
            go_roundw
            case rel => exact ⟨3 + 1, by omega, by go_num, HS1.out, hbw, hz, by rw [HT1.out]; exact HKT.out, H32'.out, cs, HKR.out, HCS.out⟩
            case measure => simp [intOf]
      · rw [show u32V (bitSum 4) = .int .u32 274646895 by kernel_rfl, show ((4 : Nat) : Int) = 4 from rfl]
        have ea : bits BinOp.and IntKind.u32 274646895 1 = 1 := by kernel_rfl
        have ex : bits BinOp.xor IntKind.u32 137323447 2197175160 = 2329499855 := by kernel_rfl
        have HT1 := hide (show outT (4 + 1) = inT (outT 4) 2329499855 8 16 by rw [outT]; exact congrArg (fun s => inT (outT 4) s 8 16) (by kernel_rfl))
        have HS1 := hide (show Value.int .u32 2329499855 = u32V (bitSum (4 + 1)) by kernel_rfl)
        go_wp2
        clear ea ex
        obtain ⟨wo, rfl⟩ : ∃ wo : World, wo = wr := ⟨_, rfl⟩
        go_loopw [6] (fun i wr => ∃ k : Nat, k ≤ 16 ∧ i = .int .i64 (16 * (k : Int)) ∧ Below w.heap.size w wr ∧ w.heap.size + 2 ≤ wr.heap.size ∧ Blk wr (w.heap.size + 1) 329 ((inT (outT 4) 2329499855 8 k).map u32V).toArray ∧ Blk wr w.heap.size 329 cs) (fun i _ => 16 * 16 - (intOf i).toNat)
        case atStart => exact ⟨0, Nat.zero_le _, by go_num, hbw, hz, HKT.out, HKR.out⟩
        case round =>
          clear HKT HKR hbw hz
          obtain ⟨k, hk, rfl, hbw, hz, kT, kR⟩ := hrel
          have HKT := hide kT
          have HKR := hide kR
          have h32 := (H32.out.inT (sum := 2329499855) (by omega) 8 k)
          have hlen := inT_length (outT 4) 2329499855 8 k
          rw [outT_length] at hlen
          by_cases hlt2 : k < 16
          · obtain ⟨j, hj⟩ : ∃ j : Nat, j = 16 * k := ⟨_, rfl⟩
            have ej : (16 : Int) * (k : Int) = (j : Int) := by omega
            rw [ej]
            have b1 : (0 : Int) ≤ j := by omega
            have b2 : (j : Int) < 256 := by omega
            have b3 : (j : Int) + 8 < 256 := by omega
            have HEJ := hide ej
            have HJ := hide hj
            obtain ⟨x, hx⟩ : ∃ x, (inT (outT 4) 2329499855 8 k).getD j 0 = x := ⟨_, rfl⟩
            have hx32 : x < 4294967296 := by rw [← hx]; exact h32.getD j
            have q0 : wr.cell? ⟨w.heap.size + 1, j, none⟩ = some (.int .u32 (x : Nat)) := by rw [kT.cell, u32_at (by omega), hx]
            have q1 : wr.cell? ⟨w.heap.size + 1, j + 8, none⟩ = some (.int .u32 (((inT (outT 4) 2329499855 8 k).getD (j + 8) 0 : Nat) : Int)) := by rw [kT.cell, u32_at (by omega)]
            have f1 := kT.frozen (j + 8)
            have hxor := bits_xor_u32_nat x 2329499855 hx32 (by omega)
            have hxor : bits BinOp.xor IntKind.u32 (x : Int) 2329499855 = ((x ^^^ 2329499855 : Nat) : Int) := hxor
            have HIN := hide (show inT (outT 4) 2329499855 8 (k + 1) = (inT (outT 4) 2329499855 8 k).set (j + 8) (x ^^^ 2329499855) by rw [inT, ← hx, hj])
            generalize (inT (outT 4) 2329499855 8 k).getD (j + 8) 0 = y at q1
            clear hx hj ej kT kR h32 hlen
            go_wp2
            go_roundw
            case rel =>
              refine ⟨k + 1, by omega, by rw [show (j : Int) + 16 = 16 * ((k + 1 : Nat) : Int) by have := HJ.out; omega], hbw.setCell (p := ⟨w.heap.size + 1, j + 8, none⟩) (by simp) _, by simpa [World.setCell] using hz, ?_, HKR.out.far (p := ⟨w.heap.size + 1, j + 8, none⟩) (by simp) _⟩
              rw [HIN.out, ← u32_set]
              exact HKT.out.set_ _ _
            case measure => have := HJ.out; simp [intOf]; omega
          · obtain rfl : k = 16 := by omega
            have H32' := hide (show All32 (outT (4 + 1)) by rw [HT1.out]; exact h32)
            clear kT kR h32 hlen
            go_wp2
            go_roundw
            case rel => exact ⟨4 + 1, by omega, by go_num, HS1.out, hbw, hz, by rw [HT1.out]; exact HKT.out, H32'.out, cs, HKR.out, HCS.out⟩
            case measure => simp [intOf]
      · rw [show u32V (bitSum 5) = .int .u32 2329499855 by kernel_rfl, show ((5 : Nat) : Int) = 5 from rfl]
        have ea : bits BinOp.and IntKind.u32 2329499855 1 = 1 := by kernel_rfl
        have ex : bits BinOp.xor IntKind.u32 1164749927 2197175160 = 3348797215 := by kernel_rfl
        have HT1 := hide (show outT (5 + 1) = inT (outT 5) 3348797215 4 32 by rw [outT]; exact congrArg (fun s => inT (outT 5) s 4 32) (by kernel_rfl))
        have HS1 := hide (show Value.int .u32 3348797215 = u32V (bitSum (5 + 1)) by kernel_rfl)
        go_wp2
        clear ea ex
        obtain ⟨wo, rfl⟩ : ∃ wo : World, wo = wr := ⟨_, rfl⟩
        go_loopw [6] (fun i wr => ∃ k : Nat, k ≤ 32 ∧ i = .int .i64 (8 * (k : Int)) ∧ Below w.heap.size w wr ∧ w.heap.size + 2 ≤ wr.heap.size ∧ Blk wr (w.heap.size + 1) 329 ((inT (outT 5) 3348797215 4 k).map u32V).toArray ∧ Blk wr w.heap.size 329 cs) (fun i _ => 32 * 8 - (intOf i).toNat)
        case atStart => exact ⟨0, Nat.zero_le _, by go_num, hbw, hz, HKT.out, HKR.out⟩
        case round =>
          clear HKT HKR hbw hz
          obtain ⟨k, hk, rfl, hbw, hz, kT, kR⟩ := hrel
          have HKT := hide kT
          have HKR := hide kR
          have h32 := (H32.out.inT (sum := 3348797215) (by omega) 4 k)
          have hlen := inT_length (outT 5) 3348797215 4 k
          rw [outT_length] at hlen
          by_cases hlt2 : k < 32
          · obtain ⟨j, hj⟩ : ∃ j : Nat, j = 8 * k := ⟨_, rfl⟩
            have ej : (8 : Int) * (k : Int) = (j : Int) := by omega
            rw [ej]
            have b1 : (0 : Int) ≤ j := by omega
            have b2 : (j : Int) < 256 := by omega
            have b3 : (j : Int) + 4 < 256 := by omega
            have HEJ := hide ej
            have HJ := hide hj
            obtain ⟨x, hx⟩ : ∃ x, (inT (outT 5) 3348797215 4 k).getD j 0 = x := ⟨_, rfl⟩
            have hx32 : x < 4294967296 := by rw [← hx]; exact h32.getD j
            have q0 : wr.cell? ⟨w.heap.size + 1, j, none⟩ = some (.int .u32 (x : Nat)) := by rw [kT.cell, u32_at (by omega), hx]
            have q1 : wr.cell? ⟨w.heap.size + 1, j + 4, none⟩ = some (.int .u32 (((inT (outT 5) 3348797215 4 k).getD (j + 4) 0 : Nat) : Int)) := by rw [kT.cell, u32_at (by omega)]
            have f1 := kT.frozen (j + 4)
            have hxor := bits_xor_u32_nat x 3348797215 hx32 (by omega)
            have hxor : bits BinOp.xor IntKind.u32 (x : Int) 3348797215 = ((x ^^^ 3348797215 : Nat) : Int) := hxor
            have HIN := hide (show inT (outT 5) 3348797215 4 (k + 1) = (inT (outT 5) 3348797215 4 k).set (j + 4) (x ^^^ 3348797215) by rw [inT, ← hx, hj])
            generalize (inT (outT 5) 3348797215 4 k).getD (j + 4) 0 = y at q1
            clear hx hj ej kT kR h32 hlen
            go_wp2
            go_roundw
            case rel =>
              refine ⟨k + 1, by omega, by rw [show (j : Int) + 8 = 8 * ((k + 1 : Nat) : Int) by have := HJ.out; omega], hbw.setCell (p := ⟨w.heap.size + 1, j + 4, none⟩) (by simp) _, by simpa [World.setCell] using hz, ?_, HKR.out.far (p := ⟨w.heap.size + 1, j + 4, none⟩) (by simp) _⟩
              rw [HIN.out, ← u32_set]
              exact HKT.out.set_ _ _
            case measure => have := HJ.out; simp [intOf]; omega
          · obtain rfl : k = 32 := by omega
            have H32' := hide (show All32 (outT (5 + 1)) by rw [HT1.out]; exact h32)
            clear kT kR h32 hlen
            go_wp2
            go_roundw
            case rel => exact ⟨5 + 1, by omega, by go_num, HS1.out, hbw, hz, by rw [HT1.out]; exact HKT.out, H32'.out, cs, HKR.out, HCS.out⟩
            case measure => simp [intOf]
      · rw [show u32V (bitSum 6) = .int .u32 3348797215 by kernel_rfl, show ((6 : Nat) : Int) = 6 from rfl]
        have ea : bits BinOp.and IntKind.u32 3348797215 1 = 1 := by kernel_rfl
        have ex : bits BinOp.xor IntKind.u32 1674398607 2197175160 = 3778769143 := by kernel_rfl
        have HT1 := hide (show outT (6 + 1) = inT (outT 6) 3778769143 2 64 by rw [outT]; exact congrArg (fun s => inT (outT 6) s 2 64) (by kernel_rfl))
        have HS1 := hide (show Value.int .u32 3778769143 = u32V (bitSum (6 + 1)) by kernel_rfl)
        go_wp2
        clear ea ex
        obtain ⟨wo, rfl⟩ : ∃ wo : World, wo = wr := ⟨_, rfl⟩
        go_loopw [6] (fun i wr => ∃ k : Nat, k ≤ 64 ∧ i = .int .i64 (4 * (k : Int)) ∧ Below w.heap.size w wr ∧ w.heap.size + 2 ≤ wr.heap.size ∧ Blk wr (w.heap.size + 1) 329 ((inT (outT 6) 3778769143 2 k).map u32V).toArray ∧ Blk wr w.heap.size 329 cs) (fun i _ => 64 * 4 - (intOf i).toNat)
        case atStart => exact ⟨0, Nat.zero_le _, by go_num, hbw, hz, HKT.out, HKR.out⟩
        case round =>
          clear HKT HKR hbw hz
          obtain ⟨k, hk, rfl, hbw, hz, kT, kR⟩ := hrel
          have HKT := hide kT
          have HKR := hide kR
          have h32 := (H32.out.inT (sum := 3778769143) (by omega) 2 k)
          have hlen := inT_length (outT 6) 3778769143 2 k
          rw [outT_length] at hlen
          by_cases hlt2 : k < 64
          · obtain ⟨j, hj⟩ : ∃ j : Nat, j = 4 * k := ⟨_, rfl⟩
            have ej : (4 : Int) * (k : Int) = (j : Int) := by omega
            rw [ej]
            have b1 : (0 : Int) ≤ j := by omega
            have b2 : (j : Int) < 256 := by omega
            have b3 : (j : Int) + 2 < 256 := by omega
            have HEJ := hide ej
            have HJ := hide hj
            obtain ⟨x, hx⟩ : ∃ x, (inT (outT 6) 3778769143 2 k).getD j 0 = x := ⟨_, rfl⟩
            have hx32 : x < 4294967296 := by rw [← hx]; exact h32.getD j
            have q0 : wr.cell? ⟨w.heap.size + 1, j, none⟩ = some (.int .u32 (x : Nat)) := by rw [kT.cell, u32_at (by omega), hx]
            have q1 : wr.cell? ⟨w.heap.size + 1, j + 2, none⟩ = some (.int .u32 (((inT (outT 6) 3778769143 2 k).getD (j + 2) 0 : Nat) : Int)) := by rw [kT.cell, u32_at (by omega)]
            have f1 := kT.frozen (j + 2)
            have hxor := bits_xor_u32_nat x 3778769143 hx32 (by omega)
            have hxor : bits BinOp.xor IntKind.u32 (x : Int) 3778769143 = ((x ^^^ 3778769143 : Nat) : Int) := hxor
            have HIN := hide (show inT (outT 6) 3778769143 2 (k + 1) = (inT (outT 6) 3778769143 2 k).set (j + 2) (x ^^^ 3778769143) by rw [inT, ← hx, hj])
            generalize (inT (outT 6) 3778769143 2 k).getD (j + 2) 0 = y at q1
            clear hx hj ej kT kR h32 hlen
            go_wp2
            go_roundw
            case rel =>
              refine ⟨k + 1, by omega, by rw [show (j : Int) + 4 = 4 * ((k + 1 : Nat) : Int) by have := HJ.out; omega], hbw.setCell (p := ⟨w.heap.size + 1, j + 2, none⟩) (by simp) _, by simpa [World.setCell] using hz, ?_, HKR.out.far (p := ⟨w.heap.size + 1, j + 2, none⟩) (by simp) _⟩
              rw [HIN.out, ← u32_set]
              exact HKT.out.set_ _ _
            case measure => have := HJ.out; simp [intOf]; omega
          · obtain rfl : k = 64 := by omega
            have H32' := hide (show All32 (outT (6 + 1)) by rw [HT1.out]; exact h32)
            clear kT kR h32 hlen
            go_wp2
            go_roundw
            case rel => exact ⟨6 + 1, by omega, by go_num, HS1.out, hbw, hz, by rw [HT1.out]; exact HKT.out, H32'.out, cs, HKR.out, HCS.out⟩
            case measure => simp [intOf]
      · rw [show u32V (bitSum 7) = .int .u32 3778769143 by kernel_rfl, show ((7 : Nat) : Int) = 7 from rfl]
        have ea : bits BinOp.and IntKind.u32 3778769143 1 = 1 := by kernel_rfl
        have ex : bits BinOp.xor IntKind.u32 1889384571 2197175160 = 4067132163 := by kernel_rfl
        have HT1 := hide (show outT (7 + 1) = inT (outT 7) 4067132163 1 128 by rw [outT]; exact congrArg (fun s => inT (outT 7) s 1 128) (by kernel_rfl))
        have HS1 := hide (show Value.int .u32 4067132163 = u32V (bitSum (7 + 1)) by kernel_rfl)
        go_wp2
        clear ea ex
        obtain ⟨wo, rfl⟩ : ∃ wo : World, wo = wr := ⟨_, rfl⟩
        go_loopw [6] (fun i wr => ∃ k : Nat, k ≤ 128 ∧ i = .int .i64 (2 * (k : Int)) ∧ Below w.heap.size w wr ∧ w.heap.size + 2 ≤ wr.heap.size ∧ Blk wr (w.heap.size + 1) 329 ((inT (outT 7) 4067132163 1 k).map u32V).toArray ∧ Blk wr w.heap.size 329 cs) (fun i _ => 128 * 2 - (intOf i).toNat)
        case atStart => exact ⟨0, Nat.zero_le _, by go_num, hbw, hz, HKT.out, HKR.out⟩
        case round =>
          clear HKT HKR hbw hz
          obtain ⟨k, hk, rfl, hbw, hz, kT, kR⟩ := hrel
          have HKT := hide kT
          have HKR := hide kR
          have h32 := (H32.out.inT (sum := 4067132163) (by omega) 1 k)
          have hlen := inT_length (outT 7) 4067132163 1 k
          rw [outT_length] at hlen
          by_cases hlt2 : k < 128
          · obtain ⟨j, hj⟩ : ∃ j : Nat, j = 2 * k := ⟨_, rfl⟩
            have ej : (2 : Int) * (k : Int) = (j : Int) := by omega
            rw [ej]
            have b1 : (0 : Int) ≤ j := by omega
            have b2 : (j : Int) < 256 := by omega
            have b3 : (j : Int) + 1 < 256 := by omega
            have HEJ := hide ej
            have HJ := hide hj
            obtain ⟨x, hx⟩ : ∃ x, (inT (outT 7) 4067132163 1 k).getD j 0 = x := ⟨_, rfl⟩
            have hx32 : x < 4294967296 := by rw [← hx]; exact h32.getD j
            have q0 : wr.cell? ⟨w.heap.size + 1, j, none⟩ = some (.int .u32 (x : Nat)) := by rw [kT.cell, u32_at (by omega), hx]
            have q1 : wr.cell? ⟨w.heap.size + 1, j + 1, none⟩ = some (.int .u32 (((inT (outT 7) 4067132163 1 k).getD (j + 1) 0 : Nat) : Int)) := by rw [kT.cell, u32_at (by omega)]
            have f1 := kT.frozen (j + 1)
            have hxor := bits_xor_u32_nat x 4067132163 hx32 (by omega)
            have hxor : bits BinOp.xor IntKind.u32 (x : Int) 4067132163 = ((x ^^^ 4067132163 : Nat) : Int) := hxor
            have HIN := hide (show inT (outT 7) 4067132163 1 (k + 1) = (inT (outT 7) 4067132163 1 k).set (j + 1) (x ^^^ 4067132163) by rw [inT, ← hx, hj])
            generalize (inT (outT 7) 4067132163 1 k).getD (j + 1) 0 = y at q1
            clear hx hj ej kT kR h32 hlen
            go_wp2
            go_roundw
            case rel =>
              refine ⟨k + 1, by omega, by rw [show (j : Int) + 2 = 2 * ((k + 1 : Nat) : Int) by have := HJ.out; omega], hbw.setCell (p := ⟨w.heap.size + 1, j + 1, none⟩) (by simp) _, by simpa [World.setCell] using hz, ?_, HKR.out.far (p := ⟨w.heap.size + 1, j + 1, none⟩) (by simp) _⟩
              rw [HIN.out, ← u32_set]
              exact HKT.out.set_ _ _
            case measure => have := HJ.out; simp [intOf]; omega
          · obtain rfl : k = 128 := by omega
            have H32' := hide (show All32 (outT (7 + 1)) by rw [HT1.out]; exact h32)
            clear kT kR h32 hlen
            go_wp2
            go_roundw
            case rel => exact ⟨7 + 1, by omega, by go_num, HS1.out, hbw, hz, by rw [HT1.out]; exact HKT.out, H32'.out, cs, HKR.out, HCS.out⟩
            case measure => simp [intOf]
    · obtain rfl : b = 8 := by omega
      have hsz : ((outT 8).map u32V).toArray.size = 256 := by rw [List.size_toArray, List.length_map, outT_length]
      have hii : (Tryz.prog.info? 329).map (·.size) = some ((outT 8).map u32V).toArray.size := by rw [hsz]; kernel_rfl
      have h1c : ((outT 8).map u32V).toArray.all (·.oneCell') = true := Array.all_eq_true_iff_forall_mem.2 (fun v hv => by
        have hv : v ∈ (outT 8).map u32V := by simpa using hv
        obtain ⟨x, _, rfl⟩ := List.mem_map.1 hv
        rfl)
      have hold : cs.size = ((outT 8).map u32V).toArray.size := by rw [HCS.out, hsz]
      have hK2 : Blk (wr.setRow w.heap.size ((outT 8).map u32V).toArray) w.heap.size 329 ((outT 8).map u32V).toArray := setRow_heap wr w.heap.size cs _ _ _ HKR.out
      have hb2 : Below w.heap.size w (wr.setRow w.heap.size ((outT 8).map u32V).toArray) := (touch_setRow wr w.heap.size _).below hbw (Nat.le_refl _)
      have HI := hide hii
      have H1 := hide h1c
      have HO := hide hold
      have HK := hide hK2
      clear hsz hii h1c hold hK2
      generalize hX : ((outT 8).map u32V).toArray = X at *
      have HX := hide hX
      clear hX
      go_wp2_with (first
        | (refine wpList_load_row rfl 329 (.tmp 1) rfl (w.heap.size + 1) rfl 329 X (0, 0) _ HKT.out Tryz.underlying329 rfl HI.out ?_)
        | (refine wpList_store_row rfl 329 (.tmp 0) (.tmp 37) rfl w.heap.size X rfl rfl 329 cs HKR.out HI.out HO.out H1.out ?_))
      exact bodyPost_ret (results_cell_row Tryz.results251 _ _ w.heap.size 329 X (0, 0) _ rfl HK.out Tryz.underlying329 rfl HI.out) rfl ⟨by rw [HX.out], hb2⟩
end Go.Proofs.YtnanlaefehaifaaGreat
