/-
  WALKS OF THE PROGRAM: crc.More, crc.Sum.
-/
import Derived.Test.YtnanlaefehaifaaGreatRC
namespace Go.Proofs.YtnanlaefehaifaaGreat
open Go.RowKit

/-- A sum with one more byte. -/
def crcStep (s : Nat) (c : UInt8) : Nat := (s / 256) ^^^ (outT 8).getD ((s % 256) ^^^ c.toNat) 0
def moreD (s : Nat) (bs : List UInt8) : Nat := 4294967295 - bs.foldl crcStep (4294967295 - s)
theorem all32_8 : All32 (outT 8) := by
  have h : ∀ b, b ≤ 8 → All32 (outT b) := by
    intro b
    induction b with
    | zero => exact fun _ => all32_zero
    | succ b ih =>
      intro hb
      rw [outT]
      refine (ih (by omega)).inT ?_ _ _
      have hb8 : b = 0 ∨ b = 1 ∨ b = 2 ∨ b = 3 ∨ b = 4 ∨ b = 5 ∨ b = 6 ∨ b = 7 := by omega
      rcases hb8 with rfl | rfl | rfl | rfl | rfl | rfl | rfl | rfl <;> exact Nat.le_of_ble_eq_true (by kernel_rfl)
  exact h 8 (Nat.le_refl _)
theorem crcStep_lt (s : Nat) (c : UInt8) (hs : s < 4294967296) : crcStep s c < 4294967296 :=
  Nat.xor_lt_two_pow (n := 32) (by omega) (all32_8.getD _)
theorem crcFold_lt (bs : List UInt8) : ∀ s, s < 4294967296 → bs.foldl crcStep s < 4294967296 := by
  induction bs with
  | nil => exact fun _ h => h
  | cons b bs ih => exact fun s h => ih _ (crcStep_lt s b h)
theorem bits_xor_u8_nat (a b : Nat) (ha : a < 256) (hb : b < 256) : bits .xor .u8 (a : Int) (b : Int) = ((a ^^^ b : Nat) : Int) := by
  have hx : a ^^^ b < 2 ^ 8 := Nat.xor_lt_two_pow (by omega) (by omega)
  have h1 : (BitVec.ofInt 8 (a : Int)).toNat = a := by
    rw [BitVec.ofInt_natCast, BitVec.toNat_ofNat]; exact Nat.mod_eq_of_lt (by omega)
  have h2 : (BitVec.ofInt 8 (b : Int)).toNat = b := by
    rw [BitVec.ofInt_natCast, BitVec.toNat_ofNat]; exact Nat.mod_eq_of_lt (by omega)
  show IntKind.u8.wrap ((BitVec.ofInt 8 (a : Int) ^^^ BitVec.ofInt 8 (b : Int)).toNat : Int) = _
  rw [BitVec.toNat_xor, h1, h2, IntKind.wrap_u8]
  omega
theorem bits_not_u32 (s : Nat) (hs : s < 4294967296) : bits .xor .u32 IntKind.u32.max (s : Int) = ((4294967295 - s : Nat) : Int) := by
  have h1 : bits .xor .u32 IntKind.u32.max (s : Int) = ((4294967295 ^^^ s : Nat) : Int) := bits_xor_u32_nat 4294967295 s (by omega) hs
  rw [h1]
  have h2 : (BitVec.allOnes 32 ^^^ BitVec.ofNat 32 s) = ~~~ (BitVec.ofNat 32 s) := BitVec.allOnes_xor
  have h3 := congrArg BitVec.toNat h2
  rw [BitVec.toNat_xor, BitVec.toNat_not, BitVec.toNat_allOnes, BitVec.toNat_ofNat, Nat.mod_eq_of_lt (by omega)] at h3
  have h4 : 4294967295 ^^^ s = 4294967295 - s := h3
  rw [h4]
set_option maxHeartbeats 3200000 in
set_option maxRecDepth 100000 in
theorem more_any (s : Nat) (A : Option Addr) (n c : Nat) (bs : List UInt8) (B : Nat) (w : World) (hs : s < 4294967296) (hB : B ≤ w.heap.size) (hm : n ≤ 100000000) (hn : n = bs.length) (hr : Reads w B 1 A n (bs.map byteV)) :
    Calls Tryz.prog 228 #[.int .u32 (s : Nat), .slice A n c] w fun e w' => e = .returned (.int .u32 ((moreD s bs : Nat) : Int)) ∧ Below w.heap.size w w' := by
  have HT := hide (fun W => table_any W)
  have HR := hide hr
  have HN := hide hn
  have hsz : ((outT 8).map u32V).toArray.size = 256 := by rw [List.size_toArray, List.length_map, outT_length]
  have hii : (Tryz.prog.info? 329).map (·.size) = some ((outT 8).map u32V).toArray.size := by rw [hsz]; kernel_rfl
  have h1c : ((outT 8).map u32V).toArray.all (·.oneCell') = true := Array.all_eq_true_iff_forall_mem.2 (fun v hv => by
    have hv : v ∈ (outT 8).map u32V := by simpa using hv
    obtain ⟨x, _, rfl⟩ := List.mem_map.1 hv
    rfl)
  have hat : ∀ i, i < 256 → ((outT 8).map u32V).toArray[i]? = some (.int .u32 (((outT 8).getD i 0 : Nat) : Int)) := fun i hi => u32_at (by rw [outT_length]; omega)
  have hzc : Tryz.zeroCells329.size = ((outT 8).map u32V).toArray.size := by rw [hsz]; kernel_rfl
  have HI := hide hii
  have H1 := hide h1c
  have HA := hide hat
  have HZ := hide hzc
  clear hr hn hsz hii h1c hat hzc
  generalize hX : ((outT 8).map u32V).toArray = X at *
  clear hX
  go_enter Tryz.func228, Tryz.ntmps228
  go_wp2_with (first
    | (refine (HT.out _).mono ?_; rintro e w1 ⟨rfl, hb1⟩)
    | (refine wpList_store_row rfl 329 (.tmp 5) (.tmp 9) rfl w1.heap.size X rfl rfl 329 Tryz.zeroCells329 (Blk.new w1 _ _) HI.out HZ.out H1.out ?_))
  obtain ⟨wq, hwq⟩ : ∃ wq, wq = (w1.alloc (Obj.cells Tryz.zeroCells329 329)).setRow w1.heap.size X := ⟨_, rfl⟩
  have kX : Blk wq w1.heap.size 329 X := by rw [hwq]; exact setRow_heap _ w1.heap.size _ _ _ _ (Blk.new w1 _ _)
  have hbq : Below w.heap.size w wq := by rw [hwq]; exact (touch_setRow _ w1.heap.size _).below (hb1.alloc hb1.size _) hb1.size
  rw [← hwq]
  clear hwq
  have HX := hide kX
  clear kX
  go_loopw [6, 14] (fun sv iv wr => wr = wq ∧ ∃ k : Nat, k ≤ n ∧ iv = .int .i64 k ∧ sv = .int .u32 (((bs.take k).foldl crcStep (4294967295 - s) : Nat) : Int)) (fun _ iv _ => n - (intOf iv).toNat)
  case atStart => exact ⟨rfl, 0, Nat.zero_le _, rfl, by rw [List.take_zero, List.foldl_nil, bits_not_u32 s hs]⟩
  case round =>
    obtain ⟨rfl, k, hk, rfl, rfl⟩ := hrel
    have hst := crcFold_lt (bs.take k) (4294967295 - s) (by omega)
    generalize hS : (bs.take k).foldl crcStep (4294967295 - s) = st at hst ⊢
    by_cases hlt : k < n
    · obtain ⟨b, o, rfl, hbB, hcell⟩ := (HR.out.below hbq hB).plain (by omega) (by omega)
      have hkb : k < bs.length := by have := HN.out; omega
      have hc := hcell k (byteV bs[k]) (by rw [List.getElem?_map, List.getElem?_eq_getElem hkb]; rfl)
      obtain ⟨x, hx⟩ : ∃ x, bs[k] = x := ⟨_, rfl⟩
      rw [hx] at hc
      replace hc : wr.cell? ⟨b, o + k, none⟩ = some (.int .u8 ((x.toNat : Nat) : Int)) := hc
      have hxl := x.toNat_lt
      obtain ⟨y, hy⟩ : ∃ y, y = x.toNat := ⟨_, rfl⟩
      rw [← hy] at hc hxl
      have e1 : bits BinOp.xor IntKind.u8 ((st : Int) % 256) (y : Int) = (((st % 256) ^^^ y : Nat) : Int) := bits_xor_u8_nat (st % 256) y (by omega) (by omega)
      obtain ⟨z, hz⟩ : ∃ z, z = (st % 256) ^^^ y := ⟨_, rfl⟩
      have hzl : z < 256 := by rw [hz]; exact Nat.xor_lt_two_pow (n := 8) (by omega) (by omega)
      rw [← hz] at e1
      have qT : wr.cell? ⟨w1.heap.size, z, none⟩ = some (.int .u32 (((outT 8).getD z 0 : Nat) : Int)) := by rw [HX.out.cell]; exact HA.out z hzl
      have hTz := all32_8.getD z
      obtain ⟨u, hu⟩ : ∃ u, u = (outT 8).getD z 0 := ⟨_, rfl⟩
      rw [← hu] at qT hTz
      have e2 : bits BinOp.xor IntKind.u32 ((st : Int) / 256) (u : Int) = (((st / 256) ^^^ u : Nat) : Int) := bits_xor_u32_nat (st / 256) u (by omega) hTz
      have HS := hide (show (bs.take (k + 1)).foldl crcStep (4294967295 - s) = (st / 256) ^^^ u by
        rw [List.take_succ_eq_append_getElem hkb, List.foldl_append, hS, hx]
        show crcStep st x = _
        rw [crcStep, ← hy, ← hz, ← hu])
      clear hS hx hy hz hu hcell hkb hTz
      go_wp2
      go_roundw
      case rel => exact ⟨trivial, k + 1, by omega, by go_num, by rw [HS.out]⟩
      case measure => simp [intOf]; omega
    · obtain rfl : k = n := by omega
      rw [HN.out, List.take_length] at hS
      have HS := hide hS
      clear hS
      go_wp2
      go_ret
      refine ⟨?_, hbq⟩
      rw [moreD, HS.out]
      exact congrArg (fun z => Ending.returned (Value.int .u32 z)) (bits_not_u32 st hst)
set_option maxRecDepth 100000 in
theorem sum_any (A : Option Addr) (n c : Nat) (bs : List UInt8) (B : Nat) (w : World) (hB : B ≤ w.heap.size) (hm : n ≤ 100000000) (hn : n = bs.length) (hr : Reads w B 1 A n (bs.map byteV)) :
    Calls Tryz.prog 181 #[.slice A n c] w fun e w' => e = .returned (.int .u32 ((moreD 0 bs : Nat) : Int)) ∧ Below w.heap.size w w' := by
  have HM := hide (more_any 0 A n c bs B w (by omega) hB hm hn hr)
  clear hr hn
  go_enter Tryz.func181, Tryz.ntmps181
  go_wp2_with (refine HM.out.mono ?_; rintro e w1 ⟨rfl, hb1⟩)
  go_ret
  exact ⟨rfl, hb1⟩
end Go.Proofs.YtnanlaefehaifaaGreat
