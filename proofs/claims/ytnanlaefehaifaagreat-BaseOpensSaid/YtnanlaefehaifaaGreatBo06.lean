/-
  Texts of this claim, joined: KF, KG, KH, KI, KJ, KK, KL, KM, KO.
-/
import Derived.ChangeKeysEq
import Derived.Test.YtnanlaefehaifaaGreatBo05
set_option maxHeartbeats 6400000
set_option maxRecDepth 100000
namespace Go.Proofs.YtnanlaefehaifaaGreat
open Go.RowKit
section
variable (A : Option Addr) (n c : Nat) (bs : List UInt8) (B : Nat) (w : World) (hm : n ≤ 100000000) (hn : n = bs.length) (hr : Reads w B 1 A n (bs.map byteV))
include hm hn hr
theorem rNum_any (at_ width : Nat) (h1 : 1 ≤ width) (h8 : width ≤ 8) (hin : at_ + width ≤ n) :
    Calls Tryz.prog 99 #[.slice A n c, .int .i64 (at_ : Nat), .int .i64 (width : Nat)] w fun e w' => e = .returned (.int .i64 (numI (cutB bs at_ width))) ∧ w' = w := by
  have HN := hide (atR_any A n c bs at_ width B w hm hn hr h1 h8 hin)
  generalize numI (cutB bs at_ width) = v at *
  clear hr hn
  go_enter Tryz.func99, Tryz.ntmps99
  go_wp2_with (go_at_call 132; refine HN.out.mono ?_; rintro e w' ⟨rfl, hw'⟩; obtain rfl := hw'.symm)
  go_ret
  exact ⟨rfl, rfl⟩
theorem rNo_any (h512 : n = 512) : Calls Tryz.prog 68 #[.slice A n c] w fun e w' => e = .returned (.int .i64 (numI (cutB bs 12 2))) ∧ w' = w := by
  have HN := hide (rNum_any A n c bs B w hm hn hr 12 2 (by omega) (by omega) (by omega))
  generalize numI (cutB bs 12 2) = v at *
  clear hr hn h512
  go_enter Tryz.func68, Tryz.ntmps68
  go_wp2_with (go_at_call 99; refine HN.out.mono ?_; rintro e w' ⟨rfl, hw'⟩; obtain rfl := hw'.symm)
  go_ret
  exact ⟨rfl, rfl⟩
theorem rNext_any (h512 : n = 512) : Calls Tryz.prog 100 #[.slice A n c] w fun e w' => e = .returned (.int .i64 (numI (cutB bs 14 2))) ∧ w' = w := by
  have HN := hide (rNum_any A n c bs B w hm hn hr 14 2 (by omega) (by omega) (by omega))
  generalize numI (cutB bs 14 2) = v at *
  clear hr hn h512
  go_enter Tryz.func100, Tryz.ntmps100
  go_wp2_with (go_at_call 99; refine HN.out.mono ?_; rintro e w' ⟨rfl, hw'⟩; obtain rfl := hw'.symm)
  go_ret
  exact ⟨rfl, rfl⟩
theorem rGood_any (hnc : n ≤ c) (h512 : n = 512) : Calls Tryz.prog 67 #[.slice A n c] w fun e w' => e = .returned (.bool (numI (cutB bs 0 4) == ((moreR 0 (bs.drop 4) : Nat) : Int))) ∧ w' = w := by
  have HN := hide (atR_any A n c bs 0 4 B w hm hn hr (by omega) (by omega) (by omega))
  have hlt : moreR 0 (bs.drop 4) < 4294967296 := by unfold moreR; omega
  obtain ⟨b, o, rfl, hbB, _⟩ := hr.plain (by omega) (by omega)
  have hcut := hr.cut (k := 4) (cap := c) (by omega) hnc
  rw [if_neg (by omega), Option.map_some, add_plain] at hcut
  have HM := hide (moreR_any 0 (some ⟨b, o + 4, none⟩) (n - 4) (c - 4) (bs.drop 4) B w (by omega) (by omega) (by rw [List.length_drop, hn]) (by rw [List.map_drop]; simpa using hcut))
  generalize numI (cutB bs 0 4) = u at *
  generalize moreR 0 (bs.drop 4) = v at *
  subst h512
  have g1 : (4 : Int) ≤ c := by omega
  have g3 : ¬ (c = 4) := by omega
  clear hr hn hcut
  go_enter Tryz.func67, Tryz.ntmps67
  go_wp2_with (first
    | (go_at_call 132; refine HN.out.mono ?_; rintro e w' ⟨rfl, hw'⟩; obtain rfl := hw'.symm)
    | (go_at_call 131; refine HM.out.mono ?_; rintro e w' ⟨rfl, hw'⟩; obtain rfl := hw'.symm))
  go_ret
  exact ⟨rfl, rfl⟩
end
theorem zeros_any (m : Nat) (hm : m ≤ 1000000) (w : World) : Calls Tryz.prog 70 #[.int .i64 (m : Nat)] w fun e w' => (∃ A c, e = .returned (.slice A m c) ∧ OwnB w' w.heap.size (.slice A m c) (List.replicate m 0)) ∧ Below w.heap.size w w' := by
  obtain ⟨i0, hi, hz0, hz1, hz2⟩ := info_parts info_u8R
  go_enter Tryz.func70, Tryz.ntmps70
  go_wp2
  go_loopw [3, 4] (fun v iv wr => ∃ k : Nat, k ≤ m ∧ iv = .int .i64 k ∧ Hid (OwnB wr w.heap.size v (List.replicate k 0)) ∧ Below w.heap.size w wr) (fun _ iv _ => m - (intOf iv).toNat)
  case atStart => exact ⟨0, Nat.zero_le _, rfl, hide (OwnB.nil _ _), Below.refl _ _⟩
  case round =>
    obtain ⟨k, hk, rfl, hO, hb⟩ := hrel
    have hown := hO.out
    unfold OwnB at hown
    rw [List.length_replicate] at hown
    obtain ⟨A1, c1, rfl, _⟩ := own_slice hown
    have hz := hb.size
    by_cases hlt : (k : Int) < m
    · have HO := hide hown
      clear hown
      go_wp2_with (at_builtin; refine heldG ?_)
      refine unheldG ?_
      at_builtin
      refine wpList_append_any _ rfl _ _ _ rfl w.heap.size 5 i0 _ 1 1 Tryz.underlying33 hi hz0 hz1 hz2 rfl (by omega) (.slice A1 k c1) k _ rfl (HO.out.alloc _) (wr.heap.size + 1) (some ⟨wr.heap.size, 0, none⟩) 1 1 [.int .u8 0] rfl (Reads.of_blk (n := 1) (size := 1) (Blk.new _ _ _) rfl) (fun u hu => by rw [List.mem_singleton] at hu; subst hu; rfl) (by unfold maxLen; omega) (by omega) (by simp; omega) ?_
      intro v' w4 hown4 hg4 _
      have hb4 := (hb.alloc hz (.cells #[.int .u8 0] 5)).grown hg4 (by simp; omega) (fun q hq => (World.ownsRow.lt HO.out q hq).1)
      have HN := hide (show OwnB w4 w.heap.size v' (List.replicate (k + 1) 0) by
        unfold OwnB
        rw [List.length_replicate, List.replicate_succ', List.map_append]
        exact hown4)
      have HB4 := hide hb4
      clear hown4 hg4 hb4
      go_wp2
      go_roundw
      case rel => exact ⟨k + 1, by omega, by go_num, HN, HB4.out⟩
      case measure => simp [intOf]; omega
    · obtain rfl : k = m := by omega
      go_wp2
      go_ret
      exact ⟨⟨A1, c1, rfl, hO.out⟩, hb⟩
end Go.Proofs.YtnanlaefehaifaaGreat
namespace Go.Proofs.YtnanlaefehaifaaGreat
open Go.RowKit
theorem beB_succ (k : Nat) (n : Int) : beB (k + 1) n = byteS n (8 * k) :: beB k n := by
  unfold beB
  rw [List.range_succ_eq_map, List.map_cons, List.map_map]
  congr 1
  apply List.map_congr_left
  intro i hi
  have := List.mem_range.1 hi
  show byteS n (8 * (k + 1 - 1 - (i + 1))) = byteS n (8 * (k - 1 - i))
  congr 1
  omega
theorem byteS_val (n : Int) (k U : Nat) (hU : IntKind.u64.wrap n = (U : Nat)) : byteV (byteS n (8 * k)) = .int .u8 ((U / 256 ^ k % 256 : Nat) : Int) := by
  unfold byteV
  rw [byteS_int, hU]
  have h1 : ((2 : Int) ^ (8 * k)) = ((256 ^ k : Nat) : Int) := by
    rw [show (256 : Nat) ^ k = 2 ^ (8 * k) by rw [Nat.pow_mul], Int.natCast_pow]
    rfl
  rw [h1, ← Int.natCast_ediv]
  rfl
theorem bytesR_any (width : Nat) (n : Int) (hw : width ≤ 8) (w : World) : Calls Tryz.prog 61 #[.int .i64 (width : Nat), .int .i64 n] w fun e w' => (∃ A c, e = .returned (.slice A width c) ∧ OwnB w' w.heap.size (.slice A width c) (beB width n)) ∧ Below w.heap.size w w' := by
  obtain ⟨i0, hi, hz0, hz1, hz2⟩ := info_parts info_u8R
  obtain ⟨U, hU⟩ : ∃ U : Nat, IntKind.u64.wrap n = (U : Nat) := ⟨(IntKind.u64.wrap n).toNat, by rw [IntKind.wrap_u64]; omega⟩
  have hU2 : n % 18446744073709551616 = (U : Nat) := by rw [← hU, IntKind.wrap_u64]
  have hUl : U < 18446744073709551616 := by omega
  have HU := hide hU
  have h8 : (width : Int) ≤ 8 := by omega
  clear hU
  go_enter Tryz.func61, Tryz.ntmps61
  go_wp2
  go_loopw [5, 6, 7] (fun uv v iv wr => ∃ k : Nat, k ≤ width ∧ iv = .int .i64 k ∧ uv = .int .u64 ((U / 256 ^ k : Nat) : Int) ∧ Hid (OwnB wr w.heap.size v (beB k n)) ∧ Below w.heap.size w wr) (fun _ _ iv _ => width - (intOf iv).toNat)
  case atStart => exact ⟨0, Nat.zero_le _, rfl, by rw [HU.out]; simp, hide (OwnB.nil _ _), Below.refl _ _⟩
  case round =>
    obtain ⟨k, hk, rfl, rfl, hO, hb⟩ := hrel
    have hown := hO.out
    unfold OwnB at hown
    rw [beB_length] at hown
    obtain ⟨A1, c1, rfl, _⟩ := own_slice hown
    have hz := hb.size
    by_cases hlt : (k : Int) < width
    · have HV := hide (byteS_val n k U HU.out)
      have HD := hide (show U / 256 ^ (k + 1) = U / 256 ^ k / 256 by rw [Nat.pow_succ, Nat.div_div_eq_div_mul])
      have hy : U / 256 ^ k < 18446744073709551616 := Nat.lt_of_le_of_lt (Nat.div_le_self _ _) hUl
      generalize U / 256 ^ k = y at *
      have HO := hide hown
      clear hown
      go_wp2_with (at_builtin; refine heldG ?_)
      refine unheldG ?_
      at_builtin
      have hrow : (wr.alloc (.cells #[.int .u8 ((y : Int) % 256)] 5)).ownsRow w.heap.size 5 1 (.slice (some ⟨wr.heap.size, 0, none⟩) 1 1) 1 [.int .u8 ((y : Int) % 256)] := own_new (cur := [.int .u8 ((y : Int) % 256)]) (Blk.new _ _ _) hz rfl (Nat.le_refl _) (by unfold maxLen; omega) rfl rfl
      refine wpList_append_any _ rfl _ _ _ rfl w.heap.size 5 i0 _ 1 1 Tryz.underlying33 hi hz0 hz1 hz2 rfl (by omega) (.slice (some ⟨wr.heap.size, 0, none⟩) 1 1) 1 _ rfl hrow wr.heap.size A1 k c1 ((beB k n).map byteV) rfl ((Reads.of_own HO.out).alloc (Nat.le_refl _) _) (bytes_one _) (by unfold maxLen; omega) (by omega) (by simp; omega) ?_
      intro v' w4 hown4 hg4 _
      have hb4 := (hb.alloc hz (.cells #[.int .u8 ((y : Int) % 256)] 5)).grown hg4 (by simp; omega) (fun q hq => by cases hq; exact hz)
      have HN := hide (show OwnB w4 w.heap.size v' (beB (k + 1) n) by
        unfold OwnB
        rw [beB_length, beB_succ, List.map_cons, HV.out]
        rw [show 1 + k = k + 1 by omega] at hown4
        exact hown4)
      have HB4 := hide hb4
      clear hown4 hg4 hb4 hrow
      go_wp2
      go_roundw
      case rel => exact ⟨k + 1, by omega, by go_num, by rw [HD.out]; rfl, HN, HB4.out⟩
      case measure => simp [intOf]; omega
    · obtain rfl : k = width := by omega
      go_wp2
      go_ret
      exact ⟨⟨A1, c1, rfl, hO.out⟩, hb⟩
end Go.Proofs.YtnanlaefehaifaaGreat
namespace Go.Proofs.YtnanlaefehaifaaGreat
open Go.RowKit
noncomputable def pagesZ (n : Nat) : Array Value := madeCells (Value.agg Tryz.zeroCells63).cells (n * 512)
theorem devNewN_any (n : Nat) (h1 : 1 ≤ n) (h2 : n ≤ 1024) (w : World) : Calls Tryz.prog 8 #[.int .i64 (n : Nat)] w fun e w' => ∃ d g m, e = .returned (.pointer (some ⟨d, 0, none⟩)) ∧ Blk w' d 107 (devC (.slice (some ⟨g, 0, none⟩) n n) (.map (some m)) (.slice none 0 0) 0 0 0 0 0) ∧ Blk w' g 63 (pagesZ n) ∧ MapF w' m 0 (fun _ => none) ∧ w.heap.size ≤ d ∧ w.heap.size ≤ g ∧ w.heap.size ≤ m ∧ Below w.heap.size w w' := by
  obtain ⟨i0, hi, hz0, hz1, hz2⟩ := info_parts info_page
  have hmk0 := fun W => run_make_rowN (P := Tryz.prog) 104 63 i0 (.agg Tryz.zeroCells63) Tryz.underlying104 hi hz0 .i64 .i64 n n (Nat.le_refl _) (by rw [hz2]; omega) (by omega) W
  rw [hz1] at hmk0
  obtain ⟨X, hX⟩ : ∃ X, X = pagesZ n := ⟨_, rfl⟩
  unfold pagesZ at hX ⊢
  rw [← hX] at hmk0 ⊢
  have hmk : ∀ W : World, (Instr.makeSlice 104 (.int .i64 (n : Nat)) (.int .i64 (n : Nat))).run Tryz.prog W = .ok (.slice (some ⟨W.heap.size, 0, none⟩) n n) (W.alloc (.cells X 63)) := hmk0
  clear hX hmk0 hi hz0 hz1 hz2
  have hmm := @run_makeMap Tryz.prog
  have a1 : max (n : Int) 1 = n := by omega
  have a2 : min (n : Int) 1024 = n := by omega
  go_enter Tryz.func8, Tryz.ntmps8
  go_wp2
  go_ret
  have hs : ((w.alloc (.cells X 63)).alloc (.map #[] 0)).heap.size = w.heap.size + 1 + 1 := by simp
  have kn := Blk.new ((w.alloc (.cells X 63)).alloc (.map #[] 0)) 107 (devC (.slice (some ⟨w.heap.size, 0, none⟩) n n) (.map (some (w.heap.size + 1))) (.slice none 0 0) 0 0 0 0 0)
  rw [hs] at kn
  have hmf := MapF.start (w.alloc (.cells X 63))
  have hsz1 : (w.alloc (.cells X 63)).heap.size = w.heap.size + 1 := by simp
  rw [hsz1] at hmf
  exact ⟨_, _, _, rfl, kn, ((Blk.new w _ _).alloc _).alloc _, hmf.kept (Below.heap_alloc _ _ _ (by simp)), by omega, by omega, by omega, (below2 w _ _).alloc (by simp; omega) _⟩
end Go.Proofs.YtnanlaefehaifaaGreat
namespace Go.Proofs.YtnanlaefehaifaaGreat
open Go.RowKit
structure ConfD where
  b : Int
  p : Int
  f : Int
  c : Int
  l : Int
def confV (x : ConfD) : Value := .agg #[.int .i64 x.b, .int .i64 x.p, .int .i64 x.f, .int .i64 x.c, .int .i64 x.l]
def confOk (x : ConfD) : Bool := decide (1 ≤ x.b ∧ x.b ≤ 16 ∧ x.b < x.p ∧ x.p ≤ 1024 ∧ 4 ≤ x.f ∧ x.f ≤ 64 ∧ 1 ≤ x.c ∧ x.c ≤ 16 ∧ 4 ≤ x.l ∧ x.l ≤ 1024)
def confE (x : ConfD) : Int := if confOk x = true then 0 else 1
def withinB (n a b : Int) : Bool := decide (a ≤ n ∧ n ≤ b)
theorem metaWithin_any (n a b : Int) (w : World) : Calls Tryz.prog 139 #[.int .i64 n, .int .i64 a, .int .i64 b] w fun e w' => e = .returned (.bool (withinB n a b)) ∧ w' = w := by
  by_cases h1 : a ≤ n
  · by_cases h2 : n ≤ b
    · have HD := hide (show withinB n a b = true by simp [withinB]; omega)
      go_enter Tryz.func139, Tryz.ntmps139
      go_wp2
      go_ret
      exact ⟨ret_bool HD.out.symm, rfl⟩
    · have HD := hide (show withinB n a b = false by simp [withinB]; omega)
      go_enter Tryz.func139, Tryz.ntmps139
      go_wp2
      go_ret
      exact ⟨ret_bool HD.out.symm, rfl⟩
  · have HD := hide (show withinB n a b = false by simp [withinB]; omega)
    go_enter Tryz.func139, Tryz.ntmps139
    go_wp2
    go_ret
    exact ⟨ret_bool HD.out.symm, rfl⟩
theorem rightConf_any (x : ConfD) (w : World) : Calls Tryz.prog 18 #[confV x] w fun e w' => e = .returned (.bool (confOk x)) ∧ Below w.heap.size w w' := by
  obtain ⟨b, p, f, c, l⟩ := x
  unfold confV
  dsimp only
  go_enter Tryz.func18, Tryz.ntmps18
  by_cases h1 : b < 1
  · have HD := hide (show confOk ⟨b, p, f, c, l⟩ = false by simp [confOk]; omega)
    go_wp2
    go_ret
    exact ⟨ret_bool HD.out.symm, (Below.refl _ _).alloc (Nat.le_refl _) _⟩
  by_cases h2 : 16 < b
  · have HD := hide (show confOk ⟨b, p, f, c, l⟩ = false by simp [confOk]; omega)
    go_wp2
    go_ret
    exact ⟨ret_bool HD.out.symm, (Below.refl _ _).alloc (Nat.le_refl _) _⟩
  by_cases h3 : p ≤ b
  · have HD := hide (show confOk ⟨b, p, f, c, l⟩ = false by simp [confOk]; omega)
    go_wp2
    go_ret
    exact ⟨ret_bool HD.out.symm, (Below.refl _ _).alloc (Nat.le_refl _) _⟩
  by_cases h4 : 1024 < p
  · have HD := hide (show confOk ⟨b, p, f, c, l⟩ = false by simp [confOk]; omega)
    go_wp2
    go_ret
    exact ⟨ret_bool HD.out.symm, (Below.refl _ _).alloc (Nat.le_refl _) _⟩
  by_cases h5 : 4 ≤ f
  rotate_left
  · have HD := hide (show confOk ⟨b, p, f, c, l⟩ = false by simp [confOk]; omega)
    go_wp2
    go_ret
    exact ⟨ret_bool HD.out.symm, (Below.refl _ _).alloc (Nat.le_refl _) _⟩
  by_cases h6 : f ≤ 64
  rotate_left
  · have HD := hide (show confOk ⟨b, p, f, c, l⟩ = false by simp [confOk]; omega)
    go_wp2
    go_ret
    exact ⟨ret_bool HD.out.symm, (Below.refl _ _).alloc (Nat.le_refl _) _⟩
  by_cases h7 : 1 ≤ c
  rotate_left
  · have HD := hide (show confOk ⟨b, p, f, c, l⟩ = false by simp [confOk]; omega)
    go_wp2
    go_ret
    exact ⟨ret_bool HD.out.symm, (Below.refl _ _).alloc (Nat.le_refl _) _⟩
  by_cases h8 : c ≤ 16
  rotate_left
  · have HD := hide (show confOk ⟨b, p, f, c, l⟩ = false by simp [confOk]; omega)
    go_wp2
    go_ret
    exact ⟨ret_bool HD.out.symm, (Below.refl _ _).alloc (Nat.le_refl _) _⟩
  by_cases h9 : 4 ≤ l
  rotate_left
  · have HD := hide (show confOk ⟨b, p, f, c, l⟩ = false by simp [confOk]; omega)
    go_wp2
    go_ret
    exact ⟨ret_bool HD.out.symm, (Below.refl _ _).alloc (Nat.le_refl _) _⟩
  by_cases h10 : l ≤ 1024
  rotate_left
  · have HD := hide (show confOk ⟨b, p, f, c, l⟩ = false by simp [confOk]; omega)
    go_wp2
    go_ret
    exact ⟨ret_bool HD.out.symm, (Below.refl _ _).alloc (Nat.le_refl _) _⟩
  have HD := hide (show confOk ⟨b, p, f, c, l⟩ = true by simp [confOk]; omega)
  go_wp2
  go_ret
  exact ⟨ret_bool HD.out.symm, (Below.refl _ _).alloc (Nat.le_refl _) _⟩
theorem metaCheck_any (x : ConfD) (w : World) : Calls Tryz.prog 138 #[confV x] w fun e w' => e = .returned (.int .i64 (confE x)) ∧ Below w.heap.size w w' := by
  obtain ⟨b, p, f, c, l⟩ := x
  unfold confV
  dsimp only
  have HW := hide (fun n a b W => metaWithin_any n a b W)
  go_enter Tryz.func138, Tryz.ntmps138
  cases h1 : withinB b 1 16
  · have HD := hide (show confE ⟨b, p, f, c, l⟩ = 1 by rw [confE, if_neg]; simp [confOk]; simp [withinB] at *; omega)
    go_wp2_with (go_at_call 139; refine (HW.out _ _ _ _).mono ?_; rintro e w' ⟨rfl, hw'⟩; obtain rfl := hw'.symm)
    go_ret
    exact ⟨by rw [HD.out]; rfl, (Below.refl _ _).alloc (Nat.le_refl _) _⟩
  have hb : 1 ≤ b ∧ b ≤ 16 := by simpa [withinB] using h1
  obtain ⟨hb1, hb2⟩ := hb
  cases h2 : withinB p (b + 1) 1024
  · have HD := hide (show confE ⟨b, p, f, c, l⟩ = 1 by rw [confE, if_neg]; simp [confOk]; simp [withinB] at *; omega)
    go_wp2_with (go_at_call 139; refine (HW.out _ _ _ _).mono ?_; rintro e w' ⟨rfl, hw'⟩; obtain rfl := hw'.symm)
    go_ret
    exact ⟨by rw [HD.out]; rfl, (Below.refl _ _).alloc (Nat.le_refl _) _⟩
  cases h3 : withinB f 4 64
  · have HD := hide (show confE ⟨b, p, f, c, l⟩ = 1 by rw [confE, if_neg]; simp [confOk]; simp [withinB] at *; omega)
    go_wp2_with (go_at_call 139; refine (HW.out _ _ _ _).mono ?_; rintro e w' ⟨rfl, hw'⟩; obtain rfl := hw'.symm)
    go_ret
    exact ⟨by rw [HD.out]; rfl, (Below.refl _ _).alloc (Nat.le_refl _) _⟩
  cases h4 : withinB c 1 16
  · have HD := hide (show confE ⟨b, p, f, c, l⟩ = 1 by rw [confE, if_neg]; simp [confOk]; simp [withinB] at *; omega)
    go_wp2_with (go_at_call 139; refine (HW.out _ _ _ _).mono ?_; rintro e w' ⟨rfl, hw'⟩; obtain rfl := hw'.symm)
    go_ret
    exact ⟨by rw [HD.out]; rfl, (Below.refl _ _).alloc (Nat.le_refl _) _⟩
  cases h5 : withinB l 4 1024
  · have HD := hide (show confE ⟨b, p, f, c, l⟩ = 1 by rw [confE, if_neg]; simp [confOk]; simp [withinB] at *; omega)
    go_wp2_with (go_at_call 139; refine (HW.out _ _ _ _).mono ?_; rintro e w' ⟨rfl, hw'⟩; obtain rfl := hw'.symm)
    go_ret
    exact ⟨by rw [HD.out]; rfl, (Below.refl _ _).alloc (Nat.le_refl _) _⟩
  have HD := hide (show confE ⟨b, p, f, c, l⟩ = 0 by rw [confE, if_pos]; simp [confOk]; simp [withinB] at *; omega)
  go_wp2_with (go_at_call 139; refine (HW.out _ _ _ _).mono ?_; rintro e w' ⟨rfl, hw'⟩; obtain rfl := hw'.symm)
  go_ret
  exact ⟨by rw [HD.out]; rfl, (Below.refl _ _).alloc (Nat.le_refl _) _⟩
end Go.Proofs.YtnanlaefehaifaaGreat
namespace Go.Proofs.YtnanlaefehaifaaGreat
open Go.RowKit
def NewP (w : World) (e : Ending) (w' : World) : Prop := (∃ p, e = .returned (.pointer (some ⟨p, 0, none⟩)) ∧ w.heap.size ≤ p) ∧ Below w.heap.size w w'
theorem locksNew_any (w : World) : Calls Tryz.prog 77 #[] w (NewP w) := by
  have hmm := @run_makeMap Tryz.prog
  have hb0 : Below w.heap.size w w := Below.refl _ _
  have hb1 := hb0.alloc hb0.size (.map #[] 0)
  have hb2 := hb1.alloc hb1.size (.map #[] 0)
  have hb3 := hb2.alloc hb2.size (.map #[] 0)
  have hb4 := hb3.alloc hb3.size (.map #[] 0)
  go_enter Tryz.func77, Tryz.ntmps77
  go_wp2
  go_ret
  exact ⟨⟨_, rfl, by first | exact hb4.size | (have := hb4.size; simp at *; omega)⟩, hb4.alloc hb4.size _⟩
theorem latchNew_any (w : World) : Calls Tryz.prog 78 #[] w (NewP w) := by
  have hmm := @run_makeMap Tryz.prog
  have hb0 : Below w.heap.size w w := Below.refl _ _
  have hb1 := hb0.alloc hb0.size (.map #[] 0)
  have hb2 := hb1.alloc hb1.size (.map #[] 0)
  go_enter Tryz.func78, Tryz.ntmps78
  go_wp2
  go_ret
  exact ⟨⟨_, rfl, by first | exact hb2.size | (have := hb2.size; simp at *; omega)⟩, hb2.alloc hb2.size _⟩
theorem escrowNew_any (w : World) : Calls Tryz.prog 79 #[] w (NewP w) := by
  have hmm := @run_makeMap Tryz.prog
  have hb0 : Below w.heap.size w w := Below.refl _ _
  have hb1 := hb0.alloc hb0.size (.map #[] 0)
  have hb2 := hb1.alloc hb1.size (.map #[] 0)
  go_enter Tryz.func79, Tryz.ntmps79
  go_wp2
  go_ret
  exact ⟨⟨_, rfl, by first | exact hb2.size | (have := hb2.size; simp at *; omega)⟩, hb2.alloc hb2.size _⟩
theorem txnsNew_any (n : Int) (h1 : 1 ≤ n) (h2 : n ≤ 281474976710656) (w : World) : Calls Tryz.prog 80 #[.int .i64 n] w fun e w' => ∃ p m, e = .returned (.pointer (some ⟨p, 0, none⟩)) ∧ Blk w' p 226 #[.int .i64 n, .map (some m)] ∧ w.heap.size ≤ p ∧ Below w.heap.size w w' := by
  have hmm := @run_makeMap Tryz.prog
  have a1 : max n 1 = n := by omega
  have a2 : min n 281474976710656 = n := by omega
  have hb0 : Below w.heap.size w w := Below.refl _ _
  have hb1 := hb0.alloc hb0.size (.map #[] 0)
  go_enter Tryz.func80, Tryz.ntmps80
  go_wp2
  go_ret
  have hs : (w.alloc (.map #[] 0)).heap.size = w.heap.size + 1 := by simp
  have kn := Blk.new (w.alloc (.map #[] 0)) 226 #[.int .i64 n, .map (some w.heap.size)]
  rw [hs] at kn
  exact ⟨_, _, rfl, kn, by omega, hb1.alloc hb1.size _⟩
end Go.Proofs.YtnanlaefehaifaaGreat
namespace Go.Proofs.YtnanlaefehaifaaGreat
open Go.RowKit
def confB (bs : List UInt8) : ConfD := ⟨numI (cutB bs 17 1), numI (cutB bs 18 2), numI (cutB bs 20 1), numI (cutB bs 21 1), numI (cutB bs 22 2)⟩
def metaG (bs : List UInt8) : Option (ConfD × Int) :=
  if numI (cutB bs 12 2) = 0 ∧ (bs.getD 16 0).toNat = 0 ∧ confOk (confB bs) = true ∧ (confB bs).b < numI (cutB bs 14 2) ∧ numI (cutB bs 14 2) ≤ (confB bs).p then some (confB bs, numI (cutB bs 14 2)) else none
def MetaP (w : World) (o : Option (ConfD × Int)) (e : Ending) (w' : World) : Prop :=
  ((o = none ∧ e = .returned (.tuple #[confV ⟨0, 0, 0, 0, 0⟩, .int .i64 0, .bool false])) ∨ (∃ x u, o = some (x, u) ∧ e = .returned (.tuple #[confV x, .int .i64 u, .bool true]))) ∧ Below w.heap.size w w'
theorem info_confK : (Tryz.prog.info? 56).map (·.size) = some 5 := by kernel_rfl
theorem metaGetR_any (A : Option Addr) (c : Nat) (bs : List UInt8) (B : Nat) (w : World) (hB : B ≤ w.heap.size) (hn : 512 = bs.length) (hr : Reads w B 1 A 512 (bs.map byteV)) :
    Calls Tryz.prog 35 #[.slice A 512 c] w (MetaP w (metaG bs)) := by
  have HNUM := hide (fun (at_ width : Nat) (W : World) (h1 : 1 ≤ width) (h8 : width ≤ 8) (hin : at_ + width ≤ 512) (hb : Below w.heap.size w W) => rNum_any A 512 c bs B W (by omega) hn (hr.below hb hB) at_ width h1 h8 hin)
  have HNO' := hide (fun (W : World) (hb : Below w.heap.size w W) => rNo_any A 512 c bs B W (by omega) hn (hr.below hb hB) rfl)
  have HNX' := hide (fun (W : World) (hb : Below w.heap.size w W) => rNext_any A 512 c bs B W (by omega) hn (hr.below hb hB) rfl)
  obtain ⟨b, o, rfl, hbB, hcell⟩ := hr.plain (by omega) (by omega)
  obtain ⟨x16, hx⟩ : ∃ x, bs[16]? = some x := ⟨_, List.getElem?_eq_getElem (by omega)⟩
  have hc16 : w.cell? ⟨b, o + 16, none⟩ = some (.int .u8 ((x16.toNat : Nat) : Int)) := hcell 16 (byteV x16) (by rw [List.getElem?_map, hx]; rfl)
  have HG := hide (show metaG bs = (if numI (cutB bs 12 2) = 0 ∧ x16.toNat = 0 ∧ confOk ⟨numI (cutB bs 17 1), numI (cutB bs 18 2), numI (cutB bs 20 1), numI (cutB bs 21 1), numI (cutB bs 22 2)⟩ = true ∧ numI (cutB bs 17 1) < numI (cutB bs 14 2) ∧ numI (cutB bs 14 2) ≤ numI (cutB bs 18 2) then some (⟨numI (cutB bs 17 1), numI (cutB bs 18 2), numI (cutB bs 20 1), numI (cutB bs 21 1), numI (cutB bs 22 2)⟩, numI (cutB bs 14 2)) else none) by
    unfold metaG confB
    rw [show bs.getD 16 0 = x16 by rw [List.getD_eq_getElem?_getD, hx]; rfl])
  have HC16 := hide hc16
  clear hr hcell hx hc16 hn
  go_enter Tryz.func35, Tryz.ntmps35
  go_upto_region 1 with (fail)
  refine gen1 (R := fun W => Code.wp _ _ _ _ W) (fun W1 kb hb1 hz1 => ?_)
  have HB1 := hide hb1
  have HKB := hide kb
  clear kb hb1
  have n1 : Calls Tryz.prog 99 #[.slice (some ⟨b, o, none⟩) 512 c, .int .i64 17, .int .i64 1] W1 (fun e w' => e = .returned (.int .i64 (numI (cutB bs 17 1))) ∧ w' = W1) := HNUM.out 17 1 W1 (by omega) (by omega) (by omega) HB1.out
  have n2 : Calls Tryz.prog 99 #[.slice (some ⟨b, o, none⟩) 512 c, .int .i64 18, .int .i64 2] W1 (fun e w' => e = .returned (.int .i64 (numI (cutB bs 18 2))) ∧ w' = W1) := HNUM.out 18 2 W1 (by omega) (by omega) (by omega) HB1.out
  have n3 : Calls Tryz.prog 99 #[.slice (some ⟨b, o, none⟩) 512 c, .int .i64 20, .int .i64 1] W1 (fun e w' => e = .returned (.int .i64 (numI (cutB bs 20 1))) ∧ w' = W1) := HNUM.out 20 1 W1 (by omega) (by omega) (by omega) HB1.out
  have n4 : Calls Tryz.prog 99 #[.slice (some ⟨b, o, none⟩) 512 c, .int .i64 21, .int .i64 1] W1 (fun e w' => e = .returned (.int .i64 (numI (cutB bs 21 1))) ∧ w' = W1) := HNUM.out 21 1 W1 (by omega) (by omega) (by omega) HB1.out
  have n5 : Calls Tryz.prog 99 #[.slice (some ⟨b, o, none⟩) 512 c, .int .i64 22, .int .i64 2] W1 (fun e w' => e = .returned (.int .i64 (numI (cutB bs 22 2))) ∧ w' = W1) := HNUM.out 22 2 W1 (by omega) (by omega) (by omega) HB1.out
  clear HNUM
  generalize numI (cutB bs 17 1) = v1 at *
  generalize numI (cutB bs 18 2) = v2 at *
  generalize numI (cutB bs 20 1) = v3 at *
  generalize numI (cutB bs 21 1) = v4 at *
  generalize numI (cutB bs 22 2) = v5 at *
  have N1 := hide n1
  have N2 := hide n2
  have N3 := hide n3
  have N4 := hide n4
  have N5 := hide n5
  clear n1 n2 n3 n4 n5
  go_upto_region 2 with (go_at_call 99; first
    | (with_reducible refine N1.out.mono ?_; rintro e w' ⟨rfl, hw'⟩; obtain rfl := hw'.symm)
    | (with_reducible refine N2.out.mono ?_; rintro e w' ⟨rfl, hw'⟩; obtain rfl := hw'.symm)
    | (with_reducible refine N3.out.mono ?_; rintro e w' ⟨rfl, hw'⟩; obtain rfl := hw'.symm)
    | (with_reducible refine N4.out.mono ?_; rintro e w' ⟨rfl, hw'⟩; obtain rfl := hw'.symm)
    | (with_reducible refine N5.out.mono ?_; rintro e w' ⟨rfl, hw'⟩; obtain rfl := hw'.symm))
  refine gen1 (R := fun W => Code.wp _ _ _ _ W) (fun W2 kc hb2 hz2 => ?_)
  have hl2 : Below w.heap.size w W2 := HB1.out.trans (hb2.mono HB1.out.size)
  have HL2 := hide hl2
  have HKB2 := hide (Blk.via hb2 HKB.out)
  have HKC := hide kc
  have HNX := hide (HNX'.out W2 hl2)
  have HNO := hide (HNO'.out W2 hl2)
  have HRI := hide (show Calls Tryz.prog 18 #[.agg #[.int .i64 v1, .int .i64 v2, .int .i64 v3, .int .i64 v4, .int .i64 v5]] W2 (fun e w' => e = .returned (.bool (confOk ⟨v1, v2, v3, v4, v5⟩)) ∧ Below W2.heap.size W2 w') from rightConf_any ⟨v1, v2, v3, v4, v5⟩ W2)
  have h16 : W2.cell? ⟨b, o + 16, none⟩ = some (.int .u8 ((x16.toNat : Nat) : Int)) := (hl2.cell (p := ⟨b, o + 16, none⟩) (by simp; omega)).trans HC16.out
  have hxl := x16.toNat_lt
  clear HNX' HNO' kc hb2 hl2 N1 N2 N3 N4 N5
  generalize numI (cutB bs 14 2) = u at *
  generalize numI (cutB bs 12 2) = no at *
  generalize x16.toNat = y at *
  generalize hok : confOk ⟨v1, v2, v3, v4, v5⟩ = ok at *
  go_upto_region 3 with (go_at_call 100; refine HNX.out.mono ?_; rintro e w' ⟨rfl, hw'⟩; obtain rfl := hw'.symm)
  have z0 := HKC.out.cell 0
  have z1 := HKC.out.cell 1
  have z2 := HKC.out.cell 2
  have z3 := HKC.out.cell 3
  have z4 := HKC.out.cell 4
  cases bno : (no != 0)
  rotate_left
  · have HM := hide (show metaG bs = none by rw [HG.out, if_neg]; rintro ⟨q1, q2, q3, q4, q5⟩; rw [q1] at bno; cases bno)
    have c20 := (HKB2.out).cell 0
    have c21 := (HKB2.out).cell 1
    have c22 := (HKB2.out).cell 2
    have c23 := (HKB2.out).cell 3
    have c24 := (HKB2.out).cell 4
    have f20 := (HKB2.out).frozen 0
    have f21 := (HKB2.out).frozen 1
    have f22 := (HKB2.out).frozen 2
    have f23 := (HKB2.out).frozen 3
    have f24 := (HKB2.out).frozen 4
    have l20 := (HKB2.out).lt
    go_wp2_with (go_at_call 68; refine HNO.out.mono ?_; rintro e w' ⟨rfl, hw'⟩; obtain rfl := hw'.symm)
    refine bodyPost_ret (results_row_2 Tryz.results35 _ _ w.heap.size #[.int .i64 0, .int .i64 0, .int .i64 0, .int .i64 0, .int .i64 0] rfl (run_loadVar_row _ _ _ _ #[.int .i64 0, .int .i64 0, .int .i64 0, .int .i64 0, .int .i64 0] (0, 0) _ (((((Blk.set_ HKB2.out 0 _).set_ 1 _).set_ 2 _).set_ 3 _).set_ 4 _) Tryz.underlying56 rfl info_confK)) rfl ⟨.inl ⟨HM.out, rfl⟩, (((((Below.setCell HL2.out (p := ⟨w.heap.size, 0, none⟩) (Nat.le_refl _) _).setCell (p := ⟨w.heap.size, 1, none⟩) (Nat.le_refl _) _).setCell (p := ⟨w.heap.size, 2, none⟩) (Nat.le_refl _) _).setCell (p := ⟨w.heap.size, 3, none⟩) (Nat.le_refl _) _).setCell (p := ⟨w.heap.size, 4, none⟩) (Nat.le_refl _) _)⟩
  cases by16 : (((y : Nat) : Int) != 0)
  rotate_left
  · have HM := hide (show metaG bs = none by rw [HG.out, if_neg]; rintro ⟨q1, q2, q3, q4, q5⟩; rw [q2] at by16; cases by16)
    have c20 := (HKB2.out).cell 0
    have c21 := (HKB2.out).cell 1
    have c22 := (HKB2.out).cell 2
    have c23 := (HKB2.out).cell 3
    have c24 := (HKB2.out).cell 4
    have f20 := (HKB2.out).frozen 0
    have f21 := (HKB2.out).frozen 1
    have f22 := (HKB2.out).frozen 2
    have f23 := (HKB2.out).frozen 3
    have f24 := (HKB2.out).frozen 4
    have l20 := (HKB2.out).lt
    go_wp2_with (go_at_call 68; refine HNO.out.mono ?_; rintro e w' ⟨rfl, hw'⟩; obtain rfl := hw'.symm)
    refine bodyPost_ret (results_row_2 Tryz.results35 _ _ w.heap.size #[.int .i64 0, .int .i64 0, .int .i64 0, .int .i64 0, .int .i64 0] rfl (run_loadVar_row _ _ _ _ #[.int .i64 0, .int .i64 0, .int .i64 0, .int .i64 0, .int .i64 0] (0, 0) _ (((((Blk.set_ HKB2.out 0 _).set_ 1 _).set_ 2 _).set_ 3 _).set_ 4 _) Tryz.underlying56 rfl info_confK)) rfl ⟨.inl ⟨HM.out, rfl⟩, (((((Below.setCell HL2.out (p := ⟨w.heap.size, 0, none⟩) (Nat.le_refl _) _).setCell (p := ⟨w.heap.size, 1, none⟩) (Nat.le_refl _) _).setCell (p := ⟨w.heap.size, 2, none⟩) (Nat.le_refl _) _).setCell (p := ⟨w.heap.size, 3, none⟩) (Nat.le_refl _) _).setCell (p := ⟨w.heap.size, 4, none⟩) (Nat.le_refl _) _)⟩
  cases ok
  · have HM := hide (show metaG bs = none by rw [HG.out, if_neg]; rintro ⟨q1, q2, q3, q4, q5⟩; cases q3)
    go_upto_region 4 with (first
      | (go_at_call 68; refine HNO.out.mono ?_; rintro e w' ⟨rfl, hw'⟩; obtain rfl := hw'.symm)
      | (go_at_call 18; refine HRI.out.mono ?_; rintro e W3 ⟨rfl, hb3⟩; have y0 := (Blk.via hb3 HKC.out).cell 0; have y1 := (Blk.via hb3 HKC.out).cell 1; have y2 := (Blk.via hb3 HKC.out).cell 2; have y3 := (Blk.via hb3 HKC.out).cell 3; have y4 := (Blk.via hb3 HKC.out).cell 4; have HB3 := hide hb3; clear hb3))
    have HKB3 := hide (Blk.via HB3.out HKB2.out)
    have HL3 := hide (HL2.out.trans (HB3.out.mono HL2.out.size))
    have c20 := (HKB3.out).cell 0
    have c21 := (HKB3.out).cell 1
    have c22 := (HKB3.out).cell 2
    have c23 := (HKB3.out).cell 3
    have c24 := (HKB3.out).cell 4
    have f20 := (HKB3.out).frozen 0
    have f21 := (HKB3.out).frozen 1
    have f22 := (HKB3.out).frozen 2
    have f23 := (HKB3.out).frozen 3
    have f24 := (HKB3.out).frozen 4
    have l20 := (HKB3.out).lt
    go_wp2
    refine bodyPost_ret (results_row_2 Tryz.results35 _ _ w.heap.size #[.int .i64 0, .int .i64 0, .int .i64 0, .int .i64 0, .int .i64 0] rfl (run_loadVar_row _ _ _ _ #[.int .i64 0, .int .i64 0, .int .i64 0, .int .i64 0, .int .i64 0] (0, 0) _ (((((Blk.set_ HKB3.out 0 _).set_ 1 _).set_ 2 _).set_ 3 _).set_ 4 _) Tryz.underlying56 rfl info_confK)) rfl ⟨.inl ⟨HM.out, rfl⟩, (((((Below.setCell HL3.out (p := ⟨w.heap.size, 0, none⟩) (Nat.le_refl _) _).setCell (p := ⟨w.heap.size, 1, none⟩) (Nat.le_refl _) _).setCell (p := ⟨w.heap.size, 2, none⟩) (Nat.le_refl _) _).setCell (p := ⟨w.heap.size, 3, none⟩) (Nat.le_refl _) _).setCell (p := ⟨w.heap.size, 4, none⟩) (Nat.le_refl _) _)⟩
  by_cases h4 : u ≤ v1
  · have b4 : decide (u ≤ v1) = true := decide_eq_true h4
    have HM := hide (show metaG bs = none by rw [HG.out, if_neg]; rintro ⟨q1, q2, q3, q4, q5⟩; exact absurd q4 (Int.not_lt.2 h4))
    clear h4
    go_upto_region 4 with (first
      | (go_at_call 68; refine HNO.out.mono ?_; rintro e w' ⟨rfl, hw'⟩; obtain rfl := hw'.symm)
      | (go_at_call 18; refine HRI.out.mono ?_; rintro e W3 ⟨rfl, hb3⟩; have y0 := (Blk.via hb3 HKC.out).cell 0; have y1 := (Blk.via hb3 HKC.out).cell 1; have y2 := (Blk.via hb3 HKC.out).cell 2; have y3 := (Blk.via hb3 HKC.out).cell 3; have y4 := (Blk.via hb3 HKC.out).cell 4; have HB3 := hide hb3; clear hb3))
    have HKB3 := hide (Blk.via HB3.out HKB2.out)
    have HL3 := hide (HL2.out.trans (HB3.out.mono HL2.out.size))
    have c20 := (HKB3.out).cell 0
    have c21 := (HKB3.out).cell 1
    have c22 := (HKB3.out).cell 2
    have c23 := (HKB3.out).cell 3
    have c24 := (HKB3.out).cell 4
    have f20 := (HKB3.out).frozen 0
    have f21 := (HKB3.out).frozen 1
    have f22 := (HKB3.out).frozen 2
    have f23 := (HKB3.out).frozen 3
    have f24 := (HKB3.out).frozen 4
    have l20 := (HKB3.out).lt
    go_wp2
    refine bodyPost_ret (results_row_2 Tryz.results35 _ _ w.heap.size #[.int .i64 0, .int .i64 0, .int .i64 0, .int .i64 0, .int .i64 0] rfl (run_loadVar_row _ _ _ _ #[.int .i64 0, .int .i64 0, .int .i64 0, .int .i64 0, .int .i64 0] (0, 0) _ (((((Blk.set_ HKB3.out 0 _).set_ 1 _).set_ 2 _).set_ 3 _).set_ 4 _) Tryz.underlying56 rfl info_confK)) rfl ⟨.inl ⟨HM.out, rfl⟩, (((((Below.setCell HL3.out (p := ⟨w.heap.size, 0, none⟩) (Nat.le_refl _) _).setCell (p := ⟨w.heap.size, 1, none⟩) (Nat.le_refl _) _).setCell (p := ⟨w.heap.size, 2, none⟩) (Nat.le_refl _) _).setCell (p := ⟨w.heap.size, 3, none⟩) (Nat.le_refl _) _).setCell (p := ⟨w.heap.size, 4, none⟩) (Nat.le_refl _) _)⟩
  have b4 : decide (u ≤ v1) = false := decide_eq_false h4
  have H4 := hide (Int.not_le.1 h4)
  clear h4
  by_cases h5 : v2 < u
  · have b5 : decide (v2 < u) = true := decide_eq_true h5
    have HM := hide (show metaG bs = none by rw [HG.out, if_neg]; rintro ⟨q1, q2, q3, q4, q5⟩; exact absurd q5 (Int.not_le.2 h5))
    clear h5
    go_upto_region 4 with (first
      | (go_at_call 68; refine HNO.out.mono ?_; rintro e w' ⟨rfl, hw'⟩; obtain rfl := hw'.symm)
      | (go_at_call 18; refine HRI.out.mono ?_; rintro e W3 ⟨rfl, hb3⟩; have y0 := (Blk.via hb3 HKC.out).cell 0; have y1 := (Blk.via hb3 HKC.out).cell 1; have y2 := (Blk.via hb3 HKC.out).cell 2; have y3 := (Blk.via hb3 HKC.out).cell 3; have y4 := (Blk.via hb3 HKC.out).cell 4; have HB3 := hide hb3; clear hb3))
    have HKB3 := hide (Blk.via HB3.out HKB2.out)
    have HL3 := hide (HL2.out.trans (HB3.out.mono HL2.out.size))
    have c20 := (HKB3.out).cell 0
    have c21 := (HKB3.out).cell 1
    have c22 := (HKB3.out).cell 2
    have c23 := (HKB3.out).cell 3
    have c24 := (HKB3.out).cell 4
    have f20 := (HKB3.out).frozen 0
    have f21 := (HKB3.out).frozen 1
    have f22 := (HKB3.out).frozen 2
    have f23 := (HKB3.out).frozen 3
    have f24 := (HKB3.out).frozen 4
    have l20 := (HKB3.out).lt
    go_wp2
    refine bodyPost_ret (results_row_2 Tryz.results35 _ _ w.heap.size #[.int .i64 0, .int .i64 0, .int .i64 0, .int .i64 0, .int .i64 0] rfl (run_loadVar_row _ _ _ _ #[.int .i64 0, .int .i64 0, .int .i64 0, .int .i64 0, .int .i64 0] (0, 0) _ (((((Blk.set_ HKB3.out 0 _).set_ 1 _).set_ 2 _).set_ 3 _).set_ 4 _) Tryz.underlying56 rfl info_confK)) rfl ⟨.inl ⟨HM.out, rfl⟩, (((((Below.setCell HL3.out (p := ⟨w.heap.size, 0, none⟩) (Nat.le_refl _) _).setCell (p := ⟨w.heap.size, 1, none⟩) (Nat.le_refl _) _).setCell (p := ⟨w.heap.size, 2, none⟩) (Nat.le_refl _) _).setCell (p := ⟨w.heap.size, 3, none⟩) (Nat.le_refl _) _).setCell (p := ⟨w.heap.size, 4, none⟩) (Nat.le_refl _) _)⟩
  have HM := hide (show metaG bs = some (⟨v1, v2, v3, v4, v5⟩, u) by
    rw [HG.out, if_pos]
    have e1 : no = 0 := by simpa using bno
    have e2 : y = 0 := by simpa using by16
    exact ⟨e1, e2, by trivial, H4.out, Int.not_lt.1 h5⟩)
  have b5 : decide (v2 < u) = false := decide_eq_false h5
  clear h5
  go_upto_region 5 with (first
    | (go_at_call 68; refine HNO.out.mono ?_; rintro e w' ⟨rfl, hw'⟩; obtain rfl := hw'.symm)
    | (go_at_call 18; refine HRI.out.mono ?_; rintro e W3 ⟨rfl, hb3⟩; have y0 := (Blk.via hb3 HKC.out).cell 0; have y1 := (Blk.via hb3 HKC.out).cell 1; have y2 := (Blk.via hb3 HKC.out).cell 2; have y3 := (Blk.via hb3 HKC.out).cell 3; have y4 := (Blk.via hb3 HKC.out).cell 4; have HB3 := hide hb3; clear hb3))
  have HKB3 := hide (Blk.via HB3.out HKB2.out)
  have HL3 := hide (HL2.out.trans (HB3.out.mono HL2.out.size))
  have c20 := (HKB3.out).cell 0
  have c21 := (HKB3.out).cell 1
  have c22 := (HKB3.out).cell 2
  have c23 := (HKB3.out).cell 3
  have c24 := (HKB3.out).cell 4
  have f20 := (HKB3.out).frozen 0
  have f21 := (HKB3.out).frozen 1
  have f22 := (HKB3.out).frozen 2
  have f23 := (HKB3.out).frozen 3
  have f24 := (HKB3.out).frozen 4
  have l20 := (HKB3.out).lt
  go_wp2
  refine bodyPost_ret (results_row_2 Tryz.results35 _ _ w.heap.size #[.int .i64 v1, .int .i64 v2, .int .i64 v3, .int .i64 v4, .int .i64 v5] rfl (run_loadVar_row _ _ _ _ #[.int .i64 v1, .int .i64 v2, .int .i64 v3, .int .i64 v4, .int .i64 v5] (0, 0) _ (((((Blk.set_ HKB3.out 0 _).set_ 1 _).set_ 2 _).set_ 3 _).set_ 4 _) Tryz.underlying56 rfl info_confK)) rfl ⟨.inr ⟨_, _, HM.out, rfl⟩, (((((Below.setCell HL3.out (p := ⟨w.heap.size, 0, none⟩) (Nat.le_refl _) _).setCell (p := ⟨w.heap.size, 1, none⟩) (Nat.le_refl _) _).setCell (p := ⟨w.heap.size, 2, none⟩) (Nat.le_refl _) _).setCell (p := ⟨w.heap.size, 3, none⟩) (Nat.le_refl _) _).setCell (p := ⟨w.heap.size, 4, none⟩) (Nat.le_refl _) _)⟩
end Go.Proofs.YtnanlaefehaifaaGreat
namespace Go.Proofs.YtnanlaefehaifaaGreat
open Go.RowKit
structure ItemD where
  st : Int
  key : ByteArray
  cell : CellD
def item0 : ItemD := ⟨0, ⟨#[]⟩, ⟨0, [], 0, 0, 0⟩⟩
def slotS (bs : List UInt8) : Nat := (bs.getD 0 0).toNat
def slotN (bs : List UInt8) : Nat := (bs.getD 1 0).toNat
def slotK (bs : List UInt8) : ByteArray := ⟨(cutB bs 2 (slotN bs)).toArray⟩
def slotOk (bs : List UInt8) (d : CellD) : Prop := rightI (slotS bs) (slotK bs) d = true ∧ pad64 (itemB (slotS bs) (slotK bs) d) = bs
instance (bs : List UInt8) (d : CellD) : Decidable (slotOk bs d) := inferInstanceAs (Decidable (_ ∧ _))
def slotD (bs : List UInt8) : Option CellD → Option ItemD
  | none => none
  | some d => if slotOk bs d then some ⟨slotS bs, slotK bs, d⟩ else none
def slotG (bs : List UInt8) : Option ItemD :=
  if bs = List.replicate 64 0 then some item0 else if 16 < slotN bs then none else slotD bs (cellG (bs.drop (2 + slotN bs)))
theorem cellG_kind {bs : List UInt8} {d : CellD} (h : cellG bs = some d) : d.kind = 1 ∨ d.kind = 2 := by
  unfold cellG at h
  split at h
  · split at h
    · injection h with h; subst h; exact .inl rfl
    · cases h
  · split at h
    · split at h
      · injection h with h; subst h; exact .inr rfl
      · cases h
    · cases h
theorem slotG_zero {bs : List UInt8} (h0 : slotS bs = 0) (hne : bs ≠ List.replicate 64 0) : slotG bs = none := by
  unfold slotG
  rw [if_neg hne]
  split
  · rfl
  · cases hc : cellG (bs.drop (2 + slotN bs)) with
    | none => rfl
    | some d =>
      show (if slotOk bs d then _ else none) = none
      rw [if_neg]
      rintro ⟨h, _⟩
      rw [h0] at h
      have hk := cellG_kind hc
      unfold rightI itemZ cellEq cell0 at h
      simp at h
      omega
def slotB (bs : List UInt8) (i : Nat) : List UInt8 := cutB bs (32 + 64 * i) 64
theorem slotB_length {bs : List UInt8} (hl : bs.length = 512) {i : Nat} (hi : i < 7) : (slotB bs i).length = 64 := by
  unfold slotB cutB
  rw [List.length_take, List.length_drop]
  omega
def slotsOk (bs : List UInt8) : Nat → Bool
  | 0 => true
  | i + 1 => slotsOk bs i && (slotG (slotB bs i)).isSome
theorem slotsOk_iff {bs : List UInt8} (n : Nat) : slotsOk bs n = true ↔ ∀ i, i < n → (slotG (slotB bs i)).isSome = true := by
  induction n with
  | zero => simp [slotsOk]
  | succ n ih =>
    simp only [slotsOk, Bool.and_eq_true, ih]
    constructor
    · rintro ⟨h1, h2⟩ i hi
      rcases Nat.lt_or_ge i n with h | h
      · exact h1 i h
      · obtain rfl : i = n := by omega
        exact h2
    · intro h
      exact ⟨fun i hi => h i (by omega), h n (by omega)⟩
theorem slotsOk_no {bs : List UInt8} {i n : Nat} (hi : i < n) (h : slotG (slotB bs i) = none) : slotsOk bs n = false := by
  cases hs : slotsOk bs n with
  | false => rfl
  | true => have := (slotsOk_iff n).1 hs i hi; rw [h] at this; cases this
def rightP (bs : List UInt8) (no : Int) : Bool :=
  (numI (cutB bs 0 4) == ((moreD 0 (bs.drop 4) : Nat) : Int)) && ((numI (cutB bs 12 2) == no) && ((cutB bs 24 8 == List.replicate 8 0) && ((bs.drop 480 == List.replicate 32 0) && slotsOk bs 7)))
end Go.Proofs.YtnanlaefehaifaaGreat
namespace Go.Proofs.YtnanlaefehaifaaGreat
open Go.RowKit
theorem bytes_at {bs : List UInt8} {i : Nat} (h : i < bs.length) : ((bs.map byteV).toArray)[i]? = some (.int .u8 (((bs.getD i 0).toNat : Nat) : Int)) := by
  rw [List.getElem?_toArray, List.getElem?_map, List.getElem?_eq_getElem h, List.getD_eq_getElem?_getD, List.getElem?_eq_getElem h]
  rfl
theorem run_eqItemsB {P : Program} (w : World) (d : Nat) (e : TypeId) (he : P.underlying e = some (.int .u8)) (xs bs : List UInt8) (hl : xs.length = bs.length) : ∀ is : List Nat, (∀ i ∈ is, i < xs.length) →
    (Op.eqItems (d + 1) e 1 (xs.map byteV).toArray (bs.map byteV).toArray is).run P w = .ok (is.all fun i => xs.getD i 0 == bs.getD i 0) w
  | [], _ => by simp [Op.eqItems]
  | i :: is, h => by
    have hi : i < xs.length := h i List.mem_cons_self
    have hp : P.plainKey e = true := by simp [Program.plainKey, he]
    have ih := run_eqItemsB w d e he xs bs hl is (fun j hj => h j (List.mem_cons_of_mem _ hj))
    have hx : (((xs.getD i 0).toNat : Int) == ((bs.getD i 0).toNat : Int)) = (xs.getD i 0 == bs.getD i 0) := by
      rw [Bool.eq_iff_iff, beq_iff_eq, beq_iff_eq]
      constructor
      · intro h
        exact UInt8.toNat_inj.1 (by omega)
      · intro h
        rw [h]
    unfold Op.eqItems
    rw [Nat.mul_one]
    simp only [Sem.run_bind, run_part_plain w hp (bytes_at hi), run_part_plain w hp (bytes_at (hl ▸ hi)), Result.andThen_ok, run_equalIn_int w d e .u8 .u8 _ _ he, List.all_cons, hx]
    cases hb : (xs.getD i 0 == bs.getD i 0)
    · simp
    · simpa using ih
theorem all_getD {xs bs : List UInt8} {n : Nat} (ha : xs.length = n) (hb : bs.length = n) : ((List.range n).all fun i => xs.getD i 0 == bs.getD i 0) = (xs == bs) := by
  rw [Bool.eq_iff_iff, List.all_eq_true, beq_iff_eq]
  constructor
  · intro h
    refine List.ext_getElem (by omega) (fun i h1 h2 => ?_)
    have := h i (List.mem_range.2 (by omega))
    rw [beq_iff_eq, List.getD_eq_getElem?_getD, List.getD_eq_getElem?_getD, List.getElem?_eq_getElem h1, List.getElem?_eq_getElem h2] at this
    exact this
  · rintro rfl i _
    simp
theorem info_u8X : (Tryz.prog.info? 5).map (·.size) = some 1 := by kernel_rfl
theorem run_eqB (t : TypeId) (n d : Nat) (ht : Tryz.prog.underlying t = some (.array n 5)) (xs bs : List UInt8) (ha : xs.length = n) (hb : bs.length = n) (w : World) :
    (Op.equalIn (d + 2) t (.agg (xs.map byteV).toArray) (.agg (bs.map byteV).toArray)).run Tryz.prog w = .ok (xs == bs) w := by
  obtain ⟨i, hi, hs⟩ := Option.map_eq_some_iff.1 info_u8X
  rw [run_equalIn_array w (d + 1) _ _ ht hi]
  have hc : Tryz.prog.cellsOf 5 = 1 := by rw [Program.cellsOf, hi]; exact hs
  rw [hc, run_eqItemsB w d 5 Tryz.underlying5 xs bs (by omega) _ (fun i hi => by have := List.mem_range.1 hi; omega), all_getD ha hb]
theorem itemB_le (st : Int) (k : ByteArray) (d : CellD) : (itemB st k d).length ≤ 64 := by
  unfold itemB
  split
  · rename_i hh
    have h2 := hh.2
    unfold rightI at h2
    rw [if_neg hh.1] at h2
    simp only [Bool.and_eq_true] at h2
    have h3 := h2.2.1
    unfold goodKey at h3
    simp only [Bool.and_eq_true, decide_eq_true_eq] at h3
    have h4 := cellB_le34 h2.2.2
    have h5 : k.data.toList.length = k.size := by rw [Array.length_toList]; rfl
    simp only [List.length_append, List.length_cons, List.length_nil]
    omega
  · simp
theorem wpList_load_rowG {P : Program} {ops : Array Oper} {rest : List Oper} {o : Oper} {a : Act} {w : World} {Q : Exit → Act → World → Prop} (hw : Region.wanted o (yielded ops a.tmps) = true) (ty : TypeId) (x : Operand) (ho : o.op = .load ty x)
    (g : Nat) (hx : a.eval x = .pointer (some ⟨g, 0, none⟩)) (t : TypeId) (cs : Array Value) (fr : Nat × Nat) (d : TypeDesc) (hg : w.heap[g]? = some (.cells cs t fr)) (hu : P.underlying ty = some d) (hd : (match d with | .struct _ | .array _ _ => true | _ => false) = true) (hi : (P.info? ty).map (·.size) = some cs.size)
    (h : wpList P ops Q rest (a.put o.dst (.agg cs)) w) : wpList P ops Q (o :: rest) a w := by
  unfold wpList
  rw [if_pos hw]
  exact .inl (wp_load_row ty x ho g hx t cs fr d hg hu hd hi h)
def isU8 : Value → Bool
  | .int .u8 _ => true
  | _ => false
theorem not_u8 {cs : Array Value} (h : cs.toList.all (fun v => !isU8 v) = true) (i : Nat) (x : UInt8) : cs[i]? ≠ some (byteV x) := by
  intro hi
  rw [List.all_eq_true] at h
  have := h _ (Array.mem_toList_iff.2 (Array.mem_of_getElem? hi))
  simp [isU8, byteV] at this
theorem BytesAt.setOther {w : World} {B : Nat} {v : Value} {bs : List UInt8} (h : BytesAt w B v bs) {g : Nat} {t : TypeId} {cs : Array Value} (k : Blk w g t cs) (hc : cs.toList.all (fun v => !isU8 v) = true) (i : Nat) (u : Value) : BytesAt (w.setCell ⟨g, i, none⟩ u) B v bs := by
  obtain ⟨A, n, c, rfl, h2, h3, h4, h5, h6, h7⟩ := h
  refine ⟨A, n, c, rfl, h2, h3, h4, h5, h6, fun hn => ?_⟩
  obtain ⟨ad, rfl, hb, hcell⟩ := h7 hn
  refine ⟨ad, rfl, hb, fun j u' hu => ?_⟩
  have h1 := hcell j u' hu
  rw [List.getElem?_map] at hu
  obtain ⟨x, hx, rfl⟩ := Option.map_eq_some_iff.1 hu
  refine (World.cell?_setCell_other w _ _ _ ?_).trans h1
  intro e
  rw [← e, k.cell] at h1
  exact not_u8 hc i x h1
end Go.Proofs.YtnanlaefehaifaaGreat
namespace Go.Proofs.YtnanlaefehaifaaGreat
open Go.RowKit
theorem wpList_app {ops : Array Oper} {rest : List Oper} {o : Oper} {a : Act} {w : World} {Q : Exit → Act → World → Prop} (hgd : o.guard = none) (s x : Operand)
    (ho : o.op = .call { callee := .builtin .append, args := #[s, x], argTypes := #[33, 33] })
    (L : Nat) (A : Option Addr) (n c : Nat) (bs : List UInt8) (hs : a.eval s = .slice A n c) (hown : OwnB w L (.slice A n c) bs) (hn : n = bs.length)
    (B : Nat) (A2 : Option Addr) (m c2 : Nat) (bs2 : List UInt8) (hx : a.eval x = .slice A2 m c2) (hr : Reads w B 1 A2 m (bs2.map byteV)) (hm : m = bs2.length) (h63 : n + m ≤ 1000000)
    (w0 : World) (hb : Below L w0 w) (hL : L ≤ w.heap.size)
    (h : ∀ A' c' w', OwnB w' L (.slice A' (n + m) c') (bs ++ bs2) → Below L w0 w' → w.grownBy w' (Value.slice A n c).ownBlock → wpList Tryz.prog ops Q rest (a.put o.dst (.slice A' (n + m) c')) w') : wpList Tryz.prog ops Q (o :: rest) a w := by
  obtain ⟨i0, hi, hz0, hz1, hz2⟩ := info_parts info_u8R
  subst hn hm
  refine wpList_append_any w hgd s x _ ho L 5 i0 _ 1 1 Tryz.underlying33 hi hz0 hz1 hz2 rfl (by omega) _ bs.length _ hs hown B A2 bs2.length c2 _ hx hr (bytes_one _) (by unfold maxLen; omega) (by omega) hL ?_
  intro v' w' ho' hg' _
  have ho9 : OwnB w' L v' (bs ++ bs2) := by
    unfold OwnB
    rw [List.length_append, List.map_append]
    exact ho'
  obtain ⟨A', c', rfl, _⟩ := own_slice ho9
  rw [List.length_append] at ho9 ⊢
  exact h A' c' w' ho9 (hb.grown hg' hL (fun q hq => (OwnB.lt hown q hq).1)) hg'
theorem beB_one_one : beB 1 1 = [1] := by decide
theorem beB_one_two : beB 1 2 = [2] := by decide
theorem beB_one_nat (n : Nat) (h : n < 256) : beB 1 (n : Int) = [UInt8.ofNat n] := by
  have h1 : beB 1 (n : Int) = [byteS (n : Int) 0] := rfl
  rw [h1]
  congr 1
  have h2 := byteS_val (n : Int) 0 n (by rw [IntKind.wrap_u64]; omega)
  rw [Nat.pow_zero, Nat.div_one, Nat.mod_eq_of_lt h, Nat.mul_zero] at h2
  have h3 := byteV_ofNat h
  rw [h3] at h2
  unfold byteV at h2
  injection h2 with _ h2
  exact UInt8.toNat_inj.1 (by omega)
theorem one_own {W W' : World} {L : Nat} {x : UInt8} (k : Blk W' W.heap.size 5 #[byteV x]) (hL : L ≤ W.heap.size) : OwnB W' L (.slice (some ⟨W.heap.size, 0, none⟩) 1 1) [x] :=
  own_new (cur := [byteV x]) k hL rfl (Nat.le_refl _) (by unfold maxLen; omega) rfl rfl
theorem cellBytesR_any (d : CellD) (A : Option Addr) (n c : Nat) (B : Nat) (w : World) (hB : B ≤ w.heap.size) (hn : n = d.data.length) (hr : Reads w B 1 A n (d.data.map byteV)) :
    Calls Tryz.prog 234 #[.agg #[.int .i64 d.kind, .slice A n c, .int .i64 d.lo, .int .i64 d.hi, .int .i64 d.val]] w (GivesB w (cellB d).length (cellB d)) := by
  have HC := hide (fun W => cellRight_any d A n c W hn)
  have HBY := hide (fun (x : Int) W => bytesR_any 8 x (by omega) W)
  have HR := hide hr
  have HN := hide hn
  obtain ⟨dk, dd, dl, dh, dv⟩ := d
  dsimp only at *
  clear hr hn
  go_enter Tryz.func234, Tryz.ntmps234
  go_upto_region 1 with (fail)
  refine gen1 (R := fun W => Code.wp _ _ _ _ W) (fun W1 kb hb1 hz1 => ?_)
  have HK1 := hide kb
  have HB1 := hide hb1
  clear kb hb1
  cases hc : rightC ⟨dk, dd, dl, dh, dv⟩
  · have HBB := hide (show cellB ⟨dk, dd, dl, dh, dv⟩ = [] by unfold cellB; rw [hc]; rfl)
    rw [hc] at HC
    clear hc
    have c0 := (HK1.out).cell 0
    have c1 := (HK1.out).cell 1
    have c2 := (HK1.out).cell 2
    have c3 := (HK1.out).cell 3
    have c4 := (HK1.out).cell 4
    have lc := (HK1.out).lt
    go_wp2_with (go_at_call 237; refine (HC.out _).mono ?_; rintro e W2 ⟨rfl, hb2⟩)
    go_ret
    rw [HBB.out]
    exact ⟨none, 0, rfl, rfl, OwnB.nil _ _, Reads.none_, HB1.out.trans (hb2.mono HB1.out.size)⟩
  have hkd := rightC_kind hc
  have hlen : dd.length ≤ 32 := by
    rcases hkd with h | h
    · exact h.2
    · have := h.2; dsimp only at this; rw [this]; exact Nat.zero_le _
  rw [hc] at HC
  have HCC := hide hc
  clear hc
  have c0 := (HK1.out).cell 0
  have c1 := (HK1.out).cell 1
  have c2 := (HK1.out).cell 2
  have c3 := (HK1.out).cell 3
  have c4 := (HK1.out).cell 4
  have lc := (HK1.out).lt
  go_upto_region 3 with (go_at_call 237; refine (HC.out _).mono ?_; rintro e W2 ⟨rfl, hb2⟩)
  have HL2 := hide (HB1.out.trans (hb2.mono HB1.out.size))
  have HK2 := hide (Blk.via hb2 HK1.out)
  have hz2 := hb2.size
  clear hb2 c0 c1 c2 c3 c4 lc
  have hdk : dk = 1 ∨ dk = 2 := hkd.imp (fun h => h.1) (fun h => h.1)
  rcases hdk with rfl | rfl
  · have HBB := hide (show cellB ⟨1, dd, dl, dh, dv⟩ = [1] ++ [UInt8.ofNat dd.length] ++ dd by
      unfold cellB
      rw [HCC.out, if_pos rfl, if_pos rfl]
      dsimp only
      rw [beB_one_one, beB_one_nat _ (by omega)])
    clear hkd
    have hnl : n ≤ 32 := by rw [HN.out]; exact hlen
    clear hlen
    have c0 := (HK2.out).cell 0
    have c1 := (HK2.out).cell 1
    have c2 := (HK2.out).cell 2
    have c3 := (HK2.out).cell 3
    have c4 := (HK2.out).cell 4
    have lc := (HK2.out).lt
    go_upto_region 5 with (fail)
    refine gen1 (R := fun W => Code.wp _ _ _ _ W) (fun W3 kS hb3 hz3 => ?_)
    have hl3 : Below w.heap.size w W3 := HL2.out.trans (hb3.mono HL2.out.size)
    have HL3 := hide hl3
    have HO3 := hide (one_own (x := 1) (L := w.heap.size) kS HL2.out.size)
    have HK3 := hide (Blk.via hb3 HK2.out)
    have hw3 := hl3.size
    clear kS hb3 hl3 c0 c1 c2 c3 c4 lc
    have c0 := (HK3.out).cell 0
    have c1 := (HK3.out).cell 1
    have c2 := (HK3.out).cell 2
    have c3 := (HK3.out).cell 3
    have c4 := (HK3.out).cell 4
    have lc := (HK3.out).lt
    have hn0 : (0 : Int) ≤ n := by omega
    have hn1 : (n : Int) < 256 := by omega
    go_upto_region 6 with (at_builtin; refine heldG ?_)
    have hq3 := Blk.new W3 5 #[.int .u8 ((n : Nat) : Int)]
    rw [byteV_ofNat (show n < 256 by omega)] at hq3
    have hr3 := Reads.of_blk (n := 1) (size := 1) hq3 rfl
    refine unheldG ?_
    at_builtin
    have ha3 : Below W3.heap.size W3 (W3.alloc (.cells #[.int .u8 ((n : Nat) : Int)] 5)) := (Below.refl _ _).alloc (Nat.le_refl _) _
    refine wpList_app rfl _ _ rfl w.heap.size _ 1 1 [1] rfl (HO3.out.via ha3) rfl (W3.heap.size + 1) _ 1 1 [UInt8.ofNat n] rfl (by rw [byteV_ofNat (show n < 256 by omega)]; exact hr3) rfl (by omega) w (HL3.out.trans (ha3.mono hw3)) (by simp; omega) ?_
    intro A4 c4' W4 ho4 hl4 hg4
    have HK4 := hide ((Blk.via ha3 HK3.out).keepB (HO3.out.via ha3) (by decide) hg4)
    have HO4 := hide (show OwnB W4 w.heap.size (.slice A4 2 c4') ([1] ++ [UInt8.ofNat n]) from ho4)
    have HL4 := hide hl4
    clear hq3 hr3 ha3 ho4 hl4 hg4 c0 c1 c2 c3 c4 lc
    have c0 := (HK4.out).cell 0
    have c1 := (HK4.out).cell 1
    have c2 := (HK4.out).cell 2
    have c3 := (HK4.out).cell 3
    have c4 := (HK4.out).cell 4
    have lc := (HK4.out).lt
    go_wp2_with (at_builtin; refine heldG ?_)
    have HR4 := hide (HR.out.below HL4.out hB)
    refine unheldG ?_
    at_builtin
    refine wpList_app rfl _ _ rfl w.heap.size _ 2 _ _ rfl HO4.out rfl B _ n _ dd rfl HR4.out HN.out (by omega) w HL4.out HL4.out.size ?_
    intro A5 c5 W5 ho5 hl5 hg5
    have HO5 := hide ho5
    have HL5 := hide hl5
    clear ho5 hl5 hg5 c0 c1 c2 c3 c4 lc
    go_wp2
    go_ret
    have hle : ([1] ++ [UInt8.ofNat dd.length] ++ dd : List UInt8).length = 2 + n := by rw [HN.out]; simp; omega
    rw [HBB.out, hle]
    rw [HN.out] at HO5 ⊢
    exact ⟨A5, c5, rfl, by simp; omega, HO5.out, HO5.out.reads.2, HL5.out⟩
  · have hdd : dd = [] := by
      rcases hkd with h | h
      · exact absurd h.1 (by decide)
      · exact h.2
    subst hdd
    have HBB := hide (show cellB ⟨2, [], dl, dh, dv⟩ = [2] ++ beB 8 dl ++ beB 8 dh ++ beB 8 dv by
      unfold cellB
      rw [HCC.out, if_pos rfl, if_neg (show ¬ (2 : Int) = 1 by decide)]
      dsimp only
      rw [beB_one_two])
    clear hkd hlen
    have c0 := (HK2.out).cell 0
    have c1 := (HK2.out).cell 1
    have c2 := (HK2.out).cell 2
    have c3 := (HK2.out).cell 3
    have c4 := (HK2.out).cell 4
    have lc := (HK2.out).lt
    go_upto_region 7 with (fail)
    refine gen1 (R := fun W => Code.wp _ _ _ _ W) (fun W3 kS hb3 hz3 => ?_)
    have hl3 : Below w.heap.size w W3 := HL2.out.trans (hb3.mono HL2.out.size)
    have HL3 := hide hl3
    have HO3 := hide (one_own (x := 2) (L := w.heap.size) kS HL2.out.size)
    have HK3 := hide (Blk.via hb3 HK2.out)
    clear kS hb3 hl3 c0 c1 c2 c3 c4 lc
    have c0 := (HK3.out).cell 0
    have c1 := (HK3.out).cell 1
    have c2 := (HK3.out).cell 2
    have c3 := (HK3.out).cell 3
    have c4 := (HK3.out).cell 4
    have lc := (HK3.out).lt
    go_wp2_with (first
      | (go_at_call 61; refine (HBY.out _ _).mono ?_; rintro e Wa ⟨⟨Aa, ca, rfl, hoa⟩, hba⟩)
      | (at_builtin; refine heldG ?_))
    refine unheldG ?_
    at_builtin
    have hla : Below w.heap.size w Wa := (HL3).out.trans (hba.mono (HL3).out.size)
    refine wpList_app rfl _ _ rfl w.heap.size _ 1 _ [2] rfl ((HO3).out.via hba) (by first | rfl | simp [beB_length]) Wa.heap.size Aa 8 ca (beB 8 dl) rfl hoa.reads.2 (by rw [beB_length]) (by omega) w hla hla.size ?_
    intro A4 c4' W4 ho4 hl4 hg4
    have hk4 := (Blk.via hba (HK3).out).keepB ((HO3).out.via hba) (by decide) hg4
    clear hla
    have HO4 := hide (show OwnB W4 w.heap.size (.slice A4 9 c4') ([2] ++ beB 8 dl) from ho4)
    have HK4 := hide hk4
    have HL4 := hide hl4
    clear ho4 hk4 hl4 hg4 hba hoa c0 c1 c2 c3 c4 lc
    have c0 := (HK4.out).cell 0
    have c1 := (HK4.out).cell 1
    have c2 := (HK4.out).cell 2
    have c3 := (HK4.out).cell 3
    have c4 := (HK4.out).cell 4
    have lc := (HK4.out).lt
    go_wp2_with (first
      | (go_at_call 61; refine (HBY.out _ _).mono ?_; rintro e Wa ⟨⟨Aa, ca, rfl, hoa⟩, hba⟩)
      | (at_builtin; refine heldG ?_))
    refine unheldG ?_
    at_builtin
    have hla : Below w.heap.size w Wa := (HL4).out.trans (hba.mono (HL4).out.size)
    refine wpList_app rfl _ _ rfl w.heap.size _ 9 _ _ rfl ((HO4).out.via hba) (by first | rfl | simp [beB_length]) Wa.heap.size Aa 8 ca (beB 8 dh) rfl hoa.reads.2 (by rw [beB_length]) (by omega) w hla hla.size ?_
    intro A4 c4' W4 ho4 hl4 hg4
    have hk4 := (Blk.via hba (HK4).out).keepB ((HO4).out.via hba) (by decide) hg4
    clear hla
    have HO4 := hide (show OwnB W4 w.heap.size (.slice A4 17 c4') ([2] ++ beB 8 dl ++ beB 8 dh) from ho4)
    have HK4 := hide hk4
    have HL4 := hide hl4
    clear ho4 hk4 hl4 hg4 hba hoa c0 c1 c2 c3 c4 lc
    have c0 := (HK4.out).cell 0
    have c1 := (HK4.out).cell 1
    have c2 := (HK4.out).cell 2
    have c3 := (HK4.out).cell 3
    have c4 := (HK4.out).cell 4
    have lc := (HK4.out).lt
    go_wp2_with (first
      | (go_at_call 61; refine (HBY.out _ _).mono ?_; rintro e Wa ⟨⟨Aa, ca, rfl, hoa⟩, hba⟩)
      | (at_builtin; refine heldG ?_))
    refine unheldG ?_
    at_builtin
    have hla : Below w.heap.size w Wa := (HL4).out.trans (hba.mono (HL4).out.size)
    refine wpList_app rfl _ _ rfl w.heap.size _ 17 _ _ rfl ((HO4).out.via hba) (by first | rfl | simp [beB_length]) Wa.heap.size Aa 8 ca (beB 8 dv) rfl hoa.reads.2 (by rw [beB_length]) (by omega) w hla hla.size ?_
    intro A4 c4' W4 ho4 hl4 hg4
    have hk4 := (Blk.via hba (HK4).out).keepB ((HO4).out.via hba) (by decide) hg4
    clear hla
    have HO4 := hide (show OwnB W4 w.heap.size (.slice A4 25 c4') ([2] ++ beB 8 dl ++ beB 8 dh ++ beB 8 dv) from ho4)
    have HL4 := hide hl4
    clear ho4 hk4 hl4 hg4 hba hoa c0 c1 c2 c3 c4 lc
    go_wp2
    go_ret
    have hle : ([2] ++ beB 8 dl ++ beB 8 dh ++ beB 8 dv : List UInt8).length = 25 := by simp [beB_length]
    rw [HBB.out, hle]
    exact ⟨A4, c4', rfl, hle.symm, HO4.out, HO4.out.reads.2, HL4.out⟩
end Go.Proofs.YtnanlaefehaifaaGreat
