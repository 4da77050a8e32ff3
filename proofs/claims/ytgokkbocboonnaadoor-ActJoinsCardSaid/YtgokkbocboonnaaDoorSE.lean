/-
  WALKS OF THE PROGRAM: act.isClient, isCall, Check, Line (of a call), report.call.
-/
import Derived.Test.YtgokkbocboonnaaDoorSD
import Derived.Test.YtgokkbocboonnaaDoorPA
import Derived.Deep.RegionHeld3
namespace Go.Proofs.YtgokkbocboonnaaDoor
open Go.RowKit Go.Lib

theorem isClient_any (n : Int) (w : World) : Calls Tryd.prog 32 #[.int .i64 n] w fun e w' => e = .returned (.bool (decide (0 ≤ n ∧ n < 16))) ∧ w' = w := by
  by_cases h1 : 0 ≤ n
  · by_cases h2 : n < 16
    · go_enter Tryd.func32, Tryd.ntmps32
      go_wp2
      go_ret
      exact ⟨ret_bool (decide_eq_true (by omega)).symm, rfl⟩
    · go_enter Tryd.func32, Tryd.ntmps32
      go_wp2
      go_ret
      exact ⟨ret_bool (decide_eq_false (by omega)).symm, rfl⟩
  · go_enter Tryd.func32, Tryd.ntmps32
    go_wp2
    go_ret
    exact ⟨ret_bool (by simp; omega), rfl⟩

theorem isCallB_good {x : OpD} {b : Bool} (h : goodOp x = b) (h6 : x.act ≠ 6) (h7 : x.act ≠ 7) (h8 : x.act ≠ 8) : isCallB x = b := by
  unfold isCallB
  rw [h]
  simp [h6, h7, h8]
set_option maxHeartbeats 800000 in
theorem isCall_any (x : OpD) (A : Option Addr) (n c : Nat) (w : World) (hn : n = x.data.length) (hk : x.key.size ≤ 9223372036854775807) :
    Calls Tryd.prog 33 #[.agg #[.int .i64 x.act, .string x.key, .slice A n c, .int .i64 x.lo, .int .i64 x.hi, .int .i64 x.n]] w fun e w' => e = .returned (.bool (isCallB x)) ∧ Below w.heap.size w w' := by
  by_cases a6 : x.act = 6
  · have HB := hide (show isCallB x = true by unfold isCallB; simp [a6])
    have b6 : ((x.act : Int) == 6) = true := by simpa using a6
    clear a6 hn
    go_enter Tryd.func33, Tryd.ntmps33
    go_wp2
    go_ret
    exact ⟨ret_bool HB.out.symm, (Below.refl _ _).alloc (Nat.le_refl _) _⟩
  by_cases a7 : x.act = 7
  · have HB := hide (show isCallB x = true by unfold isCallB; simp [a7])
    have b6 : ((x.act : Int) == 6) = false := by simpa using a6
    have b7 : ((x.act : Int) == 7) = true := by simpa using a7
    clear a6 a7 hn
    go_enter Tryd.func33, Tryd.ntmps33
    go_wp2
    go_ret
    exact ⟨ret_bool HB.out.symm, (Below.refl _ _).alloc (Nat.le_refl _) _⟩
  by_cases a8 : x.act = 8
  · have HB := hide (show isCallB x = true by unfold isCallB; simp [a8])
    have b6 : ((x.act : Int) == 6) = false := by simpa using a6
    have b7 : ((x.act : Int) == 7) = false := by simpa using a7
    have b8 : ((x.act : Int) == 8) = true := by simpa using a8
    clear a6 a7 a8 hn
    go_enter Tryd.func33, Tryd.ntmps33
    go_wp2
    go_ret
    exact ⟨ret_bool HB.out.symm, (Below.refl _ _).alloc (Nat.le_refl _) _⟩
  have HM := hide (fun W => modelCheck_any x A n c W hn hk)
  have b6 : ((x.act : Int) == 6) = false := by simpa using a6
  have b7 : ((x.act : Int) == 7) = false := by simpa using a7
  have b8 : ((x.act : Int) == 8) = false := by simpa using a8
  cases hg : goodOp x
  · have HB := hide (isCallB_good hg a6 a7 a8)
    have HO := hide (show opE x = 1 by unfold opE; rw [hg]; rfl)
    clear a6 a7 a8 hn hg
    go_enter Tryd.func33, Tryd.ntmps33
    go_wp2_with (go_at_call 50; refine (HO.out ▸ HM.out _).mono ?_; rintro e w1 ⟨rfl, hb1⟩)
    go_ret
    exact ⟨ret_bool HB.out.symm, below_via ((Below.refl _ _).alloc (Nat.le_refl _) _) hb1 (by simp)⟩
  · have HB := hide (isCallB_good hg a6 a7 a8)
    have HO := hide (show opE x = 0 by unfold opE; rw [hg]; rfl)
    clear a6 a7 a8 hn hg
    go_enter Tryd.func33, Tryd.ntmps33
    go_wp2_with (go_at_call 50; refine (HO.out ▸ HM.out _).mono ?_; rintro e w1 ⟨rfl, hb1⟩)
    go_ret
    exact ⟨ret_bool HB.out.symm, below_via ((Below.refl _ _).alloc (Nat.le_refl _) _) hb1 (by simp)⟩

def ckE (b : Bool) : Int := if b = true then 0 else 1
set_option maxHeartbeats 800000 in
theorem actCheck_call (x : OpD) (cl m lg : Int) (A F : Option Addr) (n c f f' : Nat) (w : World) (hn : n = x.data.length) (hk : x.key.size ≤ 9223372036854775807) (h0 : 0 ≤ cl) (h1 : cl < 16) :
    Calls Tryd.prog 15 #[.agg #[.int .i64 0, .int .i64 cl, .int .i64 x.act, .string x.key, .slice A n c, .int .i64 x.lo, .int .i64 x.hi, .int .i64 x.n, .int .i64 m, .slice F f f', .int .i64 lg]] w fun e w' => e = .returned (.int .i64 (ckE (isCallB x))) ∧ Below w.heap.size w w' := by
  have HM := hide (fun W => isCall_any x A n c W hn hk)
  have HI := hide (fun W => (decide_eq_true (show 0 ≤ cl ∧ cl < 16 from ⟨h0, h1⟩)) ▸ isClient_any cl W)
  clear hn
  cases hg : isCallB x
  all_goals
    rw [hg] at HM
    go_enter Tryd.func15, Tryd.ntmps15
    go_wp2_with (first | (go_at_call 32; refine (HI.out _).mono ?_; rintro e w' ⟨rfl, rfl⟩) | (go_at_call 33; refine (HM.out _).mono ?_; rintro e w1 ⟨rfl, hb1⟩))
    go_ret
    exact ⟨rfl, below_via ((Below.refl _ _).alloc (Nat.le_refl _) _) hb1 (by simp)⟩

/-- The text of a call of a client. -/
def lineCallT (cl : Int) (x : OpD) : List UInt8 := ([99, 97, 108, 108] ++ 32 :: num cl) ++ 32 :: callT x
theorem actLine_bad (x : OpD) (cl m lg : Int) (A F : Option Addr) (n c f f' : Nat) (w : World) (hn : n = x.data.length) (hk : x.key.size ≤ 9223372036854775807) (h0 : 0 ≤ cl) (h1 : cl < 16) (hb : isCallB x = false) :
    Calls Tryd.prog 14 #[.agg #[.int .i64 0, .int .i64 cl, .int .i64 x.act, .string x.key, .slice A n c, .int .i64 x.lo, .int .i64 x.hi, .int .i64 x.n, .int .i64 m, .slice F f f', .int .i64 lg]] w fun e w' => e = .returned (.tuple #[.string ⟨#[]⟩, .int .i64 1]) ∧ Below w.heap.size w w' := by
  have HC := hide (fun W => actCheck_call x cl m lg A F n c f f' W hn hk h0 h1)
  rw [hb] at HC
  clear hn hb
  go_enter Tryd.func14, Tryd.ntmps14
  go_wp2_with (go_at_call 15; refine (HC.out _).mono ?_; rintro e w1 ⟨rfl, hb1⟩)
  go_ret2
  exact ⟨rfl, below_via ((Below.refl _ _).alloc (Nat.le_refl _) _) hb1 (by simp)⟩

theorem cells7 {w : World} {b : Nat} {t : TypeId} {cl m lg d : Int} {x : OpD} {dv fv : Value} (h : Blk w b t #[.int .i64 d, .int .i64 cl, .int .i64 x.act, .string x.key, dv, .int .i64 x.lo, .int .i64 x.hi, .int .i64 x.n, .int .i64 m, fv, .int .i64 lg]) : w.cell? ⟨b, 1, none⟩ = some (.int .i64 cl) ∧ w.cell? ⟨b, 2, none⟩ = some (.int .i64 x.act) ∧ w.cell? ⟨b, 3, none⟩ = some (.string x.key) ∧ w.cell? ⟨b, 4, none⟩ = some dv ∧ w.cell? ⟨b, 5, none⟩ = some (.int .i64 x.lo) ∧ w.cell? ⟨b, 6, none⟩ = some (.int .i64 x.hi) ∧ w.cell? ⟨b, 7, none⟩ = some (.int .i64 x.n) :=
  ⟨h.cell 1, h.cell 2, h.cell 3, h.cell 4, h.cell 5, h.cell 6, h.cell 7⟩
theorem ret_tup {s : ByteArray} {l : List UInt8} {v : Value} (h : tx l = s) : Ending.returned (.tuple #[.string s, v]) = .returned (.tuple #[.string (tx l), v]) := by rw [h]
set_option maxHeartbeats 3200000 in
theorem actLine_call (x : OpD) (cl m lg : Int) (A F : Option Addr) (n c f f' : Nat) (B : Nat) (w : World) (hB : B ≤ w.heap.size) (hs : OpSm x) (h : BytesAt w B (.slice A n c) x.data) (ht : PTab w) (h0 : 0 ≤ cl) (h1 : cl < 16) (hb : isCallB x = true) :
    Calls Tryd.prog 14 #[.agg #[.int .i64 0, .int .i64 cl, .int .i64 x.act, .string x.key, .slice A n c, .int .i64 x.lo, .int .i64 x.hi, .int .i64 x.n, .int .i64 m, .slice F f f', .int .i64 lg]] w fun e w' => e = .returned (.tuple #[.string (tx (lineCallT cl x)), .int .i64 0]) ∧ Below w.heap.size w w' := by
  have hn : n = x.data.length := by
    obtain ⟨A', n', c', e, _, _, hnl, _⟩ := h
    injection e with _ e
    rw [e, hnl]
  have HC := hide (fun W => actCheck_call x cl m lg A F n c f f' W hn (by have := hs.1; omega) h0 h1)
  rw [hb] at HC
  obtain ⟨sn, HN1, HN2, hns⟩ := letter (num cl)
  obtain ⟨s1, HA1, HA2, has⟩ := letter ([99, 97, 108, 108] ++ 32 :: num cl)
  obtain ⟨s2, HB1, HB2, hbs⟩ := letter (callT x)
  obtain ⟨s3, HD1, HD2, hds⟩ := letter (lineCallT cl x)
  have hl1 := callT_len hs
  have hl2 := num_len (show inI cl from ⟨by omega, by omega⟩)
  have hl3 : s1.size ≤ 100 := by rw [has]; simp only [List.length_append, List.length_cons, List.length_nil]; omega
  have HN := hide (fun W (hT : PTab W) => HN1.out ▸ anumber_any cl W (by omega) (by omega) hT)
  have HJ1 := hide (fun g W (k : Blk W g 9 #[.string ⟨#[99, 97, 108, 108]⟩, .string sn]) => (show Calls Tryd.prog 29 #[.slice (some ⟨g, 0, none⟩) 2 2] W fun e w' => e = .returned (.string s1) ∧ Below W.heap.size W w' by
    have hj := ajoin2 g ⟨#[99, 97, 108, 108]⟩ sn 9 W k (by show 4 + sn.size ≤ _; omega)
    rw [HN2.out] at hj
    rw [← HA1.out]
    exact hj))
  have HCA := hide (fun W (hb' : Below w.heap.size w W) => HB1.out ▸ acall_any x A n c B W (Nat.le_trans hB hb'.size) hs (h.below hb' hB) (ht.below hb'))
  have HJ2 := hide (fun g W (k : Blk W g 9 #[.string s1, .string s2]) => (show Calls Tryd.prog 29 #[.slice (some ⟨g, 0, none⟩) 2 2] W fun e w' => e = .returned (.string s3) ∧ Below W.heap.size W w' by
    have hj := ajoin2 g s1 s2 9 W k (by omega)
    rw [HA2.out, HB2.out] at hj
    rw [← HD1.out]
    exact hj))
  have HT := hide ht
  clear hn hb h ht hs hl1 hl2 hl3 has hbs hds hns HN2 HA1 HA2 HB1 HB2 HN1
  go_enter Tryd.func14, Tryd.ntmps14
  go_wp2_with (first | (go_at_call 15; refine (HC.out _).mono ?_; rintro e w1 ⟨rfl, hb1⟩; have k0 := Blk.via hb1 (Blk.new _ _ _); have q0 := k0.cell; have jb : Below w.heap.size w w1 := below_via ((Below.refl _ _).alloc (Nat.le_refl _) _) hb1 (by simp)))
  clear q0 hb1
  have jb := jb.drew
  have k0 := k0.drew
  go_region_held3 (fun w' => w'.cell? ⟨w.heap.size, 1, none⟩ = some (.int .i64 cl) ∧ w'.cell? ⟨w.heap.size, 2, none⟩ = some (.int .i64 x.act) ∧ w'.cell? ⟨w.heap.size, 3, none⟩ = some (.string x.key) ∧ w'.cell? ⟨w.heap.size, 4, none⟩ = some (.slice A n c) ∧ w'.cell? ⟨w.heap.size, 5, none⟩ = some (.int .i64 x.lo) ∧ w'.cell? ⟨w.heap.size, 6, none⟩ = some (.int .i64 x.hi) ∧ w'.cell? ⟨w.heap.size, 7, none⟩ = some (.int .i64 x.n))
    (first | (with_reducible exact cells7 k0) | (with_reducible exact cells7 (k0.alloc _)))
    (first
      | (go_at_call 30; (with_reducible refine (HN.out _ (HT.out.below jb)).mono ?_); rintro e w2 ⟨rfl, hb2⟩; have jb := below_via jb hb2 jb.size; have k0 := Blk.via hb2 k0)
      | (go_at_call 29; (with_reducible refine (HJ1.out _ _ (Blk.new _ _ _)).mono ?_); rintro e w3 ⟨rfl, hb3⟩; have jb := below_via (jb.alloc jb.size _) hb3 (by have := jb.size; simp; omega); have k0 := Blk.via hb3 (k0.alloc _))
      | (go_at_call 31; (with_reducible refine (HCA.out _ jb).mono ?_); rintro e w4 ⟨rfl, hb4⟩; have jb := below_via jb hb4 jb.size; have k0 := Blk.via hb4 k0)
      | (go_at_call 29; (with_reducible refine (HJ2.out _ _ (Blk.new _ _ _)).mono ?_); rintro e w5 ⟨rfl, hb5⟩; have jb := below_via (jb.alloc jb.size _) hb5 (by have := jb.size; simp; omega); have k0 := Blk.via hb5 (k0.alloc _)))
  go_wp2
  go_ret2
  exact ⟨ret_tup HD1.out, jb⟩

theorem trim_call (x : OpD) : Lib.trimPrefix (lineCallT 0 x) [99, 97, 108, 108, 32, 48, 32] = callT x := by
  have h0 : num 0 = [48] := by unfold num Lib.itoa; rw [if_neg (by omega)]; exact Lib.decDigits_one (by omega)
  unfold lineCallT
  rw [h0]
  simp [Lib.trimPrefix, Lib.hasPrefix]
end Go.Proofs.YtgokkbocboonnaaDoor
