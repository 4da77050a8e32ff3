/-
  WALKS OF THE REFERENCES: moneyerref31.Right, Line of any act.
-/
import Derived.Test.YtgokkbocboonnaaDoorAQ
namespace Go.Proofs.YtgokkbocboonnaaDoor
open Go.RowKit Go.Lib

set_option maxHeartbeats 3200000 in
theorem rRight_any (a cl m lg : Int) (x : OpD) (pages : List Int) (A F : Option Addr) (n c f f' : Nat) (w : World) (hn : n = x.data.length) (hf : f = pages.length) (hf1 : f ≤ 9223372036854775807) (hk : x.key.size ≤ 9223372036854775807) :
    Calls Tryd.prog 24 #[.agg #[.int .i64 a, .int .i64 cl, .int .i64 x.act, .string x.key, .slice A n c, .int .i64 x.lo, .int .i64 x.hi, .int .i64 x.n, .int .i64 m, .slice F f f', .int .i64 lg]] w fun e w' => e = .returned (.bool (isActB ⟨a, cl, x, m, pages, lg⟩)) ∧ Below w.heap.size w w' := by
  by_cases a0 : a < 0
  · have HB := hide (show isActB ⟨a, cl, x, m, pages, lg⟩ = false by unfold isActB; rw [decide_eq_false (show ¬ (0 ≤ a ∧ a ≤ 5) by omega)]; rfl)
    clear hn hf
    rw [HB.out]
    go_enter Tryd.func24, Tryd.ntmps24
    go_wp2
    go_ret
    exact ⟨rfl, (Below.refl _ _).alloc (Nat.le_refl _) _⟩
  by_cases a5 : 5 < a
  · have HB := hide (show isActB ⟨a, cl, x, m, pages, lg⟩ = false by unfold isActB; rw [decide_eq_false (show ¬ (0 ≤ a ∧ a ≤ 5) by omega)]; rfl)
    clear hn hf
    rw [HB.out]
    go_enter Tryd.func24, Tryd.ntmps24
    go_wp2
    go_ret
    exact ⟨rfl, (Below.refl _ _).alloc (Nat.le_refl _) _⟩
  by_cases a2 : a < 2
  · by_cases c0 : cl < 0
    · have HB := hide (show isActB ⟨a, cl, x, m, pages, lg⟩ = false by
        unfold isActB; rw [decide_eq_false (show ¬ (0 ≤ cl ∧ cl < 16) by omega), decide_eq_true a2]; simp)
      clear hn hf
      rw [HB.out]
      go_enter Tryd.func24, Tryd.ntmps24
      go_wp2
      go_ret
      exact ⟨rfl, (Below.refl _ _).alloc (Nat.le_refl _) _⟩
    by_cases c15 : 15 < cl
    · have HB := hide (show isActB ⟨a, cl, x, m, pages, lg⟩ = false by
        unfold isActB; rw [decide_eq_false (show ¬ (0 ≤ cl ∧ cl < 16) by omega), decide_eq_true a2]; simp)
      clear hn hf
      rw [HB.out]
      go_enter Tryd.func24, Tryd.ntmps24
      go_wp2
      go_ret
      exact ⟨rfl, (Below.refl _ _).alloc (Nat.le_refl _) _⟩
    rcases (show a = 0 ∨ a = 1 by omega) with rfl | rfl
    · have e : isActB ⟨0, cl, x, m, pages, lg⟩ = isCallB x := by unfold isActB; rw [decide_eq_true (show 0 ≤ cl ∧ cl < 16 by omega)]; simp
      rw [e]
      exact rRight_call x cl m lg A F n c f f' w hn hk (by omega) (by omega)
    · have HB := hide (show isActB ⟨1, cl, x, m, pages, lg⟩ = true by unfold isActB; rw [decide_eq_true (show 0 ≤ cl ∧ cl < 16 by omega)]; simp)
      clear hn hf
      rw [HB.out]
      go_enter Tryd.func24, Tryd.ntmps24
      go_wp2
      go_ret
      exact ⟨rfl, (Below.refl _ _).alloc (Nat.le_refl _) _⟩
  rcases (show a = 2 ∨ a = 3 ∨ a = 4 ∨ a = 5 by omega) with rfl | rfl | rfl | rfl
  · have HB := hide (show isActB ⟨2, cl, x, m, pages, lg⟩ = true from rfl)
    clear hn hf
    rw [HB.out]
    go_enter Tryd.func24, Tryd.ntmps24
    go_wp2
    go_ret
    exact ⟨rfl, (Below.refl _ _).alloc (Nat.le_refl _) _⟩
  · have HB := hide (show isActB ⟨3, cl, x, m, pages, lg⟩ = true from rfl)
    clear hn hf
    rw [HB.out]
    go_enter Tryd.func24, Tryd.ntmps24
    go_wp2
    go_ret
    exact ⟨rfl, (Below.refl _ _).alloc (Nat.le_refl _) _⟩
  · by_cases h60 : f ≤ 60
    · have HB := hide (show isActB ⟨4, cl, x, m, pages, lg⟩ = true by unfold isActB; simp; omega)
      have h61 : (f : Int) ≤ 60 := by omega
      clear hn hf
      rw [HB.out]
      go_enter Tryd.func24, Tryd.ntmps24
      go_wp2
      go_ret
      exact ⟨rfl, (Below.refl _ _).alloc (Nat.le_refl _) _⟩
    · have HB := hide (show isActB ⟨4, cl, x, m, pages, lg⟩ = false by unfold isActB; simp; omega)
      have h61 : ¬ (f : Int) ≤ 60 := by omega
      clear hn hf
      rw [HB.out]
      go_enter Tryd.func24, Tryd.ntmps24
      go_wp2
      go_ret
      exact ⟨rfl, (Below.refl _ _).alloc (Nat.le_refl _) _⟩
  · have HB := hide (show isActB ⟨5, cl, x, m, pages, lg⟩ = true from rfl)
    clear hn hf
    rw [HB.out]
    go_enter Tryd.func24, Tryd.ntmps24
    go_wp2
    go_ret
    exact ⟨rfl, (Below.refl _ _).alloc (Nat.le_refl _) _⟩

def rlineV (s : List UInt8) : Value := .tuple #[.string (tx s), .bool true]
theorem ret_rline {s : ByteArray} {l : List UInt8} (h : s.data.toList = l) : Ending.returned (.tuple #[.string s, .bool true]) = .returned (rlineV l) := by
  subst h
  rfl
set_option maxHeartbeats 1600000 in
theorem rLine_no (a : Int) (cl m lg : Int) (x : OpD) (pages : List Int) (A F : Option Addr) (n c f f' : Nat) (w : World) (hn : n = x.data.length) (hf : f = pages.length) (hf1 : f ≤ 9223372036854775807) (hk : x.key.size ≤ 9223372036854775807) (hb : isActB ⟨a, cl, x, m, pages, lg⟩ = false) :
    Calls Tryd.prog 11 #[.agg #[.int .i64 a, .int .i64 cl, .int .i64 x.act, .string x.key, .slice A n c, .int .i64 x.lo, .int .i64 x.hi, .int .i64 x.n, .int .i64 m, .slice F f f', .int .i64 lg]] w fun e w' => e = .returned (.tuple #[.string ⟨#[]⟩, .bool false]) ∧ Below w.heap.size w w' := by
  have HC := hide (fun W => rRight_any a cl m lg x pages A F n c f f' W hn hf hf1 hk)
  rw [hb] at HC
  clear hn hf hb
  go_enter Tryd.func11, Tryd.ntmps11
  go_wp2_with (go_at_call 24; refine (HC.out _).mono ?_; rintro e w1 ⟨rfl, hb1⟩)
  go_ret2
  exact ⟨rfl, below_via ((Below.refl _ _).alloc (Nat.le_refl _) _) hb1 (by simp)⟩
set_option maxHeartbeats 1600000 in
theorem rLine_check (cl m lg : Int) (x : OpD) (pages : List Int) (A F : Option Addr) (n c f f' : Nat) (w : World) (hn : n = x.data.length) (hf : f = pages.length) (hf1 : f ≤ 9223372036854775807) (hk : x.key.size ≤ 9223372036854775807) : Calls Tryd.prog 11 #[.agg #[.int .i64 2, .int .i64 cl, .int .i64 x.act, .string x.key, .slice A n c, .int .i64 x.lo, .int .i64 x.hi, .int .i64 x.n, .int .i64 m, .slice F f f', .int .i64 lg]] w fun e w' => e = .returned (rlineV (actT ⟨2, cl, x, m, pages, lg⟩)) ∧ Below w.heap.size w w' := by
  have HC := hide (fun W => rRight_any 2 cl m lg x pages A F n c f f' W hn hf hf1 hk)
  rw [show isActB (⟨2, cl, x, m, pages, lg⟩ : ActD) = true from rfl] at HC
  clear hn hf
  go_enter Tryd.func11, Tryd.ntmps11
  go_wp2_with (go_at_call 24; refine (HC.out _).mono ?_; rintro e w1 ⟨rfl, hb1⟩; have k1 := Blk.via hb1 (Blk.new w _ _); have q1 := k1.cell; have l1 := k1.lt; have hbw1 := below_via ((Below.refl _ w).alloc (Nat.le_refl _) _) hb1 (by simp))
  go_ret2
  exact ⟨ret_rline rfl, hbw1.alloc hbw1.size _⟩
set_option maxHeartbeats 1600000 in
theorem rLine_open (cl m lg : Int) (x : OpD) (pages : List Int) (A F : Option Addr) (n c f f' : Nat) (w : World) (hn : n = x.data.length) (hf : f = pages.length) (hf1 : f ≤ 9223372036854775807) (hk : x.key.size ≤ 9223372036854775807) : Calls Tryd.prog 11 #[.agg #[.int .i64 5, .int .i64 cl, .int .i64 x.act, .string x.key, .slice A n c, .int .i64 x.lo, .int .i64 x.hi, .int .i64 x.n, .int .i64 m, .slice F f f', .int .i64 lg]] w fun e w' => e = .returned (rlineV (actT ⟨5, cl, x, m, pages, lg⟩)) ∧ Below w.heap.size w w' := by
  have HC := hide (fun W => rRight_any 5 cl m lg x pages A F n c f f' W hn hf hf1 hk)
  rw [show isActB (⟨5, cl, x, m, pages, lg⟩ : ActD) = true from rfl] at HC
  clear hn hf
  go_enter Tryd.func11, Tryd.ntmps11
  go_wp2_with (go_at_call 24; refine (HC.out _).mono ?_; rintro e w1 ⟨rfl, hb1⟩; have k1 := Blk.via hb1 (Blk.new w _ _); have q1 := k1.cell; have l1 := k1.lt; have hbw1 := below_via ((Below.refl _ w).alloc (Nat.le_refl _) _) hb1 (by simp))
  go_ret2
  exact ⟨ret_rline rfl, hbw1.alloc hbw1.size _⟩
set_option maxHeartbeats 1600000 in
theorem rLine_fuse (cl m lg : Int) (x : OpD) (pages : List Int) (A F : Option Addr) (n c f f' : Nat) (w : World) (hn : n = x.data.length) (hf : f = pages.length) (hf1 : f ≤ 9223372036854775807) (hk : x.key.size ≤ 9223372036854775807) (hi : inI m) : Calls Tryd.prog 11 #[.agg #[.int .i64 3, .int .i64 cl, .int .i64 x.act, .string x.key, .slice A n c, .int .i64 x.lo, .int .i64 x.hi, .int .i64 x.n, .int .i64 m, .slice F f f', .int .i64 lg]] w fun e w' => e = .returned (rlineV (actT ⟨3, cl, x, m, pages, lg⟩)) ∧ Below w.heap.size w w' := by
  have HC := hide (fun W => rRight_any 3 cl m lg x pages A F n c f f' W hn hf hf1 hk)
  rw [show isActB (⟨3, cl, x, m, pages, lg⟩ : ActD) = true from rfl] at HC
  obtain ⟨sn, HN1, HN2, hns⟩ := letter (num m)
  have hl := num_len (show inI m from hi)
  have HN := hide (fun W => HN1.out ▸ Num_any m W hi.1 hi.2)
  clear hn hf hi HN1
  go_enter Tryd.func11, Tryd.ntmps11
  go_wp2_with (first
    | (go_at_call 24; refine (HC.out _).mono ?_; rintro e w1 ⟨rfl, hb1⟩; have k1 := Blk.via hb1 (Blk.new w _ _); have q1 := k1.cell; have l1 := k1.lt; have hbw1 := below_via ((Below.refl _ w).alloc (Nat.le_refl _) _) hb1 (by simp))
    | (go_at_call 25; refine (HN.out _).mono ?_; rintro e w' ⟨rfl, rfl⟩))
  go_ret2
  refine ⟨ret_rline ?_, hbw1.alloc hbw1.size _⟩
  simp only [ByteArray.data_append, Array.toList_append, HN2.out]
  rfl
set_option maxHeartbeats 1600000 in
theorem rLine_step (cl m lg : Int) (x : OpD) (pages : List Int) (A F : Option Addr) (n c f f' : Nat) (w : World) (hn : n = x.data.length) (hf : f = pages.length) (hf1 : f ≤ 9223372036854775807) (hk : x.key.size ≤ 9223372036854775807) (hc : 0 ≤ cl ∧ cl < 16) (hi : inI cl) : Calls Tryd.prog 11 #[.agg #[.int .i64 1, .int .i64 cl, .int .i64 x.act, .string x.key, .slice A n c, .int .i64 x.lo, .int .i64 x.hi, .int .i64 x.n, .int .i64 m, .slice F f f', .int .i64 lg]] w fun e w' => e = .returned (rlineV (actT ⟨1, cl, x, m, pages, lg⟩)) ∧ Below w.heap.size w w' := by
  have HC := hide (fun W => rRight_any 1 cl m lg x pages A F n c f f' W hn hf hf1 hk)
  rw [show isActB (⟨1, cl, x, m, pages, lg⟩ : ActD) = true by unfold isActB; simp [hc.1, hc.2]] at HC
  obtain ⟨sn, HN1, HN2, hns⟩ := letter (num cl)
  have hl := num_len (show inI cl from hi)
  have HN := hide (fun W => HN1.out ▸ Num_any cl W hi.1 hi.2)
  clear hn hf hi HN1
  go_enter Tryd.func11, Tryd.ntmps11
  go_wp2_with (first
    | (go_at_call 24; refine (HC.out _).mono ?_; rintro e w1 ⟨rfl, hb1⟩; have k1 := Blk.via hb1 (Blk.new w _ _); have q1 := k1.cell; have l1 := k1.lt; have hbw1 := below_via ((Below.refl _ w).alloc (Nat.le_refl _) _) hb1 (by simp))
    | (go_at_call 25; refine (HN.out _).mono ?_; rintro e w' ⟨rfl, rfl⟩))
  go_ret2
  refine ⟨ret_rline ?_, hbw1.alloc hbw1.size _⟩
  simp only [ByteArray.data_append, Array.toList_append, HN2.out]
  rfl
set_option maxHeartbeats 3200000 in
theorem rLine_call (cl m lg : Int) (x : OpD) (pages : List Int) (A F : Option Addr) (n c f f' : Nat) (w : World) (hn : n = x.data.length) (hf : f = pages.length) (hf1 : f ≤ 9223372036854775807) (hk : x.key.size ≤ 9223372036854775807) (B : Nat) (hB : B ≤ w.heap.size) (hs : OpSm x) (h : BytesAt w B (.slice A n c) x.data) (hc : 0 ≤ cl ∧ cl < 16) (hi : inI cl) (hb : isCallB x = true) : Calls Tryd.prog 11 #[.agg #[.int .i64 0, .int .i64 cl, .int .i64 x.act, .string x.key, .slice A n c, .int .i64 x.lo, .int .i64 x.hi, .int .i64 x.n, .int .i64 m, .slice F f f', .int .i64 lg]] w fun e w' => e = .returned (rlineV (actT ⟨0, cl, x, m, pages, lg⟩)) ∧ Below w.heap.size w w' := by
  have HC := hide (fun W => rRight_any 0 cl m lg x pages A F n c f f' W hn hf hf1 hk)
  rw [show isActB (⟨0, cl, x, m, pages, lg⟩ : ActD) = true by unfold isActB; simp [hc.1, hc.2, hb]] at HC
  obtain ⟨sn, HN1, HN2, hns⟩ := letter (num cl)
  have hl := num_len (show inI cl from hi)
  obtain ⟨sc, HS1, HS2, hss⟩ := letter (callT x)
  have hl2 := callT_len hs
  have HN := hide (fun W => HN1.out ▸ Num_any cl W hi.1 hi.2)
  have HO := hide (fun W (hW : Below w.heap.size w W) => HS1.out ▸ rOp_any x A n c B W (Nat.le_trans hB hW.size) hs (h.below hW hB) hb)
  clear hn hf hi HN1 HS1 h hb hs
  go_enter Tryd.func11, Tryd.ntmps11
  go_wp2_with (first
    | (go_at_call 24; refine (HC.out _).mono ?_; rintro e w1 ⟨rfl, hb1⟩; have k1 := Blk.via hb1 (Blk.new w _ _); have q1 := k1.cell; have l1 := k1.lt; have hbw1 := below_via ((Below.refl _ w).alloc (Nat.le_refl _) _) hb1 (by simp))
    | (go_at_call 25; refine (HN.out _).mono ?_; rintro e w' ⟨rfl, rfl⟩)
    | (go_at_call 26; refine (HO.out _ (hbw1.alloc hbw1.size _)).mono ?_; rintro e w2 ⟨rfl, hb2⟩; have hbw2 := below_via (hbw1.alloc hbw1.size _) hb2 (by have := hbw1.size; simp; omega); have k2 := Blk.via hb2 (k1.alloc _); have q2 := k2.cell))
  go_ret2
  refine ⟨ret_rline ?_, hbw2⟩
  simp only [ByteArray.data_append, Array.toList_append, HN2.out, HS2.out]
  simp [actT]
end Go.Proofs.YtgokkbocboonnaaDoor
