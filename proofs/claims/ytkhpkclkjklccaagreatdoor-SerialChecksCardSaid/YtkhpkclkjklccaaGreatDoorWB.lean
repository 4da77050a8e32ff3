/-
  WALKS: modes.Of, is, Compat, Commute; moneyerref10.Of, Compat, Commute. Both Commutes answer 'commute'.
-/
import Derived.Test.YtkhpkclkjklccaaGreatDoorProg
import Derived.Test.YtkhpkclkjklccaaGreatDoorMem
import Derived.Deep.QuietTactic
import Derived.BigQuiet
import Derived.Deep.RegionHeld3
namespace Go.Proofs.YtkhpkclkjklccaaGreatDoor
open Go.RowKit

def modeOf (x : Int) : Int := if x = 0 then 0 else if x = 1 ∨ x = 2 ∨ x = 3 then 1 else if x = 4 then 2 else if x = 5 then 3 else -1
theorem modeOf_in {x : Int} (h0 : 0 ≤ x) (h5 : x ≤ 5) : 0 ≤ modeOf x ∧ modeOf x ≤ 3 := by unfold modeOf; (repeat' split) <;> omega
theorem modeOf_out {x : Int} (h : ¬ (0 ≤ x ∧ x ≤ 5)) : modeOf x = -1 := by unfold modeOf; (repeat' split) <;> omega
def compat (a b : Int) : Bool := (a == 0 && b == 0) || ((a == 2 || a == 3) && (b == 2 || b == 3))
def inRange (x : Int) : Bool := decide (0 ≤ x ∧ x ≤ 5)
def commute (a b : OpD) : Bool := inRange a.act && inRange b.act && (!(a.key.toList == b.key.toList) || compat (modeOf a.act) (modeOf b.act))

/-- What the table 'together' holds. -/
def Tab (w : World) : Prop := ∀ a b : Nat, a < 4 → b < 4 → w.cell? ⟨0, a * 4 + b, none⟩ = some (.bool (compat a b))
theorem Tab.below {w w' : World} {B : Nat} (h : Tab w) (hb : Below B w w') (hB : 0 < B) : Tab w' := fun a b ha hb' => (hb.cell (p := ⟨0, a * 4 + b, none⟩) hB).trans (h a b ha hb')
theorem Tab.drewN {w : World} (h : Tab w) (n : Nat) : Tab (w.drewN n) := h

set_option maxHeartbeats 400000 in
theorem Of_any (x : Int) (w : World) : Calls Tryz.prog 44 #[.int .i64 x] w fun e w' => e = .returned (.int .i64 (modeOf x)) ∧ w' = w := by
  go_enter Tryz.func44, Tryz.ntmps44
  go_wp2
  all_goals (go_ret; refine ⟨ret_int ?_, rfl⟩)
  all_goals (unfold modeOf; simp_all)

def isM (x : Int) : Bool := decide (0 ≤ x ∧ x ≤ 3)
theorem isM_yes {x : Int} (h0 : 0 ≤ x) (h3 : x ≤ 3) : isM x = true := decide_eq_true ⟨h0, h3⟩
theorem is_any (x : Int) (w : World) : Calls Tryz.prog 45 #[.int .i64 x] w fun e w' => e = .returned (.bool (isM x)) ∧ w' = w := by
  by_cases h0 : 0 ≤ x
  · by_cases h3 : x < 4
    · have hr : isM x = true := isM_yes h0 (by omega)
      rw [hr]
      clear hr
      go_enter Tryz.func45, Tryz.ntmps45
      go_wp2
      go_ret
      exact ⟨rfl, rfl⟩
    · have hr : isM x = false := decide_eq_false (by omega)
      rw [hr]
      clear hr
      go_enter Tryz.func45, Tryz.ntmps45
      go_wp2
      go_ret
      exact ⟨rfl, rfl⟩
  · have hr : isM x = false := decide_eq_false (by omega)
    rw [hr]
    clear hr
    go_enter Tryz.func45, Tryz.ntmps45
    go_wp2
    go_ret
    exact ⟨rfl, rfl⟩

set_option maxHeartbeats 1600000 in
theorem Compat_any (p q : Int) (w : World) (hp0 : 0 ≤ p) (hp3 : p ≤ 3) (hq0 : 0 ≤ q) (hq3 : q ≤ 3) (ht : Tab w) :
    Calls Tryz.prog 46 #[.int .i64 p, .int .i64 q] w fun e w' => e = .returned (.bool (compat p q)) ∧ w' = w := by
  obtain ⟨a, rfl⟩ := Int.eq_ofNat_of_zero_le hp0
  obtain ⟨b, rfl⟩ := Int.eq_ofNat_of_zero_le hq0
  have ha : a < 4 := by omega
  have hb : b < 4 := by omega
  have hc := ht a b ha hb
  have ha' : (a : Int) < 4 := by omega
  have hb' : (b : Int) < 4 := by omega
  generalize compat a b = r at *
  have i1 : isM (a : Int) = true := isM_yes (by omega) (by omega)
  have i2 : isM (b : Int) = true := isM_yes (by omega) (by omega)
  go_enter Tryz.func46, Tryz.ntmps46
  go_wp2_with (go_at_call 45; refine (is_any _ _).mono ?_; rintro e w' ⟨rfl, rfl⟩)
  go_ret
  exact ⟨rfl, rfl⟩


set_option maxHeartbeats 800000 in
theorem Commute_any (a b : OpD) (av bv : Value) (w : World) (ht : Tab w) (hg : 0 < w.heap.size) :
    Calls Tryz.prog 29 #[.agg #[.int .i64 a.act, .string a.key, av, .int .i64 a.lo, .int .i64 a.hi, .int .i64 a.n], .agg #[.int .i64 b.act, .string b.key, bv, .int .i64 b.lo, .int .i64 b.hi, .int .i64 b.n]] w fun e w' =>
      e = .returned (.bool (commute a b)) ∧ Below w.heap.size w w' := by
  by_cases h1 : 0 ≤ a.act ∧ a.act ≤ 5
  · have m1 := modeOf_in h1.1 h1.2
    by_cases h2 : 0 ≤ b.act ∧ b.act ≤ 5
    · have m2 := modeOf_in h2.1 h2.2
      have hr : commute a b = (!(a.key.toList == b.key.toList) || compat (modeOf a.act) (modeOf b.act)) := by
        have e1 : inRange a.act = true := by simp [inRange, h1]
        have e2 : inRange b.act = true := by simp [inRange, h2]
        simp [commute, e1, e2]
      rw [hr]
      clear hr h1 h2
      obtain ⟨m10, m13⟩ := m1
      obtain ⟨m20, m23⟩ := m2
      have i1 := isM_yes m10 m13
      have i2 := isM_yes m20 m23
      have hb2 := fun o1 o2 => below2 w o1 o2
      go_enter Tryz.func29, Tryz.ntmps29
      go_wp2
      go_quiet ((go_at_call 44; exact Calls.quiet_of_same (Of_any _ _)))
      go_wp2_with (first | (go_at_call 45; refine (is_any _ _).mono ?_; rintro e w' ⟨rfl, rfl⟩) | (go_at_call 46; refine (Compat_any _ _ _ (by omega) (by omega) (by omega) (by omega) ?_).mono ?_; (exact (ht.below (hb2 _ _) hg).drewN _); rintro e w' ⟨rfl, rfl⟩))
      all_goals go_ret
      all_goals refine ⟨ret_bool ?_, below_drewN (hb2 _ _) _⟩
      all_goals simp_all
    · have m2 := modeOf_out h2
      have hr : commute a b = false := by
        have e2 : inRange b.act = false := by simp only [inRange]; exact decide_eq_false h2
        simp [commute, e2]
      have hb2 := fun o1 o2 => below2 w o1 o2
      rw [hr]
      clear hr h1 h2
      obtain ⟨m10, m13⟩ := m1
      have i1 := isM_yes m10 m13
      have i2 : isM (modeOf b.act) = false := by rw [m2]; rfl
      clear m2
      go_enter Tryz.func29, Tryz.ntmps29
      go_wp2
      go_quiet ((go_at_call 44; exact Calls.quiet_of_same (Of_any _ _)))
      go_wp2_with ((go_at_call 45; refine (is_any _ _).mono ?_; rintro e w' ⟨rfl, rfl⟩))
      all_goals go_ret
      all_goals exact ⟨ret_bool rfl, below_drewN (hb2 _ _) _⟩
  · have m1 := modeOf_out h1
    have hr : commute a b = false := by
      have e1 : inRange a.act = false := by simp only [inRange]; exact decide_eq_false h1
      simp [commute, e1]
    have hb2 := fun o1 o2 => below2 w o1 o2
    rw [hr]
    have i1 : isM (modeOf a.act) = false := by rw [m1]; rfl
    clear hr h1 m1
    go_enter Tryz.func29, Tryz.ntmps29
    go_wp2
    go_quiet ((go_at_call 44; exact Calls.quiet_of_same (Of_any _ _)))
    go_wp2_with (go_at_call 45; refine (is_any _ _).mono ?_; rintro e w' ⟨rfl, rfl⟩)
    all_goals go_ret
    all_goals exact ⟨ret_bool rfl, below_drewN (hb2 _ _) _⟩

set_option maxHeartbeats 800000 in
theorem rOf_any (x : Int) (w : World) (h0 : 0 ≤ x) (h5 : x ≤ 5) : Calls Tryz.prog 52 #[.int .i64 x] w fun e w' => e = .returned (.int .i64 (modeOf x)) ∧ Below w.heap.size w w' := by
  rcases (show x = 0 ∨ x = 1 ∨ x = 2 ∨ x = 3 ∨ x = 4 ∨ x = 5 by omega) with rfl | rfl | rfl | rfl | rfl | rfl
  all_goals
    go_enter Tryz.func52, Tryz.ntmps52
    go_wp2
    go_ret
    exact ⟨ret_int rfl, (Below.refl _ _).alloc (Nat.le_refl _) _⟩

set_option maxHeartbeats 1600000 in
theorem rCompat_any (p q : Int) (w : World) (hp0 : 0 ≤ p) (hp3 : p ≤ 3) (hq0 : 0 ≤ q) (hq3 : q ≤ 3) :
    Calls Tryz.prog 51 #[.int .i64 p, .int .i64 q] w fun e w' => e = .returned (.bool (compat p q)) ∧ w' = w := by
  rcases (show p = 0 ∨ p = 1 ∨ p = 2 ∨ p = 3 by omega) with rfl | rfl | rfl | rfl <;> rcases (show q = 0 ∨ q = 1 ∨ q = 2 ∨ q = 3 by omega) with rfl | rfl | rfl | rfl
  all_goals
    go_enter Tryz.func51, Tryz.ntmps51
    go_wp2
    go_ret
    exact ⟨rfl, rfl⟩

set_option maxHeartbeats 1600000 in
theorem rCommute_any (a b : OpD) (av bv : Value) (w : World) :
    Calls Tryz.prog 39 #[.agg #[.int .i64 a.act, .string a.key, av, .int .i64 a.lo, .int .i64 a.hi, .int .i64 a.n], .agg #[.int .i64 b.act, .string b.key, bv, .int .i64 b.lo, .int .i64 b.hi, .int .i64 b.n]] w fun e w' =>
      e = .returned (.bool (commute a b)) ∧ Below w.heap.size w w' := by
  have hb2 := fun o1 o2 => below2 w o1 o2
  by_cases h1 : 0 ≤ a.act ∧ a.act ≤ 5
  · have m1 := modeOf_in h1.1 h1.2
    by_cases h2 : 0 ≤ b.act ∧ b.act ≤ 5
    · have m2 := modeOf_in h2.1 h2.2
      have hr : commute a b = (!(a.key.toList == b.key.toList) || compat (modeOf a.act) (modeOf b.act)) := by
        have e1 : inRange a.act = true := by simp [inRange, h1]
        have e2 : inRange b.act = true := by simp [inRange, h2]
        simp [commute, e1, e2]
      rw [hr]
      clear hr
      obtain ⟨m10, m13⟩ := m1
      obtain ⟨m20, m23⟩ := m2
      obtain ⟨h10, h15⟩ := h1
      obtain ⟨h20, h25⟩ := h2
      by_cases hk : a.key.toList = b.key.toList
      · have hkb : (!(a.key.toList == b.key.toList)) = false := by simp [hk]
        rw [hkb]
        go_enter Tryz.func39, Tryz.ntmps39
        go_wp2
        have k0 : Blk ((w.alloc (.cells #[.int .i64 a.act, .string a.key, av, .int .i64 a.lo, .int .i64 a.hi, .int .i64 a.n] 29)).alloc (.cells #[.int .i64 b.act, .string b.key, bv, .int .i64 b.lo, .int .i64 b.hi, .int .i64 b.n] 29)) w.heap.size 29 #[.int .i64 a.act, .string a.key, av, .int .i64 a.lo, .int .i64 a.hi, .int .i64 a.n] := (Blk.new _ _ _).alloc _
        have k1 : Blk ((w.alloc (.cells #[.int .i64 a.act, .string a.key, av, .int .i64 a.lo, .int .i64 a.hi, .int .i64 a.n] 29)).alloc (.cells #[.int .i64 b.act, .string b.key, bv, .int .i64 b.lo, .int .i64 b.hi, .int .i64 b.n] 29)) (w.heap.size + 1) 29 #[.int .i64 b.act, .string b.key, bv, .int .i64 b.lo, .int .i64 b.hi, .int .i64 b.n] := by simpa using Blk.new (w.alloc (.cells #[.int .i64 a.act, .string a.key, av, .int .i64 a.lo, .int .i64 a.hi, .int .i64 a.n] 29)) 29 #[.int .i64 b.act, .string b.key, bv, .int .i64 b.lo, .int .i64 b.hi, .int .i64 b.n]
        have hbw := hb2 (.cells #[.int .i64 a.act, .string a.key, av, .int .i64 a.lo, .int .i64 a.hi, .int .i64 a.n] 29) (.cells #[.int .i64 b.act, .string b.key, bv, .int .i64 b.lo, .int .i64 b.hi, .int .i64 b.n] 29)
        generalize (w.alloc (.cells #[.int .i64 a.act, .string a.key, av, .int .i64 a.lo, .int .i64 a.hi, .int .i64 a.n] 29)).alloc (.cells #[.int .i64 b.act, .string b.key, bv, .int .i64 b.lo, .int .i64 b.hi, .int .i64 b.n] 29) = W0 at *
        have j0 := k0.drew
        have j1 := k1.drew
        have jb := hbw.drew
        clear k0 k1 hbw
        go_region_held3 (fun w' => w'.cell? ⟨w.heap.size, 0, none⟩ = some (.int .i64 a.act) ∧ w'.cell? ⟨w.heap.size, 1, none⟩ = some (.string a.key) ∧ w'.cell? ⟨w.heap.size + 1, 0, none⟩ = some (.int .i64 b.act) ∧ w'.cell? ⟨w.heap.size + 1, 1, none⟩ = some (.string b.key))
          (first | exact ⟨j0'.cell 0, j0'.cell 1, j1'.cell 0, j1'.cell 1⟩ | exact ⟨j0.cell 0, j0.cell 1, j1.cell 0, j1.cell 1⟩)
          (first
            | (go_at_call 52; refine (rOf_any _ _ (by omega) (by omega)).mono ?_; rintro e w' ⟨rfl, hbx⟩; have j0' := Blk.via (g := w.heap.size) hbx (by assumption); have j1' := Blk.via (g := w.heap.size + 1) hbx (by assumption); have jb' := below_via (B := w.heap.size) (w := w) (by assumption) hbx (Nat.le_of_lt (Blk.lt (by assumption))))
            | (go_at_call 51; refine (rCompat_any _ _ _ (by omega) (by omega) (by omega) (by omega)).mono ?_; rintro e w' ⟨rfl, rfl⟩))
        all_goals go_wp2
        all_goals go_ret
        all_goals exact ⟨by simp, by assumption⟩
      · have hkb : (!(a.key.toList == b.key.toList)) = true := by simp [hk]
        rw [hkb]
        go_enter Tryz.func39, Tryz.ntmps39
        go_wp2
        go_quiet (fail)
        go_wp2
        go_ret
        exact ⟨rfl, below_drewN (hb2 _ _) _⟩
    · have hr : commute a b = false := by
        have e2 : inRange b.act = false := by simp only [inRange]; exact decide_eq_false h2
        simp [commute, e2]
      rw [hr]
      clear hr
      obtain ⟨h10, h15⟩ := h1
      rcases (show b.act < 0 ∨ 5 < b.act by omega) with h2 | h2
      · have h2' : ¬ 5 < b.act := by omega
        go_enter Tryz.func39, Tryz.ntmps39
        go_wp2
        go_ret
        exact ⟨rfl, hb2 _ _⟩
      · have h2' : ¬ b.act < 0 := by omega
        go_enter Tryz.func39, Tryz.ntmps39
        go_wp2
        go_ret
        exact ⟨rfl, hb2 _ _⟩
  · have hr : commute a b = false := by
      have e1 : inRange a.act = false := by simp only [inRange]; exact decide_eq_false h1
      simp [commute, e1]
    rw [hr]
    clear hr
    rcases (show a.act < 0 ∨ 5 < a.act by omega) with h2 | h2
    · have h2' : ¬ 5 < a.act := by omega
      go_enter Tryz.func39, Tryz.ntmps39
      go_wp2
      go_ret
      exact ⟨rfl, hb2 _ _⟩
    · have h2' : ¬ a.act < 0 := by omega
      go_enter Tryz.func39, Tryz.ntmps39
      go_wp2
      go_ret
      exact ⟨rfl, hb2 _ _⟩
end Go.Proofs.YtkhpkclkjklccaaGreatDoor
