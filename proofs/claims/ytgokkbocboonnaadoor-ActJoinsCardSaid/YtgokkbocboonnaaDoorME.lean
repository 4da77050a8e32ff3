/-
  WALKS: moneyerref09.Good, Find.
-/
import Derived.Test.YtgokkbocboonnaaDoorMC
import Derived.Test.YtgokkbocboonnaaDoorMem
namespace Go.Proofs.YtgokkbocboonnaaDoor
open Go.RowKit

theorem goodKey_size {k : ByteArray} (h : goodKey k = true) : k.size ≤ 16 := by
  unfold goodKey at h
  simp only [Bool.and_eq_true, decide_eq_true_eq] at h
  exact h.2.2

set_option maxHeartbeats 1600000 in
theorem mGood_any (x : OpD) (A : Option Addr) (n c : Nat) (w : World) (hn : n = x.data.length) (hk : x.key.size ≤ 9223372036854775807) :
    Calls Tryd.prog 45 #[.agg #[.int .i64 x.act, .string x.key, .slice A n c, .int .i64 x.lo, .int .i64 x.hi, .int .i64 x.n]] w fun e w' => e = .returned (.bool (goodOp x)) ∧ Below w.heap.size w w' := by
  have HN := hide hn
  clear hn
  have HKR := hide (fun (b : Bool) (hb : goodKey x.key = b) (W : World) => hb ▸ keyRight_any x.key W hk)
  cases hb3 : goodKey x.key
  all_goals
    go_enter Tryd.func45, Tryd.ntmps45
    go_wp2_with (go_at_call 56; refine (HKR.out _ hb3 _).mono ?_; rintro e w' ⟨rfl, rfl⟩)
  all_goals
    go_ret
    refine ⟨ret_bool ?_, (Below.refl _ _).alloc (Nat.le_refl _) _⟩
    have hn := HN.out
    clear HN HKR
    unfold goodOp
    rw [hb3]
    simp_all <;> omega

theorem findL_some {l : List PairV} {k : ByteArray} {j : Nat} {x : PairV} (hx : l[j]? = some x) (he : (x.d.key.toList == k.toList) = true) (hno : ∀ (q : Nat) y, q < j → l[q]? = some y → (y.d.key.toList == k.toList) = false) : findL l k = some x := by
  unfold findL
  induction l generalizing j with
  | nil => simp at hx
  | cons y t ih =>
    rw [List.find?_cons]
    cases j with
    | zero => simp only [List.getElem?_cons_zero, Option.some.injEq] at hx; subst hx; rw [he]
    | succ j =>
      rw [hno 0 y (by omega) rfl]
      exact ih (j := j) (by simpa using hx) (fun q z hq hz => hno (q + 1) z (by omega) (by simpa using hz))
theorem findL_none {l : List PairV} {k : ByteArray} (hno : ∀ (q : Nat) y, l[q]? = some y → (y.d.key.toList == k.toList) = false) : findL l k = none := by
  unfold findL
  rw [List.find?_eq_none]
  intro x hx
  obtain ⟨i, hi, e⟩ := List.getElem_of_mem hx
  rw [hno i x (by rw [List.getElem?_eq_getElem hi, e])]
  exact Bool.false_ne_true
def mkCell (d : CellD) (v : Value) : Value := .agg #[.int .i64 d.kind, v, .int .i64 d.lo, .int .i64 d.hi, .int .i64 d.val]
def noCell : Value := mkCell cell0 (.slice none 0 0)
def FindPost (w : World) (xs : List PairV) (k : ByteArray) (e : Ending) (w' : World) : Prop :=
  e = .returned (match findL xs k with | some x => .tuple #[mkCell x.d.cell x.cv, .bool true] | none => .tuple #[noCell, .bool false]) ∧ Below w.heap.size w w'

end Go.Proofs.YtgokkbocboonnaaDoor
