/-
  WALKS: moneyerref09.Good, Find.
-/
import Derived.Test.YteidmdnhkgcnoaaMC
import Derived.Test.YteidmdnhkgcnoaaMem
namespace Go.Proofs.Yteidmdnhkgcnoaa
open Go.RowKit

theorem goodKey_size {k : ByteArray} (h : goodKey k = true) : k.size ≤ 16 := by
  unfold goodKey at h
  simp only [Bool.and_eq_true, decide_eq_true_eq] at h
  exact h.2.2

theorem findL_some {l : List PairV} {k : ByteArray} {j : Nat} {x : PairV} (hx : l[j]? = some x) (he : (x.d.key.toList == k.toList) = true) (hno : ∀ (q : Nat) y, q < j → l[q]? = some y → (y.d.key.toList == k.toList) = false) : findL l k = some x := by
  unfold findL
  induction l generalizing j with
  | nil => simp at hx
  | cons y t ih =>
    rw [List.find?_cons]
    cases j with
    | zero => simp only [List.getElem?_cons_zero, Option.some.injEq] at hx; subst hx; rw [he]
    | succ j =>
      rw [hno 0 y (by omega) rfl]
      exact ih (j := j) (by simpa using hx) (fun q z hq hz => hno (q + 1) z (by omega) (by simpa using hz))
theorem findL_none {l : List PairV} {k : ByteArray} (hno : ∀ (q : Nat) y, l[q]? = some y → (y.d.key.toList == k.toList) = false) : findL l k = none := by
  unfold findL
  rw [List.find?_eq_none]
  intro x hx
  obtain ⟨i, hi, e⟩ := List.getElem_of_mem hx
  rw [hno i x (by rw [List.getElem?_eq_getElem hi, e])]
  exact Bool.false_ne_true
def mkCell (d : CellD) (v : Value) : Value := .agg #[.int .i64 d.kind, v, .int .i64 d.lo, .int .i64 d.hi, .int .i64 d.val]
def noCell : Value := mkCell cell0 (.slice none 0 0)
def FindPost (w : World) (xs : List PairV) (k : ByteArray) (e : Ending) (w' : World) : Prop :=
  e = .returned (match findL xs k with | some x => .tuple #[mkCell x.d.cell x.cv, .bool true] | none => .tuple #[noCell, .bool false]) ∧ Below w.heap.size w w'

end Go.Proofs.Yteidmdnhkgcnoaa
