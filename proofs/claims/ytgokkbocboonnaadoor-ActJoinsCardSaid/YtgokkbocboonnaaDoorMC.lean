/-
  WALK: moneyerref09.Right: if it answers true, the list is a state.
-/
import Derived.Test.YtgokkbocboonnaaDoorMA
import Derived.Test.YtgokkbocboonnaaDoorMem
import Derived.Test.YtgokkbocboonnaaDoorQin
import Derived.Deep.LoopGhost
namespace Go.Proofs.YtgokkbocboonnaaDoor
open Go.RowKit BigFrame

def RightPost (w : World) (xs : List PairV) (e : Ending) (w' : World) : Prop := ∃ b, e = .returned (.bool b) ∧ (b = true → RightS (xs.map PairV.d)) ∧ Below w.heap.size w w'
theorem take_map_snoc2 {α β : Type} (f : α → β) {xs : List α} {k : Nat} {x : α} (hx : xs[k]? = some x) : (xs.take (k + 1)).map f = (xs.take k).map f ++ [f x] := by
  obtain ⟨hk, e⟩ := List.getElem?_eq_some_iff.1 hx
  rw [List.take_succ_eq_append_getElem hk, List.map_append, e]
  rfl

end Go.Proofs.YtgokkbocboonnaaDoor
