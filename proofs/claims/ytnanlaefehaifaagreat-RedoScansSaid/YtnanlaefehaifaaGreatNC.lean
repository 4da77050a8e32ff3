/-
  A block that holds cells is none that an iterator turns.
-/
import Derived.Test.YtnanlaefehaifaaGreatMem
import Derived.RangeFuncNested
namespace Go.Proofs.YtnanlaefehaifaaGreat
open Go.RowKit

theorem nc_ne {W : World} {B : Nat} {row : Option Nat} (hr : ∀ r, row = some r → B ≤ r ∧ ∃ o : Obj, W.heap[r]? = some o ∧ o.isCells = false) {q : Nat} {cs : Array Value} {t : TypeId} {fz : Nat × Nat} (h : W.heap[q]? = some (.cells cs t fz)) : some q ≠ row := by
  intro e
  obtain ⟨_, o, ho, hc⟩ := hr q e.symm
  rw [h] at ho
  injection ho with ho
  subst ho
  cases hc
end Go.Proofs.YtnanlaefehaifaaGreat
