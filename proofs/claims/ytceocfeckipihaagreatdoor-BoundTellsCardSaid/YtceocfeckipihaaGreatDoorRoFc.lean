/-
  THE ROW's CLOSED FACTS.
-/
import Derived.Test.YtceocfeckipihaaGreatDoorCards
import Derived.Test.YtceocfeckipihaaGreatDoorTie
import Derived.WalkKit
import Derived.ProofKit
import Derived.OpenShut
import Derived.ChangeShapes
import Derived.Deep.DeepHandedRow
import Derived.Lib.LaidTab
import Derived.ChangeSame
namespace Go.Proofs.YtceocfeckipihaaGreatDoor.boundTells
open Go.ChangeShapes Go.WideShapes Go.ChangeAt Go.RowKit

/-! The row's closed facts, one by one where they are great. -/
theorem fStops : (Tryz.prog.stops == []) = true := by kernel_rfl
theorem fKnobs : (Tryz.prog.stopKnobs == []) = true := by kernel_rfl
theorem fPlace : (Rows.boundTellsRow.inPlace == Tryz.prog.inPlace 3) = true := by kernel_rfl
theorem fUnfollowed : (Rows.boundTellsRow.unfollowed == Tryz.prog.unfollowed 3) = true := by kernel_rfl
theorem fRecurses : (Rows.boundTellsRow.recurses == Tryz.prog.recurses 3) = true := by kernel_rfl
theorem fNamed : (Rows.boundTellsRow.named == Tryz.prog.varsNamed 3) = true := by kernel_rfl
set_option maxRecDepth 100000 in
theorem closed : joinedFacts Tryz.pinned.checked.prog 3 Tryz.f3 (OpenSpec.ofChange Rows.boundTellsSpec).bare Rows.boundTellsRow = true := by
  show joinedFacts Tryz.prog 3 Tryz.f3 Rows.boundTellsSpec Rows.boundTellsRow = true
  unfold joinedFacts
  rw [fStops, fKnobs, fPlace, fUnfollowed, fRecurses, fNamed]
  kernel_rfl
theorem goes_no : Tryz.prog.funcs.any Func.goes = false := by kernel_rfl
theorem goes_of {P : Program} (h : P.funcs.any Func.goes = false) (f : FuncId) : P.goes f = false := by
  unfold Program.goes
  rw [h, Bool.and_false, Bool.or_false]
  rw [List.any_eq_false]
  intro g _
  cases hg : P.funcs[g]? with
  | none => simp
  | some fn =>
    obtain ⟨hlt, e⟩ := Array.getElem?_eq_some_iff.1 hg
    have := Array.any_eq_false.1 h g hlt
    rw [e] at this
    simpa using this
theorem goesBy_no : false = Rows.boundTellsRow.goesBy Tryz.prog := by
  have h : ∀ o : Option FuncId, o.any Tryz.prog.goes = false := fun o => by cases o <;> simp [goes_of goes_no]
  unfold OpenClaim.goesBy Program.goesAt Program.goesFrom
  rw [h]
  rfl
end Go.Proofs.YtceocfeckipihaaGreatDoor.boundTells
