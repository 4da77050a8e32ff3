/-
  DERIVED. GIVEN WITH THE SEED: THE CARDS: each row of YtnadimeigodagaaGreatDoorRows.lean that lists a variable, with what it lists TIED to the program's text (the seventh form; the later family's looks); each row that meets fmt, with fmt's text TOLD by the authors' own Lean function (tested against real Go, not proved from fmt's source: count such statements apart). THE CARD IS WHAT COUNTS. Prove the row's statement (the work); the ties are given (YtnadimeigodagaaGreatDoorTie.lean); close each card by the builder's one call (the guide's Derived/Test/ToyasCard.lean, 'card_holds'). Laid BY PROGRAM, IN A SANDBOX (cutbox-door.mjs). By AI agents, Wed Nov 11 2026. No macro, syntax, notation, axiom, sorry.
-/
import Derived.Test.YtnadimeigodagaaGreatDoorRows
import GoSem.ClaimSeven
namespace Go.Proofs.YtnadimeigodagaaGreatDoor
namespace Rows

/-- THE TIED CARD OF 'moneyerlaw30.RestartNil'. -/
def restartNilCard : Claim7 := { stood := { row := restartNilRow, standIns := [], harness := (true, "04c52155e6f626c4ce22caefc9028d26d91567e64287625dd9099e1c729ae11e"), looks := false }, kinds := [], alts := [], laidByText := true, laidKinds := [.data], laidTests := true, laidLooks := .later }
def RestartNilCardSaid : Prop := Claim7.holds Tryz.pinned (.plain (OpenSpec.ofChange restartNilSpec)) restartNilCard

/-- THE SECOND FORM's CARD OF 'moneyerlaw30.RestartNil'. -/
def restartNilUptoCard : Claim7 := { stood := { row := restartNilUptoRow, standIns := [], harness := (true, "04c52155e6f626c4ce22caefc9028d26d91567e64287625dd9099e1c729ae11e"), looks := false }, kinds := [], alts := [], laidByText := true, laidKinds := [.data], laidTests := true, laidLooks := .later }
def RestartNilUptoCardSaid : Prop := Claim7.holds Tryz.pinned (.plain (OpenSpec.upto restartNilSpec)) restartNilUptoCard
end Rows
end Go.Proofs.YtnadimeigodagaaGreatDoor
