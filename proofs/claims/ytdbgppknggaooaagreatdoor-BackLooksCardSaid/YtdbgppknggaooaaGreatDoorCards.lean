/-
  DERIVED. GIVEN WITH THE SEED: THE CARDS: each row of YtdbgppknggaooaaGreatDoorRows.lean that lists a variable, with what it lists TIED to the program's text (the seventh form; the later family's looks); each row that meets fmt, with fmt's text TOLD by the authors' own Lean function (tested against real Go, not proved from fmt's source: count such statements apart). THE CARD IS WHAT COUNTS. Prove the row's statement (the work); the ties are given (YtdbgppknggaooaaGreatDoorTie.lean); close each card by the builder's one call (the guide's Derived/Test/ToyasCard.lean, 'card_holds'). Laid BY PROGRAM, IN A SANDBOX (cutbox-door.mjs). By AI agents, Wed Nov 11 2026. No macro, syntax, notation, axiom, sorry.
-/
import Derived.Test.YtdbgppknggaooaaGreatDoorRows
import GoSem.ClaimSeven
namespace Go.Proofs.YtdbgppknggaooaaGreatDoor
namespace Rows

/-- THE TIED CARD OF 'moneyerlaw27.BackLooks'. -/
def backLooksCard : Claim7 := { stood := { row := backLooksRow, standIns := [], harness := (true, "4684203615160880d6089b17e7a431cc381406da28ade29edafc2864857a408d"), looks := false }, kinds := [], alts := [], laidByText := true, laidKinds := [.data], laidTests := true, laidLooks := .later }
def BackLooksCardSaid : Prop := Claim7.holds Tryz.pinned (.plain (OpenSpec.ofChange backLooksSpec)) backLooksCard

/-- THE SECOND FORM's CARD OF 'moneyerlaw27.BackLooks'. -/
def backLooksUptoCard : Claim7 := { stood := { row := backLooksUptoRow, standIns := [], harness := (true, "4684203615160880d6089b17e7a431cc381406da28ade29edafc2864857a408d"), looks := false }, kinds := [], alts := [], laidByText := true, laidKinds := [.data], laidTests := true, laidLooks := .later }
def BackLooksUptoCardSaid : Prop := Claim7.holds Tryz.pinned (.plain (OpenSpec.upto backLooksSpec)) backLooksUptoCard
end Rows
end Go.Proofs.YtdbgppknggaooaaGreatDoor
