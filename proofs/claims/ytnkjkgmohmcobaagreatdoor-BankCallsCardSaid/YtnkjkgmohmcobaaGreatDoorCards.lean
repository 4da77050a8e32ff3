/-
  DERIVED. GIVEN WITH THE SEED: THE CARDS: each row of YtnkjkgmohmcobaaGreatDoorRows.lean that lists a variable, with what it lists TIED to the program's text (the seventh form; the later family's looks); each row that meets fmt, with fmt's text TOLD by the authors' own Lean function (tested against real Go, not proved from fmt's source: count such statements apart). THE CARD IS WHAT COUNTS. Prove the row's statement (the work); the ties are given (YtnkjkgmohmcobaaGreatDoorTie.lean); close each card by the builder's one call (the guide's Derived/Test/ToyasCard.lean, 'card_holds'). Laid BY PROGRAM, IN A SANDBOX (cutbox-door.mjs). By AI agents, Wed Nov 11 2026. No macro, syntax, notation, axiom, sorry.
-/
import Derived.Test.YtnkjkgmohmcobaaGreatDoorRows
import GoSem.ClaimSeven
namespace Go.Proofs.YtnkjkgmohmcobaaGreatDoor
namespace Rows

/-- THE TIED CARD OF 'moneyerlaw28.BankCalls'. -/
def bankCallsCard : Claim7 := { stood := { row := bankCallsRow, standIns := [], harness := (true, "cefda51e3bce5d7fa3b62fbca3a943314d57ad41fd7250c34781820faf17cf6a"), looks := false }, kinds := [], alts := [], laidByText := true, laidKinds := [.data], laidTests := true, laidLooks := .later }
def BankCallsCardSaid : Prop := Claim7.holds Tryz.pinned (.plain (OpenSpec.ofChange bankCallsSpec)) bankCallsCard

/-- THE SECOND FORM's CARD OF 'moneyerlaw28.BankCalls'. -/
def bankCallsUptoCard : Claim7 := { stood := { row := bankCallsUptoRow, standIns := [], harness := (true, "cefda51e3bce5d7fa3b62fbca3a943314d57ad41fd7250c34781820faf17cf6a"), looks := false }, kinds := [], alts := [], laidByText := true, laidKinds := [.data], laidTests := true, laidLooks := .later }
def BankCallsUptoCardSaid : Prop := Claim7.holds Tryz.pinned (.plain (OpenSpec.upto bankCallsSpec)) bankCallsUptoCard
end Rows
end Go.Proofs.YtnkjkgmohmcobaaGreatDoor
