/-
  DERIVED. GIVEN WITH THE SEED: THE CARDS: each row of YtkhpkclkjklccaaGreatDoorRows.lean that lists a variable, with what it lists TIED to the program's text (the seventh form; the later family's looks); each row that meets fmt, with fmt's text TOLD by the authors' own Lean function (tested against real Go, not proved from fmt's source: count such statements apart). THE CARD IS WHAT COUNTS. Prove the row's statement (the work); the ties are given (YtkhpkclkjklccaaGreatDoorTie.lean); close each card by the builder's one call (the guide's Derived/Test/ToyasCard.lean, 'card_holds'). Laid BY PROGRAM, IN A SANDBOX (cutbox-door.mjs). By AI agents, Wed Nov 11 2026. No macro, syntax, notation, axiom, sorry.
-/
import Derived.Test.YtkhpkclkjklccaaGreatDoorRows
import GoSem.ClaimSeven
namespace Go.Proofs.YtkhpkclkjklccaaGreatDoor
namespace Rows

/-- THE TIED CARD OF 'moneyerlaw34.SerialChecks'. -/
def serialChecksCard : Claim7 := { stood := { row := serialChecksRow, standIns := [], harness := (true, "59e97f4c373a265371965b6730d7d2c0a50f7e21554c1aff938e003898a3e044"), looks := false }, kinds := [], alts := [], laidByText := true, laidKinds := [.data], laidTests := true, laidLooks := .later }
def SerialChecksCardSaid : Prop := Claim7.holds Tryz.pinned (.plain (OpenSpec.ofChange serialChecksSpec)) serialChecksCard

/-- THE SECOND FORM's CARD OF 'moneyerlaw34.SerialChecks'. -/
def serialChecksUptoCard : Claim7 := { stood := { row := serialChecksUptoRow, standIns := [], harness := (true, "59e97f4c373a265371965b6730d7d2c0a50f7e21554c1aff938e003898a3e044"), looks := false }, kinds := [], alts := [], laidByText := true, laidKinds := [.data], laidTests := true, laidLooks := .later }
def SerialChecksUptoCardSaid : Prop := Claim7.holds Tryz.pinned (.plain (OpenSpec.upto serialChecksSpec)) serialChecksUptoCard
end Rows
end Go.Proofs.YtkhpkclkjklccaaGreatDoor
