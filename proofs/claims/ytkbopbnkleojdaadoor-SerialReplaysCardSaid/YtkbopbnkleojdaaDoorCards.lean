/-
  DERIVED. GIVEN WITH THE SEED: THE CARDS: each row of YtkbopbnkleojdaaDoorRows.lean that lists a variable, with what it lists TIED to the program's text (the seventh form; the later family's looks); each row that meets fmt, with fmt's text TOLD by the authors' own Lean function (tested against real Go, not proved from fmt's source: count such statements apart). THE CARD IS WHAT COUNTS. Prove the row's statement (the work); the ties are given (YtkbopbnkleojdaaDoorTie.lean); close each card by the builder's one call (the guide's Derived/Test/ToyasCard.lean, 'card_holds'). Laid BY PROGRAM, IN A SANDBOX (cutbox-door.mjs). By AI agents, Wed Nov 11 2026. No macro, syntax, notation, axiom, sorry.
-/
import Derived.Test.YtkbopbnkleojdaaDoorRows
import GoSem.ClaimSeven
namespace Go.Proofs.YtkbopbnkleojdaaDoor
namespace Rows

/-- THE TIED CARD OF 'moneyerlaw34.SerialOrders'. -/
def serialOrdersCard : Claim7 := { stood := { row := serialOrdersRow, standIns := [], harness := (true, "84e1cabc38c99821174aac7bc09d78fcab85e61d3f391bd95bf7dc0a79d245bb"), looks := false }, kinds := [], alts := [], laidByText := true, laidKinds := [.data], laidTests := true, laidLooks := .later }
def SerialOrdersCardSaid : Prop := Claim7.holds Tryd.pinned (.plain (OpenSpec.ofChange serialOrdersSpec)) serialOrdersCard

/-- THE TIED CARD OF 'moneyerlaw34.SerialReplays'. -/
def serialReplaysCard : Claim7 := { stood := { row := serialReplaysRow, standIns := [], harness := (true, "84e1cabc38c99821174aac7bc09d78fcab85e61d3f391bd95bf7dc0a79d245bb"), looks := false }, kinds := [], alts := [], laidByText := true, laidKinds := [.data], laidTests := true, laidLooks := .later }
def SerialReplaysCardSaid : Prop := Claim7.holds Tryd.pinned (.plain (OpenSpec.ofChange serialReplaysSpec)) serialReplaysCard

/-- THE SECOND FORM's CARD OF 'moneyerlaw34.SerialOrders'. -/
def serialOrdersUptoCard : Claim7 := { stood := { row := serialOrdersUptoRow, standIns := [], harness := (true, "84e1cabc38c99821174aac7bc09d78fcab85e61d3f391bd95bf7dc0a79d245bb"), looks := false }, kinds := [], alts := [], laidByText := true, laidKinds := [.data], laidTests := true, laidLooks := .later }
def SerialOrdersUptoCardSaid : Prop := Claim7.holds Tryd.pinned (.plain (OpenSpec.upto serialOrdersSpec)) serialOrdersUptoCard

/-- THE SECOND FORM's CARD OF 'moneyerlaw34.SerialReplays'. -/
def serialReplaysUptoCard : Claim7 := { stood := { row := serialReplaysUptoRow, standIns := [], harness := (true, "84e1cabc38c99821174aac7bc09d78fcab85e61d3f391bd95bf7dc0a79d245bb"), looks := false }, kinds := [], alts := [], laidByText := true, laidKinds := [.data], laidTests := true, laidLooks := .later }
def SerialReplaysUptoCardSaid : Prop := Claim7.holds Tryd.pinned (.plain (OpenSpec.upto serialReplaysSpec)) serialReplaysUptoCard
end Rows
end Go.Proofs.YtkbopbnkleojdaaDoor
