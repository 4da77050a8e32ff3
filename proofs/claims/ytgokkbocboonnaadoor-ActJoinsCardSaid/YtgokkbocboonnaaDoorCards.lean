/-
  DERIVED. GIVEN WITH THE SEED: THE CARDS: each row of YtgokkbocboonnaaDoorRows.lean that lists a variable, with what it lists TIED to the program's text (the seventh form; the later family's looks); each row that meets fmt, with fmt's text TOLD by the authors' own Lean function (tested against real Go, not proved from fmt's source: count such statements apart). THE CARD IS WHAT COUNTS. Prove the row's statement (the work); the ties are given (YtgokkbocboonnaaDoorTie.lean); close each card by the builder's one call (the guide's Derived/Test/ToyasCard.lean, 'card_holds'). Laid BY PROGRAM, IN A SANDBOX (cutbox-door.mjs). By AI agents, Wed Nov 11 2026. No macro, syntax, notation, axiom, sorry.
-/
import Derived.Test.YtgokkbocboonnaaDoorRows
import GoSem.ClaimSeven
namespace Go.Proofs.YtgokkbocboonnaaDoor
namespace Rows

/-- THE TIED CARD OF 'moneyerlaw31.ActParses'. -/
def actParsesCard : Claim7 := { stood := { row := actParsesRow, standIns := [], harness := (true, "1777049c0a783b1be01d452e66702c6f95f7a6efe478e714f4e66d062e851f22"), looks := true }, kinds := [], alts := [], laidByText := true, laidKinds := [.data, .data, .data, .sentinel, .sentinel], laidTests := true, laidLooks := .later }
def ActParsesCardSaid : Prop := Claim7.holds Tryd.pinned (.plain (OpenSpec.ofChange actParsesSpec)) actParsesCard

/-- THE TIED CARD OF 'moneyerlaw31.ActLines'. -/
def actLinesCard : Claim7 := { stood := { row := actLinesRow, standIns := [], harness := (true, "1777049c0a783b1be01d452e66702c6f95f7a6efe478e714f4e66d062e851f22"), looks := true }, kinds := [], alts := [], laidByText := true, laidKinds := [.data, .data, .data, .sentinel, .sentinel], laidTests := true, laidLooks := .later }
def ActLinesCardSaid : Prop := Claim7.holds Tryd.pinned (.plain (OpenSpec.ofChange actLinesSpec)) actLinesCard

/-- THE TIED CARD OF 'moneyerlaw31.ActLists'. -/
def actListsCard : Claim7 := { stood := { row := actListsRow, standIns := [], harness := (true, "1777049c0a783b1be01d452e66702c6f95f7a6efe478e714f4e66d062e851f22"), looks := true }, kinds := [], alts := [], laidByText := true, laidKinds := [.data, .data, .data, .sentinel, .sentinel], laidTests := true, laidLooks := .later }
def ActListsCardSaid : Prop := Claim7.holds Tryd.pinned (.plain (OpenSpec.ofChange actListsSpec)) actListsCard

/-- THE TIED CARD OF 'moneyerlaw31.ActJoins'. -/
def actJoinsCard : Claim7 := { stood := { row := actJoinsRow, standIns := [], harness := (true, "1777049c0a783b1be01d452e66702c6f95f7a6efe478e714f4e66d062e851f22"), looks := true }, kinds := [], alts := [], laidByText := true, laidKinds := [.data, .data, .data, .sentinel, .sentinel], laidTests := true, laidLooks := .later }
def ActJoinsCardSaid : Prop := Claim7.holds Tryd.pinned (.plain (OpenSpec.ofChange actJoinsSpec)) actJoinsCard

/-- THE SECOND FORM's CARD OF 'moneyerlaw31.ActParses'. -/
def actParsesUptoCard : Claim7 := { stood := { row := actParsesUptoRow, standIns := [], harness := (true, "1777049c0a783b1be01d452e66702c6f95f7a6efe478e714f4e66d062e851f22"), looks := true }, kinds := [], alts := [], laidByText := true, laidKinds := [.data, .data, .data, .sentinel, .sentinel], laidTests := true, laidLooks := .later }
def ActParsesUptoCardSaid : Prop := Claim7.holds Tryd.pinned (.plain (OpenSpec.upto actParsesSpec)) actParsesUptoCard

/-- THE SECOND FORM's CARD OF 'moneyerlaw31.ActLines'. -/
def actLinesUptoCard : Claim7 := { stood := { row := actLinesUptoRow, standIns := [], harness := (true, "1777049c0a783b1be01d452e66702c6f95f7a6efe478e714f4e66d062e851f22"), looks := true }, kinds := [], alts := [], laidByText := true, laidKinds := [.data, .data, .data, .sentinel, .sentinel], laidTests := true, laidLooks := .later }
def ActLinesUptoCardSaid : Prop := Claim7.holds Tryd.pinned (.plain (OpenSpec.upto actLinesSpec)) actLinesUptoCard

/-- THE SECOND FORM's CARD OF 'moneyerlaw31.ActLists'. -/
def actListsUptoCard : Claim7 := { stood := { row := actListsUptoRow, standIns := [], harness := (true, "1777049c0a783b1be01d452e66702c6f95f7a6efe478e714f4e66d062e851f22"), looks := true }, kinds := [], alts := [], laidByText := true, laidKinds := [.data, .data, .data, .sentinel, .sentinel], laidTests := true, laidLooks := .later }
def ActListsUptoCardSaid : Prop := Claim7.holds Tryd.pinned (.plain (OpenSpec.upto actListsSpec)) actListsUptoCard

/-- THE SECOND FORM's CARD OF 'moneyerlaw31.ActJoins'. -/
def actJoinsUptoCard : Claim7 := { stood := { row := actJoinsUptoRow, standIns := [], harness := (true, "1777049c0a783b1be01d452e66702c6f95f7a6efe478e714f4e66d062e851f22"), looks := true }, kinds := [], alts := [], laidByText := true, laidKinds := [.data, .data, .data, .sentinel, .sentinel], laidTests := true, laidLooks := .later }
def ActJoinsUptoCardSaid : Prop := Claim7.holds Tryd.pinned (.plain (OpenSpec.upto actJoinsSpec)) actJoinsUptoCard
end Rows
end Go.Proofs.YtgokkbocboonnaaDoor
