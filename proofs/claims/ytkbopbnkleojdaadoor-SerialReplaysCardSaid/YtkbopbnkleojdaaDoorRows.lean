/-
  NARROWER THAN 'FOR EVERY INPUT', by the rows' own cells (each row's printed sentence says how): SerialOrders: laid · SerialReplays: laid.
  DERIVED. THE GIVEN ROWS OF THIS SEAT. 2 by the template 'for every input the law returns true; each argument reads behind the call as it read before'; 0 by the template 'total and deterministic' (their statements: YtkbopbnkleojdaaDoorTotals.lean).
  GIVEN WITH THE SEED: the statements are not yours to turn. If you find one false, say at which input.
  Laid BY PROGRAM, IN A SANDBOX (cutbox-rows.mjs): the forced cells as the released guide's own fill.sh prints them over the translation 4809e83a1e2e9439… (all of the seat's roots in one cut). By AI agents, Wed Nov 11 2026. No macro, syntax, notation, axiom, sorry.
-/
import Derived.Test.YtkbopbnkleojdaaDoorChecked
import GoSem.Claim
import GoSem.ClaimJoined
import GoSem.ClaimMapViews
import Derived.JoinedTies
import Derived.KernelRfl
namespace Go.Proofs.YtkbopbnkleojdaaDoor
/- THE CELL 'sum', in the pinned program and in every row, IS THE sha256 OF THE DUMP (.gsa) THAT YtkbopbnkleojdaaDoorProg.lean LOADS. Nothing in Lean hashes anything: it is a label: what it is worth is what the hold of that sum in a sandbox is worth. -/
noncomputable def Tryd.pinned : Pinned := { name := "ytkbopbnkleojdaadoor", sum := "4809e83a1e2e94392bb76603de32021e4ef0abee39d61ef37b0cb166185b432f", checked := Tryd.checked }
namespace Rows
def none {H : Type} : Left H := { results := [], args := [] }

/- WHAT THE LISTED PACKAGE-LEVEL VARIABLES READ AS WHEN THE CALL BEGINS. Each datum BY PROGRAM (the guide's laid-datum.mjs) off the statement by which the dump's own 'gosem.cut.vars' lays the variable. In a bare row this is a premise. The card (YtkbopbnkleojdaaDoorCards.lean) ties it to the program's text. -/
def laid_moneyer_modes_together {H : Type} : DataW H := .agg [.agg [.lit (.bool true), .lit (.bool false), .lit (.bool false), .lit (.bool false)], .agg [.lit (.bool false), .lit (.bool false), .lit (.bool false), .lit (.bool false)], .agg [.lit (.bool false), .lit (.bool false), .lit (.bool true), .lit (.bool true)], .agg [.lit (.bool false), .lit (.bool false), .lit (.bool true), .lit (.bool true)]]

/-- 'moneyerlaw34.SerialOrders': WHATEVER THE INPUT: true; the input reads as it did. -/
def serialOrdersSpec : ChangeSpec := { name := "serialOrders", fn := fun _ => fun
  | [d1, d2] => { results := [.lit (.bool true)], args := [d1, d2] }
  | _ => none }
def serialOrdersRow : OpenClaim := { program := "ytkbopbnkleojdaadoor", sum := "4809e83a1e2e94392bb76603de32021e4ef0abee39d61ef37b0cb166185b432f", func := "moneyer/moneyerlaw34.SerialOrders", spec := "serialOrders", unfollowed := true, recurses := true, named := ["moneyer/modes.together"], apart := false, laid := [("moneyer/modes.together", laid_moneyer_modes_together)] }
def SerialOrdersSaid : Prop := serialOrdersRow.holds Tryd.pinned (OpenSpec.ofChange serialOrdersSpec)

/-- ITS FALSE NEIGHBOUR: 'it returns false'. Refute it at one input. -/
def serialOrdersWrong : ChangeSpec := { name := "serialOrders", fn := fun _ => fun
  | [d1, d2] => { results := [.lit (.bool false)], args := [d1, d2] }
  | _ => none }
def SerialOrdersWrongFalsely : Prop := serialOrdersRow.holds Tryd.pinned (OpenSpec.ofChange serialOrdersWrong)

/-- 'moneyerlaw34.SerialReplays': WHATEVER THE INPUT: true; the input reads as it did. -/
def serialReplaysSpec : ChangeSpec := { name := "serialReplays", fn := fun _ => fun
  | [d1, d2] => { results := [.lit (.bool true)], args := [d1, d2] }
  | _ => none }
def serialReplaysRow : OpenClaim := { program := "ytkbopbnkleojdaadoor", sum := "4809e83a1e2e94392bb76603de32021e4ef0abee39d61ef37b0cb166185b432f", func := "moneyer/moneyerlaw34.SerialReplays", spec := "serialReplays", inPlace := ["internal/bytealg.abigen_runtime_cmpstring", "math/bits.Add64", "math/bits.Sub64", "slices.overlaps[moneyer/api.Pair]"], unfollowed := true, recurses := true, named := ["moneyer/modes.together"], apart := false, laid := [("moneyer/modes.together", laid_moneyer_modes_together)] }
def SerialReplaysSaid : Prop := serialReplaysRow.holds Tryd.pinned (OpenSpec.ofChange serialReplaysSpec)

/-- ITS FALSE NEIGHBOUR: 'it returns false'. Refute it at one input. -/
def serialReplaysWrong : ChangeSpec := { name := "serialReplays", fn := fun _ => fun
  | [d1, d2] => { results := [.lit (.bool false)], args := [d1, d2] }
  | _ => none }
def SerialReplaysWrongFalsely : Prop := serialReplaysRow.holds Tryd.pinned (OpenSpec.ofChange serialReplaysWrong)

/- THE SECOND FORM. 'bulk': how many values and letters a reading holds, each counted each time it is reached (what is shared counts as often as it is met; a slice's spare places count too). A statement '..UptoSaid' is the law's where the arguments, and the package variables that the reading takes, are together of bulk at most 1048576: NARROWER than '..Said'. Prove '..Said' where nothing that the law and all that it calls make is longer than what came in: it says more and counts as full. Else prove '..UptoSaid'. A law counts once. -/
mutual
def uptoBulk {H : Type} : DataW H → Nat
  | .lit (.string bytes) => bytes.length + 1
  | .lit _ => 1
  | .nil => 1
  | .ptr d => uptoBulk d + 1
  | .slice elems spare => uptoBulkAll elems + uptoBulkAll spare + 1
  | .agg parts => uptoBulkAll parts + 1
  | .iface _ d => uptoBulk d + 1
  | .map entries => uptoBulkEntries entries + 1
  | .held _ => 1
def uptoBulkAll {H : Type} : List (DataW H) → Nat
  | [] => 0
  | d :: r => uptoBulk d + uptoBulkAll r
def uptoBulkEntries {H : Type} : List (Lit × DataW H) → Nat
  | [] => 0
  | x :: r => uptoBulkEntry x + uptoBulkEntries r
def uptoBulkEntry {H : Type} : Lit × DataW H → Nat
  | (.string bytes, d) => bytes.length + uptoBulk d + 1
  | (_, d) => uptoBulk d + 1
 end
def uptoSmall : (H : Type) → List (DataW H) → Bool := fun _ ds => decide (uptoBulkAll ds ≤ 1048576)
def OpenSpec.upto (s : _root_.Go.ChangeSpec) : _root_.Go.OpenSpec := { _root_.Go.OpenSpec.ofChange s with cond := some uptoSmall }

/-- 'moneyerlaw34.SerialOrders', WHERE WHAT IT READS IS OF BULK AT MOST 1048576: true; the input reads as it did. -/
def serialOrdersUptoRow : OpenClaim := { program := "ytkbopbnkleojdaadoor", sum := "4809e83a1e2e94392bb76603de32021e4ef0abee39d61ef37b0cb166185b432f", func := "moneyer/moneyerlaw34.SerialOrders", spec := "serialOrders", unfollowed := true, recurses := true, named := ["moneyer/modes.together"], apart := false, laid := [("moneyer/modes.together", laid_moneyer_modes_together)], narrowed := true }
def SerialOrdersUptoSaid : Prop := serialOrdersUptoRow.holds Tryd.pinned (OpenSpec.upto serialOrdersSpec)

/-- 'moneyerlaw34.SerialReplays', WHERE WHAT IT READS IS OF BULK AT MOST 1048576: true; the input reads as it did. -/
def serialReplaysUptoRow : OpenClaim := { program := "ytkbopbnkleojdaadoor", sum := "4809e83a1e2e94392bb76603de32021e4ef0abee39d61ef37b0cb166185b432f", func := "moneyer/moneyerlaw34.SerialReplays", spec := "serialReplays", inPlace := ["internal/bytealg.abigen_runtime_cmpstring", "math/bits.Add64", "math/bits.Sub64", "slices.overlaps[moneyer/api.Pair]"], unfollowed := true, recurses := true, named := ["moneyer/modes.together"], apart := false, laid := [("moneyer/modes.together", laid_moneyer_modes_together)], narrowed := true }
def SerialReplaysUptoSaid : Prop := serialReplaysUptoRow.holds Tryd.pinned (OpenSpec.upto serialReplaysSpec)

end Rows
end Go.Proofs.YtkbopbnkleojdaaDoor
