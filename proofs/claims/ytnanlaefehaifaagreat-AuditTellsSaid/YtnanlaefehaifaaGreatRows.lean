/-
  No cell of these rows narrows 'for every input' (looked for: loops, veiled, ifaces, maps, wideKeys, modest, calm, conditions, laid).
  DERIVED. THE GIVEN ROWS OF THIS SEAT. 3 by the template 'for every input the law returns true; each argument reads behind the call as it read before'; 0 by the template 'total and deterministic' (their statements: YtnanlaefehaifaaGreatTotals.lean).
  GIVEN WITH THE SEED: the statements are not yours to turn. If you find one false, say at which input.
  Laid BY PROGRAM, IN A SANDBOX (cutbox-rows.mjs): the forced cells as the released guide's own fill.sh prints them over the translation 075a0a68a0c75aaf… (all of the seat's roots in one cut). By AI agents, Wed Nov 11 2026. No macro, syntax, notation, axiom, sorry.
-/
import Derived.Test.YtnanlaefehaifaaGreatChecked
import GoSem.Claim
import GoSem.ClaimJoined
import GoSem.ClaimMapViews
import Derived.JoinedTies
import Derived.KernelRfl
namespace Go.Proofs.YtnanlaefehaifaaGreat
/- THE CELL 'sum', in the pinned program and in every row, IS THE sha256 OF THE DUMP (.gsa) THAT YtnanlaefehaifaaGreatProg.lean LOADS. Nothing in Lean hashes anything: it is a label: what it is worth is what the hold of that sum in a sandbox is worth. -/
noncomputable def Tryz.pinned : Pinned := { name := "ytnanlaefehaifaagreat", sum := "075a0a68a0c75aafdc9b5c4362ff837eaaa5ece56af3035868e573c52487deaf", checked := Tryz.checked }
namespace Rows
def none {H : Type} : Left H := { results := [], args := [] }

/-- 'moneyerlaw29.RedoScans': WHATEVER THE INPUT: true; the input reads as it did. -/
def redoScansSpec : ChangeSpec := { name := "redoScans", fn := fun _ => fun
  | [d1, d2] => { results := [.lit (.bool true)], args := [d1, d2] }
  | _ => none }
def redoScansRow : OpenClaim := { program := "ytnanlaefehaifaagreat", sum := "075a0a68a0c75aafdc9b5c4362ff837eaaa5ece56af3035868e573c52487deaf", func := "moneyer/moneyerlaw29.RedoScans", spec := "redoScans", unfollowed := true, recurses := true, plainKeys := false, apart := false }
def RedoScansSaid : Prop := redoScansRow.holds Tryz.pinned (OpenSpec.ofChange redoScansSpec)

/-- ITS FALSE NEIGHBOUR: 'it returns false'. Refute it at one input. -/
def redoScansWrong : ChangeSpec := { name := "redoScans", fn := fun _ => fun
  | [d1, d2] => { results := [.lit (.bool false)], args := [d1, d2] }
  | _ => none }
def RedoScansWrongFalsely : Prop := redoScansRow.holds Tryz.pinned (OpenSpec.ofChange redoScansWrong)

/-- 'moneyerlaw38.AuditTells': WHATEVER THE INPUT: true; the input reads as it did. -/
def auditTellsSpec : ChangeSpec := { name := "auditTells", fn := fun _ => fun
  | [d1, d2, d3] => { results := [.lit (.bool true)], args := [d1, d2, d3] }
  | _ => none }
def auditTellsRow : OpenClaim := { program := "ytnanlaefehaifaagreat", sum := "075a0a68a0c75aafdc9b5c4362ff837eaaa5ece56af3035868e573c52487deaf", func := "moneyer/moneyerlaw38.AuditTells", spec := "auditTells", unfollowed := true, recurses := true, plainKeys := false, apart := false }
def AuditTellsSaid : Prop := auditTellsRow.holds Tryz.pinned (OpenSpec.ofChange auditTellsSpec)

/-- ITS FALSE NEIGHBOUR: 'it returns false'. Refute it at one input. -/
def auditTellsWrong : ChangeSpec := { name := "auditTells", fn := fun _ => fun
  | [d1, d2, d3] => { results := [.lit (.bool false)], args := [d1, d2, d3] }
  | _ => none }
def AuditTellsWrongFalsely : Prop := auditTellsRow.holds Tryz.pinned (OpenSpec.ofChange auditTellsWrong)

/-- 'moneyerlaw25.BaseOpens': WHATEVER THE INPUT: true; the input reads as it did. -/
def baseOpensSpec : ChangeSpec := { name := "baseOpens", fn := fun _ => fun
  | [d1, d2, d3, d4] => { results := [.lit (.bool true)], args := [d1, d2, d3, d4] }
  | _ => none }
def baseOpensRow : OpenClaim := { program := "ytnanlaefehaifaagreat", sum := "075a0a68a0c75aafdc9b5c4362ff837eaaa5ece56af3035868e573c52487deaf", func := "moneyer/moneyerlaw25.BaseOpens", spec := "baseOpens", unfollowed := true, recurses := true, plainKeys := false, apart := false }
def BaseOpensSaid : Prop := baseOpensRow.holds Tryz.pinned (OpenSpec.ofChange baseOpensSpec)

/-- ITS FALSE NEIGHBOUR: 'it returns false'. Refute it at one input. -/
def baseOpensWrong : ChangeSpec := { name := "baseOpens", fn := fun _ => fun
  | [d1, d2, d3, d4] => { results := [.lit (.bool false)], args := [d1, d2, d3, d4] }
  | _ => none }
def BaseOpensWrongFalsely : Prop := baseOpensRow.holds Tryz.pinned (OpenSpec.ofChange baseOpensWrong)

/- THE SECOND FORM. 'bulk': how many values and letters a reading holds, each counted each time it is reached (what is shared counts as often as it is met; a slice's spare places count too). A statement '..UptoSaid' is the law's where the arguments, and the package variables that the reading takes, are together of bulk at most 1048576: NARROWER than '..Said'. Prove '..Said' where nothing that the law and all that it calls make is longer than what came in: it says more and counts as full. Else prove '..UptoSaid'. A law counts once. -/
mutual
def uptoBulk {H : Type} : DataW H → Nat
  | .lit (.string bytes) => bytes.length + 1
  | .lit _ => 1
  | .nil => 1
  | .ptr d => uptoBulk d + 1
  | .slice elems spare => uptoBulkAll elems + uptoBulkAll spare + 1
  | .agg parts => uptoBulkAll parts + 1
  | .iface _ d => uptoBulk d + 1
  | .map entries => uptoBulkEntries entries + 1
  | .held _ => 1
def uptoBulkAll {H : Type} : List (DataW H) → Nat
  | [] => 0
  | d :: r => uptoBulk d + uptoBulkAll r
def uptoBulkEntries {H : Type} : List (Lit × DataW H) → Nat
  | [] => 0
  | x :: r => uptoBulkEntry x + uptoBulkEntries r
def uptoBulkEntry {H : Type} : Lit × DataW H → Nat
  | (.string bytes, d) => bytes.length + uptoBulk d + 1
  | (_, d) => uptoBulk d + 1
 end
def uptoSmall : (H : Type) → List (DataW H) → Bool := fun _ ds => decide (uptoBulkAll ds ≤ 1048576)
def OpenSpec.upto (s : _root_.Go.ChangeSpec) : _root_.Go.OpenSpec := { _root_.Go.OpenSpec.ofChange s with cond := some uptoSmall }

/-- 'moneyerlaw29.RedoScans', WHERE WHAT IT READS IS OF BULK AT MOST 1048576: true; the input reads as it did. -/
def redoScansUptoRow : OpenClaim := { program := "ytnanlaefehaifaagreat", sum := "075a0a68a0c75aafdc9b5c4362ff837eaaa5ece56af3035868e573c52487deaf", func := "moneyer/moneyerlaw29.RedoScans", spec := "redoScans", unfollowed := true, recurses := true, plainKeys := false, apart := false, narrowed := true }
def RedoScansUptoSaid : Prop := redoScansUptoRow.holds Tryz.pinned (OpenSpec.upto redoScansSpec)

/-- 'moneyerlaw38.AuditTells', WHERE WHAT IT READS IS OF BULK AT MOST 1048576: true; the input reads as it did. -/
def auditTellsUptoRow : OpenClaim := { program := "ytnanlaefehaifaagreat", sum := "075a0a68a0c75aafdc9b5c4362ff837eaaa5ece56af3035868e573c52487deaf", func := "moneyer/moneyerlaw38.AuditTells", spec := "auditTells", unfollowed := true, recurses := true, plainKeys := false, apart := false, narrowed := true }
def AuditTellsUptoSaid : Prop := auditTellsUptoRow.holds Tryz.pinned (OpenSpec.upto auditTellsSpec)

/-- 'moneyerlaw25.BaseOpens', WHERE WHAT IT READS IS OF BULK AT MOST 1048576: true; the input reads as it did. -/
def baseOpensUptoRow : OpenClaim := { program := "ytnanlaefehaifaagreat", sum := "075a0a68a0c75aafdc9b5c4362ff837eaaa5ece56af3035868e573c52487deaf", func := "moneyer/moneyerlaw25.BaseOpens", spec := "baseOpens", unfollowed := true, recurses := true, plainKeys := false, apart := false, narrowed := true }
def BaseOpensUptoSaid : Prop := baseOpensUptoRow.holds Tryz.pinned (OpenSpec.upto baseOpensSpec)

end Rows
end Go.Proofs.YtnanlaefehaifaaGreat
