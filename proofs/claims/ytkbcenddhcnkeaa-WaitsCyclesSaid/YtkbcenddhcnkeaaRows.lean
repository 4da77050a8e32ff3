/-
  No cell of these rows narrows 'for every input' (looked for: loops, veiled, ifaces, maps, wideKeys, modest, calm, conditions, laid).
  DERIVED. THE GIVEN ROWS OF THIS SEAT. 3 by the template 'for every input the law returns true; each argument reads behind the call as it read before'; 0 by the template 'total and deterministic' (their statements: YtkbcenddhcnkeaaTotals.lean).
  GIVEN WITH THE SEED: the statements are not yours to turn. If you find one false, say at which input.
  Laid BY PROGRAM, IN A SANDBOX (cutbox-rows.mjs): the forced cells as the released guide's own fill.sh prints them over the translation f2fc3e2b01cfeaf9… (all of the seat's roots in one cut). By AI agents, Wed Nov 11 2026. No macro, syntax, notation, axiom, sorry.
-/
import Derived.Test.YtkbcenddhcnkeaaChecked
import GoSem.Claim
import GoSem.ClaimJoined
import GoSem.ClaimMapViews
import Derived.JoinedTies
import Derived.KernelRfl
namespace Go.Proofs.Ytkbcenddhcnkeaa
/- THE CELL 'sum', in the pinned program and in every row, IS THE sha256 OF THE DUMP (.gsa) THAT YtkbcenddhcnkeaaProg.lean LOADS. Nothing in Lean hashes anything: it is a label: what it is worth is what the hold of that sum in a sandbox is worth. -/
noncomputable def Try.pinned : Pinned := { name := "ytkbcenddhcnkeaa", sum := "f2fc3e2b01cfeaf9f187e51fc34a9ae32ebea392868a7accfa0d7b6cb0ce25df", checked := Try.checked }
namespace Rows
def none {H : Type} : Left H := { results := [], args := [] }

/-- 'moneyerlaw14.WaitsCycles': WHATEVER THE INPUT: true; the input reads as it did. -/
def waitsCyclesSpec : ChangeSpec := { name := "waitsCycles", fn := fun _ => fun
  | [d1, d2] => { results := [.lit (.bool true)], args := [d1, d2] }
  | _ => none }
def waitsCyclesRow : OpenClaim := { program := "ytkbcenddhcnkeaa", sum := "f2fc3e2b01cfeaf9f187e51fc34a9ae32ebea392868a7accfa0d7b6cb0ce25df", func := "moneyer/moneyerlaw14.WaitsCycles", spec := "waitsCycles", unfollowed := true, recurses := true, apart := false }
def WaitsCyclesSaid : Prop := waitsCyclesRow.holds Try.pinned (OpenSpec.ofChange waitsCyclesSpec)

/-- ITS FALSE NEIGHBOUR: 'it returns false'. Refute it at one input. -/
def waitsCyclesWrong : ChangeSpec := { name := "waitsCycles", fn := fun _ => fun
  | [d1, d2] => { results := [.lit (.bool false)], args := [d1, d2] }
  | _ => none }
def WaitsCyclesWrongFalsely : Prop := waitsCyclesRow.holds Try.pinned (OpenSpec.ofChange waitsCyclesWrong)

/-- 'moneyerlaw14.WaitsVictims': WHATEVER THE INPUT: true; the input reads as it did. -/
def waitsVictimsSpec : ChangeSpec := { name := "waitsVictims", fn := fun _ => fun
  | [d1, d2] => { results := [.lit (.bool true)], args := [d1, d2] }
  | _ => none }
def waitsVictimsRow : OpenClaim := { program := "ytkbcenddhcnkeaa", sum := "f2fc3e2b01cfeaf9f187e51fc34a9ae32ebea392868a7accfa0d7b6cb0ce25df", func := "moneyer/moneyerlaw14.WaitsVictims", spec := "waitsVictims", unfollowed := true, recurses := true, apart := false }
def WaitsVictimsSaid : Prop := waitsVictimsRow.holds Try.pinned (OpenSpec.ofChange waitsVictimsSpec)

/-- ITS FALSE NEIGHBOUR: 'it returns false'. Refute it at one input. -/
def waitsVictimsWrong : ChangeSpec := { name := "waitsVictims", fn := fun _ => fun
  | [d1, d2] => { results := [.lit (.bool false)], args := [d1, d2] }
  | _ => none }
def WaitsVictimsWrongFalsely : Prop := waitsVictimsRow.holds Try.pinned (OpenSpec.ofChange waitsVictimsWrong)

/-- 'moneyerlaw14.WaitsLooks': WHATEVER THE INPUT: true; the input reads as it did. -/
def waitsLooksSpec : ChangeSpec := { name := "waitsLooks", fn := fun _ => fun
  | [d1, d2] => { results := [.lit (.bool true)], args := [d1, d2] }
  | _ => none }
def waitsLooksRow : OpenClaim := { program := "ytkbcenddhcnkeaa", sum := "f2fc3e2b01cfeaf9f187e51fc34a9ae32ebea392868a7accfa0d7b6cb0ce25df", func := "moneyer/moneyerlaw14.WaitsLooks", spec := "waitsLooks", unfollowed := true, recurses := true, apart := false }
def WaitsLooksSaid : Prop := waitsLooksRow.holds Try.pinned (OpenSpec.ofChange waitsLooksSpec)

/-- ITS FALSE NEIGHBOUR: 'it returns false'. Refute it at one input. -/
def waitsLooksWrong : ChangeSpec := { name := "waitsLooks", fn := fun _ => fun
  | [d1, d2] => { results := [.lit (.bool false)], args := [d1, d2] }
  | _ => none }
def WaitsLooksWrongFalsely : Prop := waitsLooksRow.holds Try.pinned (OpenSpec.ofChange waitsLooksWrong)

/- THE SECOND FORM. 'bulk': how many values and letters a reading holds, each counted each time it is reached (what is shared counts as often as it is met; a slice's spare places count too). A statement '..UptoSaid' is the law's where the arguments, and the package variables that the reading takes, are together of bulk at most 1048576: NARROWER than '..Said'. Prove '..Said' where nothing that the law and all that it calls make is longer than what came in: it says more and counts as full. Else prove '..UptoSaid'. A law counts once. -/
mutual
def uptoBulk {H : Type} : DataW H → Nat
  | .lit (.string bytes) => bytes.length + 1
  | .lit _ => 1
  | .nil => 1
  | .ptr d => uptoBulk d + 1
  | .slice elems spare => uptoBulkAll elems + uptoBulkAll spare + 1
  | .agg parts => uptoBulkAll parts + 1
  | .iface _ d => uptoBulk d + 1
  | .map entries => uptoBulkEntries entries + 1
  | .held _ => 1
def uptoBulkAll {H : Type} : List (DataW H) → Nat
  | [] => 0
  | d :: r => uptoBulk d + uptoBulkAll r
def uptoBulkEntries {H : Type} : List (Lit × DataW H) → Nat
  | [] => 0
  | x :: r => uptoBulkEntry x + uptoBulkEntries r
def uptoBulkEntry {H : Type} : Lit × DataW H → Nat
  | (.string bytes, d) => bytes.length + uptoBulk d + 1
  | (_, d) => uptoBulk d + 1
 end
def uptoSmall : (H : Type) → List (DataW H) → Bool := fun _ ds => decide (uptoBulkAll ds ≤ 1048576)
def OpenSpec.upto (s : _root_.Go.ChangeSpec) : _root_.Go.OpenSpec := { _root_.Go.OpenSpec.ofChange s with cond := some uptoSmall }

/-- 'moneyerlaw14.WaitsCycles', WHERE WHAT IT READS IS OF BULK AT MOST 1048576: true; the input reads as it did. -/
def waitsCyclesUptoRow : OpenClaim := { program := "ytkbcenddhcnkeaa", sum := "f2fc3e2b01cfeaf9f187e51fc34a9ae32ebea392868a7accfa0d7b6cb0ce25df", func := "moneyer/moneyerlaw14.WaitsCycles", spec := "waitsCycles", unfollowed := true, recurses := true, apart := false, narrowed := true }
def WaitsCyclesUptoSaid : Prop := waitsCyclesUptoRow.holds Try.pinned (OpenSpec.upto waitsCyclesSpec)

/-- 'moneyerlaw14.WaitsVictims', WHERE WHAT IT READS IS OF BULK AT MOST 1048576: true; the input reads as it did. -/
def waitsVictimsUptoRow : OpenClaim := { program := "ytkbcenddhcnkeaa", sum := "f2fc3e2b01cfeaf9f187e51fc34a9ae32ebea392868a7accfa0d7b6cb0ce25df", func := "moneyer/moneyerlaw14.WaitsVictims", spec := "waitsVictims", unfollowed := true, recurses := true, apart := false, narrowed := true }
def WaitsVictimsUptoSaid : Prop := waitsVictimsUptoRow.holds Try.pinned (OpenSpec.upto waitsVictimsSpec)

/-- 'moneyerlaw14.WaitsLooks', WHERE WHAT IT READS IS OF BULK AT MOST 1048576: true; the input reads as it did. -/
def waitsLooksUptoRow : OpenClaim := { program := "ytkbcenddhcnkeaa", sum := "f2fc3e2b01cfeaf9f187e51fc34a9ae32ebea392868a7accfa0d7b6cb0ce25df", func := "moneyer/moneyerlaw14.WaitsLooks", spec := "waitsLooks", unfollowed := true, recurses := true, apart := false, narrowed := true }
def WaitsLooksUptoSaid : Prop := waitsLooksUptoRow.holds Try.pinned (OpenSpec.upto waitsLooksSpec)

end Rows
end Go.Proofs.Ytkbcenddhcnkeaa
