/-
  WALKS: modes.Of, is, Compat, Commute; moneyerref10.Of, Compat, Commute. Both Commutes answer 'commute'.
-/
import Derived.Test.YteidmdnhkgcnoaaGreatProg
import Derived.Test.YteidmdnhkgcnoaaGreatMem
import Derived.Deep.QuietTactic
import Derived.BigQuiet
import Derived.Deep.RegionHeld3
namespace Go.Proofs.YteidmdnhkgcnoaaGreat
open Go.RowKit

def modeOf (x : Int) : Int := if x = 0 then 0 else if x = 1 ∨ x = 2 ∨ x = 3 then 1 else if x = 4 then 2 else if x = 5 then 3 else -1
theorem modeOf_in {x : Int} (h0 : 0 ≤ x) (h5 : x ≤ 5) : 0 ≤ modeOf x ∧ modeOf x ≤ 3 := by unfold modeOf; (repeat' split) <;> omega
theorem modeOf_out {x : Int} (h : ¬ (0 ≤ x ∧ x ≤ 5)) : modeOf x = -1 := by unfold modeOf; (repeat' split) <;> omega
def compat (a b : Int) : Bool := (a == 0 && b == 0) || ((a == 2 || a == 3) && (b == 2 || b == 3))
def inRange (x : Int) : Bool := decide (0 ≤ x ∧ x ≤ 5)
def commute (a b : OpD) : Bool := inRange a.act && inRange b.act && (!(a.key.toList == b.key.toList) || compat (modeOf a.act) (modeOf b.act))

def isM (x : Int) : Bool := decide (0 ≤ x ∧ x ≤ 3)
theorem isM_yes {x : Int} (h0 : 0 ≤ x) (h3 : x ≤ 3) : isM x = true := decide_eq_true ⟨h0, h3⟩
end Go.Proofs.YteidmdnhkgcnoaaGreat
