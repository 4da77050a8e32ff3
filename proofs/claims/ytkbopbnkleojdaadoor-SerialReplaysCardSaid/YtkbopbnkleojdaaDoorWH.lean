/-
  WALK: serial.Order$1 (the closure 'wrong').
-/
import Derived.Test.YtkbopbnkleojdaaDoorWA
import Derived.Deep.QuietTactic
import Derived.BigQuiet
namespace Go.Proofs.YtkbopbnkleojdaaDoor
open Go.RowKit

set_option maxHeartbeats 800000 in
/-- The closure: do the two at i and i + 1 stand the wrong way round? -/
theorem wrongC_any (n i a a' : Nat) (r r' : Int) (gR gB gA gX : Nat) (w : World) (hn : n ≤ 10000) (hi : i + 1 < n) (ha : a < n) (ha' : a' < n)
    (kR : w.cell? ⟨gB, 0, none⟩ = some (.slice (some ⟨gR, 0, none⟩) n n)) (kA : w.cell? ⟨gX, 0, none⟩ = some (.slice (some ⟨gA, 0, none⟩) n n))
    (c0 : w.cell? ⟨gA, i, none⟩ = some (.int .i64 a)) (c1 : w.cell? ⟨gA, i + 1, none⟩ = some (.int .i64 a'))
    (d0 : w.cell? ⟨gR, a, none⟩ = some (.int .i64 r)) (d1 : w.cell? ⟨gR, a', none⟩ = some (.int .i64 r')) :
    Calls Tryd.prog 19 #[.int .i64 i, .pointer (some ⟨gB, 0, none⟩), .pointer (some ⟨gX, 0, none⟩)] w fun e w' => e = .returned (.bool (decide (r' < r))) ∧ ∃ q, w' = w.drewN q := by
  have s1 : IntKind.i64.wrap ((i : Int) + 1) = (i : Int) + 1 := IntWalk.i64_in _ (by omega)
  have s2 : (0 : Int) ≤ (i : Int) + 1 := by omega
  have s3 : ((i : Int) + 1).toNat = i + 1 := by omega
  have s4 : (i : Int) < n := by omega
  have s5 : (i : Int) + 1 < n := by omega
  have s6 : (a : Int) < n := by omega
  have s7 : (a' : Int) < n := by omega
  go_enter Tryd.func19, Tryd.ntmps19
  go_wp2
  go_quiet (fail)
  go_wp2
  go_ret
  exact ⟨rfl, _, rfl⟩
end Go.Proofs.YtkbopbnkleojdaaDoor
