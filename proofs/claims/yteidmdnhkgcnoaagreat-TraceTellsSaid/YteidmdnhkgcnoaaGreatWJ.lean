/-
  WALKS: moneyerlaw34.code, live.
-/
import Derived.Test.YteidmdnhkgcnoaaGreatWI
namespace Go.Proofs.YteidmdnhkgcnoaaGreat
open Go.RowKit
/-- The page's example. -/
def incA : OpD := ⟨4, ⟨#[97]⟩, [], 0, 0, 1⟩
def did0 (t : Int) : DidV := ⟨⟨t, incA, 0, ⟨0, [], 0, 0, 0⟩⟩, .slice none 0 0, .slice none 0 0⟩
theorem bytes_nil (w : World) (B : Nat) : BytesAt w B (.slice none 0 0) [] := ⟨none, 0, 0, rfl, Nat.le_refl _, Nat.zero_le _, rfl, fun _ => rfl, Reads.none_⟩
theorem live_invs : invs ([did0 2, did0 1].map (rank [1, 2])) = 1 := by rfl
theorem live_com : comV (did0 2) (did0 1) = true := by
  have h : compat (modeOf incA.act) (modeOf incA.act) = true := by decide
  have h2 : inRange incA.act = true := by decide
  unfold comV commute
  show (inRange incA.act && inRange incA.act && (!(incA.key.toList == incA.key.toList) || compat (modeOf incA.act) (modeOf incA.act))) = true
  rw [h, h2]
  simp
theorem live_ord : ord comV (rank [1, 2]) (invs ([did0 2, did0 1].map (rank [1, 2]))) [did0 2, did0 1] = some [did0 1, did0 2] := by
  rw [live_invs, ord_step comV (rank [1, 2]) (i := 0) (a := did0 2) (b := did0 1) (by rfl) rfl rfl live_com]
  rfl
end Go.Proofs.YteidmdnhkgcnoaaGreat
