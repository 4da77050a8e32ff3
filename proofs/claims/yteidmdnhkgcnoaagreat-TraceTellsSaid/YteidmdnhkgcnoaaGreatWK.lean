/-
  THE LAW's WALK: moneyerlaw34.SerialOrders returns true, whatever it is given.
-/
import Derived.Test.YteidmdnhkgcnoaaGreatWJ
import Derived.Test.YteidmdnhkgcnoaaGreatWE
import Derived.Test.YteidmdnhkgcnoaaGreatWD
import Derived.Deep.RegionWith
namespace Go.Proofs.YteidmdnhkgcnoaaGreat
open Go.RowKit

theorem much_len {xs : List DidV} (h : much xs = false) : xs.length ≤ 40 ∧ ∀ x ∈ xs, x.d.op.data.length ≤ 1000000 ∧ x.d.cell.data.length ≤ 1000000 := by
  unfold much at h
  simp only [Bool.or_eq_false_iff, decide_eq_false_iff_not] at h
  obtain ⟨h1, h2⟩ := h
  refine ⟨by omega, fun x hx => ?_⟩
  rw [List.take_of_length_le (by omega), List.any_eq_false] at h1
  have := h1 x hx
  unfold muchOp at this
  simp at this
  omega
theorem rank_map {zs : List Int} {xs ys : List DidV} (h : xs.map DidV.d = ys.map DidV.d) : xs.map (rank zs) = ys.map (rank zs) := by
  have e : ∀ l : List DidV, l.map (rank zs) = (l.map DidV.d).map (fun d => plc zs d.txn) := fun l => by simp [rank, Function.comp_def]
  rw [e, e, h]

end Go.Proofs.YteidmdnhkgcnoaaGreat
