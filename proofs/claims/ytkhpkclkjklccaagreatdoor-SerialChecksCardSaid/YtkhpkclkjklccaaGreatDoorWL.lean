/-
  THE LAW's WALK: moneyerlaw34.SerialReplays returns true, whatever it is given.
-/
import Derived.Test.YtkhpkclkjklccaaGreatDoorWJ
import Derived.Test.YtkhpkclkjklccaaGreatDoorWE
import Derived.Test.YtkhpkclkjklccaaGreatDoorMA
import Derived.Test.YtkhpkclkjklccaaGreatDoorMC
import Derived.Test.YtkhpkclkjklccaaGreatDoorMJ
import Derived.Test.YtkhpkclkjklccaaGreatDoorPQ
namespace Go.Proofs.YtkhpkclkjklccaaGreatDoor
open Go.RowKit

theorem much_len' {xs : List DidV} (h : much xs = false) : xs.length ≤ 40 ∧ ∀ x ∈ xs, x.d.op.data.length ≤ 1000000 := by
  unfold much at h
  simp only [Bool.or_eq_false_iff, decide_eq_false_iff_not] at h
  obtain ⟨h1, h2⟩ := h
  refine ⟨by omega, fun x hx => ?_⟩
  rw [List.take_of_length_le (by omega), List.any_eq_false] at h1
  have := h1 x hx
  unfold muchOp at this
  simp at this
  omega
theorem muchS_len {xs : List PairV} (h : muchS xs = false) : xs.length ≤ 60 ∧ ∀ x ∈ xs, x.d.cell.data.length ≤ 1000000 := by
  unfold muchS at h
  simp only [Bool.or_eq_false_iff, decide_eq_false_iff_not] at h
  obtain ⟨h1, h2⟩ := h
  refine ⟨by omega, fun x hx => ?_⟩
  rw [List.take_of_length_le (by omega), List.any_eq_false] at h1
  have := h1 x hx
  simp at this
  omega

theorem replayD_len : ∀ (l : List DidD) (s : List PairD), (replayD s l).1.length ≤ s.length + l.length ∧ (replayD s l).2 ≤ l.length
  | [], s => by simp [replayD]
  | d :: l, s => by
    have h1 := stepD_length s d.op
    have h2 := replayD_len l (stepD s d.op).1
    unfold replayD
    split
    · simp only [List.length_cons]
      omega
    · simp

end Go.Proofs.YtkhpkclkjklccaaGreatDoor
