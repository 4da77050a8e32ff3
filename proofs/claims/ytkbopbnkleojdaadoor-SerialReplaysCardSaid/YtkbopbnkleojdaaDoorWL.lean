/-
  THE LAW's WALK: moneyerlaw34.SerialReplays returns true, whatever it is given.
-/
import Derived.Test.YtkbopbnkleojdaaDoorWJ
import Derived.Test.YtkbopbnkleojdaaDoorWE
import Derived.Test.YtkbopbnkleojdaaDoorMA
import Derived.Test.YtkbopbnkleojdaaDoorMC
import Derived.Test.YtkbopbnkleojdaaDoorMJ
import Derived.Test.YtkbopbnkleojdaaDoorPQ
namespace Go.Proofs.YtkbopbnkleojdaaDoor
open Go.RowKit

theorem much_len' {xs : List DidV} (h : much xs = false) : xs.length ≤ 40 ∧ ∀ x ∈ xs, x.d.op.data.length ≤ 1000000 := by
  unfold much at h
  simp only [Bool.or_eq_false_iff, decide_eq_false_iff_not] at h
  obtain ⟨h1, h2⟩ := h
  refine ⟨by omega, fun x hx => ?_⟩
  rw [List.take_of_length_le (by omega), List.any_eq_false] at h1
  have := h1 x hx
  unfold muchOp at this
  simp at this
  omega
theorem muchS_len {xs : List PairV} (h : muchS xs = false) : xs.length ≤ 60 ∧ ∀ x ∈ xs, x.d.cell.data.length ≤ 1000000 := by
  unfold muchS at h
  simp only [Bool.or_eq_false_iff, decide_eq_false_iff_not] at h
  obtain ⟨h1, h2⟩ := h
  refine ⟨by omega, fun x hx => ?_⟩
  rw [List.take_of_length_le (by omega), List.any_eq_false] at h1
  have := h1 x hx
  simp at this
  omega

theorem replayD_len : ∀ (l : List DidD) (s : List PairD), (replayD s l).1.length ≤ s.length + l.length ∧ (replayD s l).2 ≤ l.length
  | [], s => by simp [replayD]
  | d :: l, s => by
    have h1 := stepD_length s d.op
    have h2 := replayD_len l (stepD s d.op).1
    unfold replayD
    split
    · simp only [List.length_cons]
      omega
    · simp

set_option maxHeartbeats 3200000 in
set_option maxRecDepth 100000 in
theorem SerialReplays_true (A D : Option Addr) (n c m d : Nat) (xs : List PairV) (ds : List DidV) (w : World) (hn : n ≤ 9223372036854775807) (hm : m ≤ 9223372036854775807) (hnc : n ≤ c) (h : Pairs w w.heap.size A n xs) (hD : Dids w w.heap.size D m ds) (hks : ∀ x ∈ xs, x.d.key.size ≤ 9223372036854775807) (hW : WfS (xs.map PairV.d)) (hO : ∀ x ∈ ds, OpWf x.d.op) (ht : Tab w) (hg : 0 < w.heap.size) :
    Calls Tryd.prog 4 #[.slice A n c, .slice D m d] w fun e w' => e = .returned (.bool true) ∧ Below w.heap.size w w' := by
  have HL := hide h.1
  have HLD := hide hD.1
  have hmu := Much_any D m d ds w.heap.size w (Nat.le_refl _) hm hD
  cases hmuch : much ds
  · rw [hmuch] at hmu
    have HMU := hide hmu
    obtain ⟨hl40, hlen⟩ := much_len' hmuch
    clear hmu hmuch
    have hms := fun W (hb : Below w.heap.size w W) => MuchState_any A n c xs w.heap.size W hn (h.below hb (Nat.le_refl _))
    cases hmuch : muchS xs
    · rw [hmuch] at hms
      have HMS := hide hms
      obtain ⟨hl60, hlen2⟩ := muchS_len hmuch
      clear hms hmuch
      have hn' : n ≤ 60 := by have := HL.out; omega
      have hm' : m ≤ 40 := by have := HLD.out; omega
      have HRI := hide (fun W (hb : Below w.heap.size w W) => mRight_any A n c xs w.heap.size W hb.size (by omega) (h.below hb (Nat.le_refl _)) hks)
      go_enter Tryd.func4, Tryd.ntmps4
      go_wp2_with (first
        | (go_at_call 5; refine HMU.out.mono ?_; rintro e w1 ⟨rfl, hb1⟩)
        | (go_at_call 12; refine (HMS.out _ hb1).mono ?_; rintro e w' ⟨rfl, rfl⟩))
      refine (HRI.out _ hb1).mono ?_
      rintro e w2 ⟨b, rfl, hr, hb2⟩
      have hb02 := below_via hb1 hb2 hb1.size
      cases b
      · go_wp2_with (go_at_call 6; refine (live_true _ (ht.below hb02 hg) (by have := hb02.size; omega)).mono ?_; rintro e w3 ⟨rfl, hb3⟩)
        go_ret
        exact ⟨rfl, below_via hb02 hb3 hb02.size⟩
      · have hR := hr rfl
        have HPR := hide (pReplay_any A n c xs D m d ds w.heap.size w2 hb02.size (by omega) (by omega) (h.below hb02 (Nat.le_refl _)) hlen2 (hD.below hb02 (Nat.le_refl _)) hR hW (fun x hx => ⟨hO x hx, hlen x hx⟩))
        have HRR := hide (fun W (hb : Below w.heap.size w W) => rReplay_any A n c xs D m d ds w.heap.size W hb.size (by omega) (by omega) hnc (h.below hb (Nat.le_refl _)) (hD.below hb (Nat.le_refl _)) hR hW hO)
        clear hr
        go_wp2_with fail
        refine HPR.out.mono ?_
        rintro e w3 ⟨A1, c1, ys, rfl, hy, hP1, hb3⟩
        have hb03 := below_via hb02 hb3 hb02.size
        have HY := hide hy
        clear hy
        have hlen3 := replayD_len (ds.map DidV.d) (xs.map PairV.d)
        have hyl : ys.length ≤ 100 := by
          have h1 := congrArg List.length HY.out
          have h2 := HL.out
          have h3 := HLD.out
          have h4 := hlen3.1
          simp only [List.length_map] at h1 h4
          omega
        have hnl : (replayD (xs.map PairV.d) (ds.map DidV.d)).2 ≤ 40 := by
          have h3 := HLD.out
          have h4 := hlen3.2
          simp only [List.length_map] at h4
          omega
        clear hlen3
        generalize hN : replayD (xs.map PairV.d) (ds.map DidV.d) = N at *
        obtain ⟨N1, N2⟩ := N
        dsimp only at *
        go_wp2_with fail
        refine (HRR.out _ hb03).mono ?_
        rintro e w4 ⟨A2, c2, zs, rfl, hz, hP2, hb4⟩
        rw [hN] at hz
        have hb04 := below_via hb03 hb4 hb03.size
        have hyz : ys.length = zs.length := by
          have h1 := congrArg List.length HY.out
          have h2 := congrArg List.length hz
          simp only [List.length_map] at h1 h2
          omega
        have hP1' := (hP1.below hb4 (Nat.le_refl _)).more hb4.size
        rw [← hyz] at hP2
        have HSA := hide (fun W (hb : Below w4.heap.size w4 W) => mSame_true A1 A2 ys.length c1 c2 ys zs w4.heap.size W hb.size (by omega) (hP1'.below hb (Nat.le_refl _)) (hP2.below hb (Nat.le_refl _)) (HY.out.trans hz.symm))
        simp only [hN, ← hyz]
        clear hN hz hP1 hP1' hP2 hyz HPR HRR
        go_wp2_with (first
          | (go_at_call 16; refine (HSA.out _ (Below.refl _ _)).mono ?_; rintro e w5 ⟨rfl, hb5⟩; have hb05 := below_via hb04 hb5 hb04.size)
          | (go_at_call 6; refine (live_true _ (ht.below hb05 hg) (by have := hb05.size; omega)).mono ?_; rintro e w6 ⟨rfl, hb6⟩))
        go_ret
        exact ⟨rfl, below_via hb05 hb6 hb05.size⟩
    · rw [hmuch] at hms
      have HMS := hide hms
      clear hms hmuch
      go_enter Tryd.func4, Tryd.ntmps4
      go_wp2_with (first
        | (go_at_call 5; refine HMU.out.mono ?_; rintro e w1 ⟨rfl, hb1⟩)
        | (go_at_call 12; refine (HMS.out _ hb1).mono ?_; rintro e w' ⟨rfl, rfl⟩)
        | (go_at_call 6; refine (live_true _ (ht.below hb1 hg) (by have := hb1.size; omega)).mono ?_; rintro e w2 ⟨rfl, hb2⟩))
      go_ret
      exact ⟨rfl, below_via hb1 hb2 hb1.size⟩
  · rw [hmuch] at hmu
    have HMU := hide hmu
    clear hmu hmuch
    go_enter Tryd.func4, Tryd.ntmps4
    go_wp2_with (first
      | (go_at_call 5; refine HMU.out.mono ?_; rintro e w1 ⟨rfl, hb1⟩)
      | (go_at_call 6; refine (live_true _ (ht.below hb1 hg) (by have := hb1.size; omega)).mono ?_; rintro e w2 ⟨rfl, hb2⟩))
    go_ret
    exact ⟨rfl, below_via hb1 hb2 hb1.size⟩
end Go.Proofs.YtkbopbnkleojdaaDoor
