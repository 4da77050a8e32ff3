/-
  THE LAW's WALK: moneyerlaw34.SerialOrders returns true, whatever it is given.
-/
import Derived.Test.YtkbopbnkleojdaaDoorWJ
import Derived.Test.YtkbopbnkleojdaaDoorWE
import Derived.Test.YtkbopbnkleojdaaDoorWD
import Derived.Deep.RegionWith
namespace Go.Proofs.YtkbopbnkleojdaaDoor
open Go.RowKit

theorem much_len {xs : List DidV} (h : much xs = false) : xs.length ≤ 40 ∧ ∀ x ∈ xs, x.d.op.data.length ≤ 1000000 ∧ x.d.cell.data.length ≤ 1000000 := by
  unfold much at h
  simp only [Bool.or_eq_false_iff, decide_eq_false_iff_not] at h
  obtain ⟨h1, h2⟩ := h
  refine ⟨by omega, fun x hx => ?_⟩
  rw [List.take_of_length_le (by omega), List.any_eq_false] at h1
  have := h1 x hx
  unfold muchOp at this
  simp at this
  omega
theorem rank_map {zs : List Int} {xs ys : List DidV} (h : xs.map DidV.d = ys.map DidV.d) : xs.map (rank zs) = ys.map (rank zs) := by
  have e : ∀ l : List DidV, l.map (rank zs) = (l.map DidV.d).map (fun d => plc zs d.txn) := fun l => by simp [rank, Function.comp_def]
  rw [e, e, h]

set_option maxHeartbeats 3200000 in
set_option maxRecDepth 100000 in
theorem SerialOrders_true (A O : Option Addr) (n c m d : Nat) (xs : List DidV) (zs : List Int) (w : World) (hn : n ≤ 9223372036854775807) (hm : m ≤ 9223372036854775807) (hnc : n ≤ c) (h : Dids w w.heap.size A n xs) (ho : Ints w w.heap.size O m zs) (hwx : ∀ x ∈ xs, wfI x.d.txn) (hwz : ∀ z ∈ zs, wfI z) (ht : Tab w) (hg : 0 < w.heap.size) :
    Calls Tryd.prog 3 #[.slice A n c, .slice O m d] w fun e w' => e = .returned (.bool true) ∧ Below w.heap.size w w' := by
  have hmu := Much_any A n c xs w.heap.size w (Nat.le_refl _) hn h
  have HL := hide h.1
  cases hmuch : much xs
  · rw [hmuch] at hmu
    have HMU := hide hmu
    obtain ⟨hl40, hlen⟩ := much_len hmuch
    clear hmu hmuch
    by_cases h20 : (20 : Int) < m
    · go_enter Tryd.func3, Tryd.ntmps3
      go_wp2_with (first
        | (go_at_call 5; refine HMU.out.mono ?_; rintro e w1 ⟨rfl, hb1⟩)
        | (go_at_call 6; refine (live_true _ (ht.below hb1 hg) (by have := hb1.size; omega)).mono ?_; rintro e w2 ⟨rfl, hb2⟩))
      go_ret
      exact ⟨rfl, below_via hb1 hb2 hb1.size⟩
    · have hn' : n ≤ 40 := by have := HL.out; omega
      go_enter Tryd.func3, Tryd.ntmps3
      go_wp2_with (go_at_call 5; refine HMU.out.mono ?_; rintro e w1 ⟨rfl, hb1⟩)
      have hz1 := hb1.size
      have hD1 := h.below hb1 (Nat.le_refl _)
      have hO1 := ho.below hb1 (Nat.le_refl _)
      refine (sOrder_any A O n c m d xs zs w.heap.size w1 hz1 (by omega) (by omega) hnc hD1 hO1 hwx hwz hlen (ht.below hb1 hg) hg).mono ?_
      rintro e w2 ⟨hb2, hp2⟩
      have hb02 := below_via hb1 hb2 hz1
      have hD2 := h.below hb02 (Nat.le_refl _)
      have hO2 := ho.below hb02 (Nat.le_refl _)
      have hz2 := hb02.size
      have hro := rOrder_any A O n c m d xs zs w.heap.size w2 hz2 (by omega) (by omega) hnc hD2 hO2
      have HRO := hide hro
      clear hro
      rcases hp2 with ⟨hex, rfl⟩ | ⟨hall, ⟨hnone, rfl⟩ | ⟨ys, ys', A1, c1, hys, hyd, hinv, rfl, hDy⟩⟩
      · have HEX := hide hex
        clear hex
        go_wp2_with fail
        refine HRO.out.mono ?_
        rintro e w3 ⟨hb3, ⟨hex', rfl⟩ | ⟨hall', _⟩⟩
        · have hb03 := below_via hb02 hb3 hz2
          have hz3 := hb03.size
          have hs := SameDid_true none none 0 0 0 [] [] w3.heap.size w3 (Nat.le_refl _) (by omega) ⟨rfl, Reads.none_, fun x hx => by cases hx⟩ ⟨rfl, Reads.none_, fun x hx => by cases hx⟩ rfl
          have HS := hide hs
          clear hs
          go_wp2_with (first
            | (go_at_call 9; refine HS.out.mono ?_; rintro e w4 ⟨rfl, hb4⟩; have hb04 := below_via hb03 hb4 hz3)
            | (go_at_call 10; refine (code_any _ _).mono ?_; rintro e w' ⟨rfl, rfl⟩)
            | (go_at_call 6; refine (live_true _ (ht.below hb04 hg) (by have := hb04.size; omega)).mono ?_; rintro e w5 ⟨rfl, hb5⟩))
          go_ret
          exact ⟨rfl, below_via hb04 hb5 hb04.size⟩
        · obtain ⟨x, hx, hneg⟩ := HEX.out
          have := hall' x hx
          omega
      · have HNONE := hide hnone
        clear hnone
        go_wp2_with fail
        refine HRO.out.mono ?_
        rintro e w3 ⟨hb3, ⟨⟨x, hx, hneg⟩, _⟩ | ⟨_, ⟨_, rfl⟩ | ⟨ys, ys', A1, c1, hys, _⟩⟩⟩
        · have := hall x hx
          omega
        · have hb03 := below_via hb02 hb3 hz2
          have hz3 := hb03.size
          have hs := SameDid_true none none 0 0 0 [] [] w3.heap.size w3 (Nat.le_refl _) (by omega) ⟨rfl, Reads.none_, fun x hx => by cases hx⟩ ⟨rfl, Reads.none_, fun x hx => by cases hx⟩ rfl
          have HS := hide hs
          clear hs
          go_wp2_with (first
            | (go_at_call 9; refine HS.out.mono ?_; rintro e w4 ⟨rfl, hb4⟩; have hb04 := below_via hb03 hb4 hz3)
            | (go_at_call 10; refine (code_any _ _).mono ?_; rintro e w' ⟨rfl, rfl⟩)
            | (go_at_call 6; refine (live_true _ (ht.below hb04 hg) (by have := hb04.size; omega)).mono ?_; rintro e w5 ⟨rfl, hb5⟩))
          go_ret
          exact ⟨rfl, below_via hb04 hb5 hb04.size⟩
        · rw [HNONE.out] at hys
          cases hys
      · have HYS := hide hys
        have HYD := hide hyd
        have HINV := hide hinv
        have HALL := hide hall
        clear hys hyd hinv hall
        have hib : invs (xs.map (rank zs)) ≤ 1600 := by
          have h1 := invs_le (xs.map (rank zs))
          have h2 : (xs.map (rank zs)).length ≤ 40 := by simpa using hl40
          have h3 := Nat.mul_le_mul h2 h2
          omega
        go_wp2_with fail
        refine HRO.out.mono ?_
        rintro e w3 ⟨hb3, ⟨⟨x, hx, hneg⟩, _⟩ | ⟨_, ⟨hnone, _⟩ | ⟨zs1, zs2, A2, c2, hzs, hzd, hinv2, rfl, hDz⟩⟩⟩
        · have := HALL.out x hx
          omega
        · rw [HYS.out] at hnone
          cases hnone
        · have hyz : zs1 = ys := by rw [HYS.out] at hzs; injection hzs with hzs; exact hzs.symm
          have hb03 := below_via hb02 hb3 hz2
          have hz3 := hb03.size
          have hDy3 : Dids w3 w3.heap.size A1 n ys' := (hDy.below hb3 (Nat.le_refl _)).more hb3.size
          have hs := SameDid_true A1 A2 n c1 c2 ys' zs2 w3.heap.size w3 (Nat.le_refl _) (by omega) hDy3 hDz (by rw [HYD.out, hzd, hyz])
          have HS := hide hs
          have hr0 : invs (ys'.map (rank zs)) = 0 := by rw [rank_map HYD.out]; exact HINV.out
          have htu := fun W (hb : Below w.heap.size w W) => turned_any A O n c m d xs zs w.heap.size W (by omega) (by omega) (h.below hb (Nat.le_refl _)) (ho.below hb (Nat.le_refl _))
          have htu2 := fun W (hb : Below w3.heap.size w3 W) => turned_any A1 O n c1 m d ys' zs w3.heap.size W (by omega) (by omega) (hDy3.below hb (Nat.le_refl _)) ((ho.below (below_via hb03 hb hz3) (Nat.le_refl _)).more hz3)
          rw [hr0] at htu2
          have HTU := hide htu
          have HTU2 := hide htu2
          clear hs hzs hzd hinv2 hyz htu htu2 hr0 hDy hDz hDy3
          generalize invs (xs.map (rank zs)) = iv at *
          go_wp2_with (first
            | (go_at_call 9; refine HS.out.mono ?_; rintro e w4 ⟨rfl, hb4⟩; have hb04 := below_via hb03 hb4 hz3)
            | (go_at_call 10; refine (code_any _ _).mono ?_; rintro e w' ⟨rfl, rfl⟩)
            | (go_at_call_of 11 (Value.slice A n c); refine (HTU.out _ hb04).mono ?_; rintro e w5 ⟨rfl, hq5⟩; have hb5 : Below w3.heap.size w3 w5 := (by obtain ⟨q, rfl⟩ := hq5; exact below_drewN hb4 q); have hb05 := below_via hb03 hb5 hz3)
            | (go_at_call 11; refine (HTU2.out _ hb5).mono ?_; rintro e w6 ⟨rfl, hq6⟩; have hb06 : Below w.heap.size w w6 := (by obtain ⟨q, rfl⟩ := hq6; exact below_drewN hb05 q))
            | (go_at_call 6; refine (live_true _ (ht.below hb06 hg) (by have := hb06.size; omega)).mono ?_; rintro e w7 ⟨rfl, hb7⟩))
          go_ret
          exact ⟨rfl, below_via hb06 hb7 hb06.size⟩
  · rw [hmuch] at hmu
    have HMU := hide hmu
    clear hmu hmuch
    go_enter Tryd.func3, Tryd.ntmps3
    go_wp2_with (first
      | (go_at_call 5; refine HMU.out.mono ?_; rintro e w1 ⟨rfl, hb1⟩)
      | (go_at_call 6; refine (live_true _ (ht.below hb1 hg) (by have := hb1.size; omega)).mono ?_; rintro e w2 ⟨rfl, hb2⟩))
    go_ret
    exact ⟨rfl, below_via hb1 hb2 hb1.size⟩
end Go.Proofs.YtkbopbnkleojdaaDoor
