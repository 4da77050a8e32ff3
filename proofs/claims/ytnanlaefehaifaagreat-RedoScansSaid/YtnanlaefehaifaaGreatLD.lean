/-
  WALKS OF THE REFERENCE: moneyerref08.Much, moneyerref18.Much; the law's 'code'.
-/
import Derived.Test.YtnanlaefehaifaaGreatRS
namespace Go.Proofs.YtnanlaefehaifaaGreat
open Go.RowKit

theorem code29_any (n : Int) (w : World) : Calls Tryz.prog 11 #[.int .i64 n] w fun e w' => e = .returned (.int .i64 n) ∧ w' = w := by
  go_enter Tryz.func11, Tryz.ntmps11
  go_wp2
  go_ret
  exact ⟨rfl, rfl⟩
/-- Is it much? Where it is not: ok. -/
def MuchP (w : World) (ok : Prop) (e : Ending) (w' : World) : Prop := ∃ b, e = .returned (.bool b) ∧ (b = false → ok) ∧ Below w.heap.size w w'
set_option maxRecDepth 100000 in
set_option maxHeartbeats 3200000 in
theorem muchR_any (v : Value) (rs : List RunV) (B : Nat) (w : World) (h : Runs w B v rs) :
    Calls Tryz.prog 46 #[v] w (MuchP w (rs.length ≤ 60 ∧ ∀ r ∈ rs, RunSm r)) := by
  have HSA := hide h.1
  have HD := hide h.2
  obtain ⟨A, c, hpv, hc, hm, hnil, _⟩ := h.1
  subst hpv
  obtain ⟨m, hm'⟩ : ∃ m, m = rs.length := ⟨_, rfl⟩
  have HML := hide hm'
  rw [← hm']
  clear h hm' hc hm hnil
  go_enter Tryz.func46, Tryz.ntmps46
  go_wp2
  go_loopw [3] (fun iv wr => ∃ k : Nat, k ≤ m ∧ k ≤ 100 ∧ iv = .int .i64 k ∧ Hid (∀ r ∈ rs.take k, RunSm r) ∧ wr = w) (fun iv _ => m - (intOf iv).toNat)
  case atStart => exact ⟨0, Nat.zero_le _, by omega, rfl, hide (by simp), rfl⟩
  case round =>
    obtain ⟨k, hk, hk100, rfl, hT, rfl⟩ := hrel
    by_cases hlt : (k : Int) < m
    rotate_left
    · have hke : k = m := by omega
      have HKE := hide hke
      clear hke
      go_wp2
      go_ret
      refine ⟨_, rfl, fun hb => ?_, Below.refl _ _⟩
      have h1 := HKE.out
      have h2 := HML.out
      have h3 : ¬ (60 : Int) < m := by simpa using hb
      refine ⟨by omega, fun r hr => hT.out r ?_⟩
      rw [List.take_of_length_le (by omega)]
      exact hr
    · have hkl : k < m := by omega
      by_cases h100 : (k : Int) < 100
      rotate_left
      · have HKE := hide (show 100 ≤ m by omega)
        clear hkl
        go_wp2
        go_ret
        refine ⟨_, rfl, fun hb => ?_, Below.refl _ _⟩
        have h1 := HKE.out
        have h3 : ¬ (60 : Int) < m := by simpa using hb
        omega
      · have hlt' : k < rs.length := by have := HML.out; omega
        obtain ⟨b, o, c', y, e0, hb, hx, _, _, hcell⟩ := SliceAt.at_ RunV.cells_length (by omega) HSA.out hlt'
        injection e0 with e1 e2 e3
        subst e1 e3
        obtain ⟨Ay, ny, cy, hy1, _, _, hy4, _⟩ := HD.out y (List.mem_of_getElem? hx)
        have c1 : wr.cell? ⟨b, o + k * 2 + 1, none⟩ = some (.slice Ay ny cy) := by rw [← hy1]; exact hcell 1 _ rfl
        have HX := hide hx
        have HY := hide hy4
        have u0 : (0 : Int) ≤ k := by omega
        have u1 : (k : Int) < m := by omega
        clear hx hcell hy1 hy4
        by_cases h6 : (600 : Int) < ny
        rotate_left
        · have HN := hide (show ∀ r ∈ rs.take (k + 1), RunSm r by
            obtain ⟨l1, e1⟩ := List.getElem?_eq_some_iff.1 HX.out
            rw [List.take_succ_eq_append_getElem l1, e1]
            intro r hr
            rcases List.mem_append.1 hr with hr | hr
            · exact hT.out r hr
            · obtain rfl : r = y := by simpa using hr
              have := HY.out
              unfold RunSm
              omega)
          have h101 : k + 1 ≤ 100 := by omega
          go_wp2
          go_roundw
          case rel => exact ⟨k + 1, by omega, h101, by go_num, HN, by trivial⟩
          case measure => simp [intOf]; omega
        · go_wp2
          go_ret
          exact ⟨true, rfl, fun h => (by cases h), Below.refl _ _⟩
set_option maxRecDepth 100000 in
set_option maxHeartbeats 6400000 in
theorem much_any (x : RecV) (B : Nat) (w : World) (hB : B ≤ w.heap.size) (ha : RecOk w B x) : Calls Tryz.prog 9 #[recV x] w (MuchP w (RecSm x)) := by
  obtain ⟨⟨hsa, hok⟩, hu⟩ := ha
  have HMR := hide (fun (p : PatV) W (hp : p ∈ x.pats) (hb : Below w.heap.size w W) => muchR_any p.rv p.runs B W ((hok p hp).below hb hB))
  have HFM := hide (fun (p : PatV) (hp : p ∈ x.pats) => (hok p hp).1.form)
  have HSA := hide hsa
  obtain ⟨Au, nu, cu, huv, _, _, hul, _⟩ := hu
  obtain ⟨A, c, hpv, hc, hm, hnil, _⟩ := hsa
  obtain ⟨kd, tx, pr, nx, ps, pv, un⟩ := x
  obtain ⟨yu1, yu2, yu3, yu4, ⟨d1, d2, d3, d4, d5⟩, yuv, yu7⟩ := un
  dsimp only at *
  subst hpv huv
  obtain ⟨m, hm'⟩ : ∃ m, m = ps.length := ⟨_, rfl⟩
  have HML := hide hm'
  have HUL := hide hul
  have HSM := hide (show (m ≤ 6 ∧ (∀ p ∈ ps, PatSm p) ∧ yu2.size ≤ 300 ∧ yu4.size ≤ 300 ∧ nu ≤ 300) → RecSm ⟨kd, tx, pr, nx, ps, .slice A ps.length c, ⟨yu1, yu2, yu3, yu4, ⟨d1, d2, d3, d4, d5⟩, .slice Au nu cu, yu7⟩⟩ from by
    rintro ⟨h1, h2, h3, h4, h5⟩
    exact ⟨by rw [← hm']; exact h1, h2, h3, h4, by rw [← hul]; exact h5⟩)
  generalize RecSm ⟨kd, tx, pr, nx, ps, .slice A ps.length c, ⟨yu1, yu2, yu3, yu4, ⟨d1, d2, d3, d4, d5⟩, .slice Au nu cu, yu7⟩⟩ = OK at *
  unfold recV
  dsimp only
  rw [← hm']
  clear hm' hc hm hnil hok hul
  go_enter Tryz.func9, Tryz.ntmps9
  go_upto_region 1 with (fail)
  refine gen1 (R := fun W => Code.wp _ _ _ _ W) (fun W1 kb hb1 hz1 => ?_)
  have HKB := hide kb
  have HB1 := hide hb1
  have hl1 := kb.lt
  clear kb hb1
  go_wp2
  go_loopw [3] (fun iv wr => ∃ k : Nat, k ≤ m ∧ k ≤ 10 ∧ iv = .int .i64 k ∧ Hid (∀ p ∈ ps.take k, PatSm p) ∧ Below W1.heap.size W1 wr) (fun iv _ => m - (intOf iv).toNat)
  case atStart => exact ⟨0, Nat.zero_le _, by omega, rfl, hide (by simp), Below.refl _ _⟩
  case round =>
    obtain ⟨k, hk, hk10, rfl, hT, hbw⟩ := hrel
    have kb := Blk.via hbw HKB.out
    have q4 := kb.cell 4
    have q6 := kb.cell 6
    have q8 := kb.cell 8
    have q10 := kb.cell 10
    have lb := kb.lt
    have HBW := hide hbw
    have hbww := below_via HB1.out hbw HB1.out.size
    have HBWW := hide hbww
    clear kb hbw hbww
    by_cases hlt : (k : Int) < m
    · by_cases h10 : (k : Int) < 10
      · have hlt' : k < ps.length := by have := HML.out; omega
        obtain ⟨b, o, c', y, e0, hb, hx, _, _, hcell⟩ := SliceAt.at_ PatV.cells_length (by omega) (HSA.out.keep (w' := wr) (fun p hp => HBWW.out.cell (by omega))) hlt'
        injection e0 with e1 e2 e3
        subst e1 e3
        obtain ⟨Ay, cy, hy1, _⟩ := HFM.out y (List.mem_of_getElem? hx)
        have c2 : wr.cell? ⟨b, o + k * 3 + 2, none⟩ = some (.slice Ay y.runs.length cy) := by rw [← hy1]; exact hcell 2 _ rfl
        have HX := hide hx
        have HC := HMR.out y wr (List.mem_of_getElem? hx) HBWW.out
        rw [hy1] at HC
        have HC := hide HC
        have u0 : (0 : Int) ≤ k := by omega
        have u1 : (k : Int) < m := by omega
        generalize hyl : y.runs.length = yn at *
        have HYL := hide hyl
        clear hx hcell hy1 hyl
        go_upto_region 4 with (fail)
        go_wp2_with (go_at_call 46; refine HC.out.mono ?_; rintro e W4 ⟨bb, rfl, hbb, hb4⟩; have HBB := hide hbb; have HB4 := hide hb4; clear hbb hb4; cases bb)
        · have HN := hide (show ∀ p ∈ ps.take (k + 1), PatSm p by
            obtain ⟨l1, e1⟩ := List.getElem?_eq_some_iff.1 HX.out
            rw [List.take_succ_eq_append_getElem l1, e1]
            intro r hr
            rcases List.mem_append.1 hr with hr | hr
            · exact hT.out r hr
            · obtain rfl : r = y := by simpa using hr
              have h2 := HBB.out (by first | rfl | trivial)
              exact ⟨by have := HYL.out; omega, h2.2⟩)
          have HB4' := hide (HBW.out.trans (HB4.out.mono HBW.out.size))
          have hk11 : k + 1 ≤ 10 := by omega
          go_roundw
          case rel => exact ⟨k + 1, by omega, hk11, by go_num, HN, HB4'.out⟩
          case measure => simp [intOf]; omega
        · go_ret
          exact ⟨true, rfl, fun h => (by cases h), HBWW.out.trans (HB4.out.mono HBWW.out.size)⟩
      · have h6 : (6 : Int) < m := by omega
        go_wp2
        go_ret
        exact ⟨true, rfl, fun h => (by cases h), HBWW.out⟩
    · have hkm : k = m := by omega
      have HKM := hide hkm
      clear hkm
      by_cases h6 : (6 : Int) < m
      · go_wp2
        go_ret
        exact ⟨true, rfl, fun h => (by cases h), HBWW.out⟩
      · by_cases h7 : (300 : Int) < yu2.size
        · go_wp2
          go_ret
          exact ⟨true, rfl, fun h => (by cases h), HBWW.out⟩
        · by_cases h8 : (300 : Int) < yu4.size
          · go_wp2
            go_ret
            exact ⟨true, rfl, fun h => (by cases h), HBWW.out⟩
          · by_cases h9 : (300 : Int) < nu
            · go_wp2
              go_ret
              exact ⟨true, rfl, fun h => (by cases h), HBWW.out⟩
            · go_wp2
              go_ret
              refine ⟨false, rfl, fun _ => HSM.out ⟨by omega, fun p hp => hT.out p ?_, by omega, by omega, by omega⟩, HBWW.out⟩
              rw [List.take_of_length_le (by have := HML.out; have := HKM.out; omega)]
              exact hp
end Go.Proofs.YtnanlaefehaifaaGreat
