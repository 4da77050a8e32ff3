/-
  WALK: moneyerref34.Replay.
-/
import Derived.Test.YteidmdnhkgcnoaaGreatMH
import Derived.Test.YteidmdnhkgcnoaaGreatWC
namespace Go.Proofs.YteidmdnhkgcnoaaGreat
open Go.RowKit BigFrame

def ReplayPost (w : World) (xs : List PairV) (ds : List DidV) (e : Ending) (w' : World) : Prop :=
  ∃ A' c' ys, e = .returned (.tuple #[.slice A' ys.length c', .int .i64 ((replayD (xs.map PairV.d) (ds.map DidV.d)).2 : Nat)]) ∧ ys.map PairV.d = (replayD (xs.map PairV.d) (ds.map DidV.d)).1 ∧ Pairs w' w'.heap.size A' ys.length ys ∧ Below w.heap.size w w'
/-- The same, and there is room for what is told. -/
def ReplayPostC (w : World) (xs : List PairV) (ds : List DidV) (e : Ending) (w' : World) : Prop :=
  ∃ A' c' ys, e = .returned (.tuple #[.slice A' ys.length c', .int .i64 ((replayD (xs.map PairV.d) (ds.map DidV.d)).2 : Nat)]) ∧ ys.map PairV.d = (replayD (xs.map PairV.d) (ds.map DidV.d)).1 ∧ Pairs w' w'.heap.size A' ys.length ys ∧ Below w.heap.size w w' ∧ ys.length ≤ c'
def opsOf (ds : List DidV) : List OpD := ds.map (fun d => d.d.op)
/-- What has been replayed so far. -/
def AllSame (s : List PairD) (ds : List DidV) (k : Nat) : Prop := ∀ i d, i < k → ds[i]? = some d → sameAns (toldD s (opsOf (ds.take i)) d.d.op).1 (toldD s (opsOf (ds.take i)) d.d.op).2 d.d.err d.d.cell = true
theorem replay_at {s : List PairD} {ds : List DidV} {k : Nat} (hk : k ≤ ds.length) (h1 : AllSame s ds k) (h2 : ∀ d, ds[k]? = some d → sameAns (toldD s (opsOf (ds.take k)) d.d.op).1 (toldD s (opsOf (ds.take k)) d.d.op).2 d.d.err d.d.cell = false) :
    replayD s (ds.map DidV.d) = (runD s (opsOf (ds.take k)), k) := by
  have e : ∀ i, ((ds.map DidV.d).take i).map DidD.op = opsOf (ds.take i) := fun i => by
    unfold opsOf
    rw [← List.map_take, List.map_map]
    rfl
  rw [replayD_eq (ds.map DidV.d) s k (by simpa using hk) (fun i d hi hd => ?_) (fun d hd => ?_), e]
  · rw [List.getElem?_map] at hd
    obtain ⟨x, hx, rfl⟩ := Option.map_eq_some_iff.1 hd
    rw [e]
    exact h1 i x hi hx
  · rw [List.getElem?_map] at hd
    obtain ⟨x, hx, rfl⟩ := Option.map_eq_some_iff.1 hd
    rw [e]
    exact h2 x hx
theorem opsOf_snoc {ds : List DidV} {k : Nat} {d : DidV} (h : ds[k]? = some d) : opsOf (ds.take (k + 1)) = opsOf (ds.take k) ++ [d.d.op] := by
  obtain ⟨hk, e⟩ := List.getElem?_eq_some_iff.1 h
  unfold opsOf
  rw [List.take_succ_eq_append_getElem hk, List.map_append, e]
  rfl
theorem AllSame.snoc {s : List PairD} {ds : List DidV} {k : Nat} {d : DidV} (h : AllSame s ds k) (hd : ds[k]? = some d) (hs : sameAns (toldD s (opsOf (ds.take k)) d.d.op).1 (toldD s (opsOf (ds.take k)) d.d.op).2 d.d.err d.d.cell = true) : AllSame s ds (k + 1) := fun i x hi hx => by
  by_cases hik : i < k
  · exact h i x hik hx
  · obtain rfl : i = k := by omega
    rw [hd] at hx
    injection hx with hx
    subst hx
    exact hs

set_option maxHeartbeats 3200000 in
set_option maxRecDepth 100000 in
theorem rReplayC_any (A : Option Addr) (n c : Nat) (xs : List PairV) (D : Option Addr) (m dc : Nat) (ds : List DidV) (B : Nat) (w : World) (hB : B ≤ w.heap.size) (hn : n ≤ 1000) (hm : m ≤ 1000) (hnc : n ≤ c) (h : Pairs w B A n xs) (hD : Dids w B D m ds) (hR : RightS (xs.map PairV.d)) (hW : WfS (xs.map PairV.d)) (hO : ∀ d ∈ ds, OpWf d.d.op) :
    Calls Tryz.prog 43 #[.slice A n c, .slice D m dc] w (ReplayPostC w xs ds) := by
  have HL := hide hD.1
  have HX := hide h.1
  have HR := hide hR
  have HW := hide hW
  have HO := hide hO
  clear hR hW hO
  go_enter Tryz.func43, Tryz.ntmps43
  go_wp2
  go_loopw [0, 6] (fun s i wr => ∃ (k : Nat) (A' : Option Addr) (c' : Nat) (ys : List PairV), k ≤ m ∧ i = .int .i64 k ∧ s = .slice A' ys.length c' ∧ ys.length ≤ c' ∧ Pairs wr wr.heap.size A' ys.length ys ∧ ys.map PairV.d = runD (xs.map PairV.d) (opsOf (ds.take k)) ∧ Below w.heap.size w wr ∧ AllSame (xs.map PairV.d) ds k) (fun _ i _ => m - (intOf i).toNat)
  case atStart =>
    obtain rfl := h.1
    exact ⟨0, A, c, xs, Nat.zero_le _, rfl, rfl, hnc, h.more hB, rfl, Below.refl _ _, fun i d hi => absurd hi (by omega)⟩
  case round =>
    obtain ⟨k, A', c', ys, hk, rfl, rfl, hyc, hP, hyd, hbw, hall⟩ := hrel
    have HYD := hide hyd
    have HALL := hide hall
    have hwz := hbw.size
    have hyl : ys.length ≤ 2000 := by
      have h1 := runD_length (opsOf (ds.take k)) (xs.map PairV.d)
      have h2 := congrArg List.length hyd
      have h3 : (opsOf (ds.take k)).length ≤ m := by unfold opsOf; simp; omega
      have h4 := HX.out
      simp at h1 h2
      omega
    clear hyd hall
    by_cases hlt : k < m
    · have hDw := hD.below hbw hB
      obtain ⟨b, o, x, rfl, hb, hkx, hok, hc⟩ := hDw.at_ hlt
      have hrow := hDw.row hkx
      obtain ⟨c0, c1, c2, c3, c4, c5, c6, _⟩ := hrow
      have hrs : RightS (ys.map PairV.d) := HYD.out ▸ HR.out.run _
      have hws : WfS (ys.map PairV.d) := HYD.out ▸ HW.out.run (fun z hz => by
        unfold opsOf at hz
        obtain ⟨d, hd, rfl⟩ := List.mem_map.1 hz
        exact HO.out d (List.mem_of_mem_take hd))
      have hox := HO.out x (List.mem_of_getElem? hkx)
      have HKX := hide hkx
      have HDW := hide hDw
      clear hkx hc hDw
      obtain ⟨⟨tx, op, er, cd⟩, dv, cv⟩ := x
      obtain ⟨hd1, hd2⟩ := hok
      obtain ⟨A2, n2, m2, rfl, hd3⟩ := hd1
      have hd1' : BytesAt wr wr.heap.size (.slice A2 n2 m2) op.data := BytesAt.more ⟨A2, n2, m2, rfl, hd3⟩ (Nat.le_trans hB hwz)
      dsimp only at *
      have hstep := mStep_any A' ys.length c' ys op A2 n2 m2 wr.heap.size wr (Nat.le_refl _) (by omega) hyc hP hd1' hrs hws hox
      unfold opV at hstep
      have HST := hide hstep
      clear hstep hd3 hd1' hrs hws hox
      have s4 : (k : Int) < m := by omega
      go_wp2_with fail
      (with_reducible refine HST.out.mono ?_)
      rintro e w1 ⟨A1, c1', zs, av, rfl, hzc, hzd, hPz, hav, hb1⟩
      clear c0 c1 c2 c3 c4 c5 c6
      have htd : toldD (xs.map PairV.d) (opsOf (ds.take k)) op = (stepD (ys.map PairV.d) op).2 := by unfold toldD; rw [← HYD.out]
      have hrd : runD (xs.map PairV.d) (opsOf (ds.take (k + 1))) = (stepD (ys.map PairV.d) op).1 := by rw [opsOf_snoc HKX.out, runD_snoc, ← HYD.out]
      generalize stepD (ys.map PairV.d) op = sd at *
      obtain ⟨s', er', cd'⟩ := sd
      dsimp only at *
      have HZD := hide (hzd.trans hrd.symm)
      have HTD := hide htd
      clear hzd hrd htd HST
      obtain ⟨A4, n4, c4, rfl, hav'⟩ := hav
      have hav4 : BytesAt w1 w1.heap.size (.slice A4 n4 c4) cd'.data := ⟨A4, n4, c4, rfl, hav'⟩
      clear hav'
      unfold ansV
      go_upto_region 5 with fail
      refine gen1 (fun W k0 hb2 hz2 => ?_)
      have hbW := below_via (below_via hbw hb1 hwz) hb2 (Nat.le_trans hwz hb1.size)
      have HPZ := hide ((hPz.below hb2 (Nat.le_refl _)).more hb2.size)
      have hcv : BytesAt W W.heap.size cv cd.data := ((BytesAt.below hd2 (below_via hb1 hb2 hb1.size) (Nat.le_trans hB hwz)).more (Nat.le_trans (Nat.le_trans hB hwz) (Nat.le_trans hb1.size hb2.size)))
      have hav5 : BytesAt W W.heap.size (.slice A4 n4 c4) cd'.data := (hav4.below hb2 (Nat.le_refl _)).more hb2.size
      obtain ⟨A5, n5, c5, rfl, hcv'⟩ := hcv
      have hcv5 : BytesAt W W.heap.size (.slice A5 n5 c5) cd.data := ⟨A5, n5, c5, rfl, hcv'⟩
      clear hcv' hav4 hd2 hPz
      have hDW := hD.below hbW hB
      have hzW : B ≤ W.heap.size := Nat.le_trans hB hbW.size
      have rw' := fun (t : In (Below W.heap.size W)) => (hDW.below t.h hzW).row HKX.out
      have r7 := fun t => (rw' t).2.2.2.2.2.2.2.1
      have r8 := fun t => (rw' t).2.2.2.2.2.2.2.2.1
      have r9 := fun t => (rw' t).2.2.2.2.2.2.2.2.2.1
      have r10 := fun t => (rw' t).2.2.2.2.2.2.2.2.2.2.1
      have r11 := fun t => (rw' t).2.2.2.2.2.2.2.2.2.2.2.1
      have r12 := fun t => (rw' t).2.2.2.2.2.2.2.2.2.2.2.2
      have a0 : ∀ t : In (Below W.heap.size W), t.w.cell? ⟨w1.heap.size, 0, none⟩ = some (.int .i64 er') := fun t => (Blk.via t.h k0).cell 0
      have a1 : ∀ t : In (Below W.heap.size W), t.w.cell? ⟨w1.heap.size, 1, none⟩ = some (.int .i64 cd'.kind) := fun t => (Blk.via t.h k0).cell 1
      have a2 : ∀ t : In (Below W.heap.size W), t.w.cell? ⟨w1.heap.size, 2, none⟩ = some (.slice A4 n4 c4) := fun t => (Blk.via t.h k0).cell 2
      have a3 : ∀ t : In (Below W.heap.size W), t.w.cell? ⟨w1.heap.size, 3, none⟩ = some (.int .i64 cd'.lo) := fun t => (Blk.via t.h k0).cell 3
      have a4 : ∀ t : In (Below W.heap.size W), t.w.cell? ⟨w1.heap.size, 4, none⟩ = some (.int .i64 cd'.hi) := fun t => (Blk.via t.h k0).cell 4
      have a5 : ∀ t : In (Below W.heap.size W), t.w.cell? ⟨w1.heap.size, 5, none⟩ = some (.int .i64 cd'.val) := fun t => (Blk.via t.h k0).cell 5
      dsimp only at r7 r8 r9 r10 r11 r12
      have HSA := hide (fun (b : Bool) (hb : (er' == er && cellEq cd' cd) = b) (t : In (Below W.heap.size W)) => hb ▸ rSameAnswer_any er' er cd' cd (.slice A4 n4 c4) (.slice A5 n5 c5) W.heap.size t.w t.h.size (hav5.below t.h (Nat.le_refl _)) (hcv5.below t.h (Nat.le_refl _)))
      clear rw' hav5 hcv5 hDW
      cases hsm : (er' == er && cellEq cd' cd)
      · have HSA' := hide (HSA.out _ hsm)
        have HSM := hide hsm
        clear HSA hsm
        refine wp_region_in (C := (Below W.heap.size W)) (by kernel_rfl) (by kernel_rfl) (Below.refl _ _).drew ?_
        repeat (first | go_big_quiet_step ((go_at_call 33; with_reducible exact calls_in (Nat.le_refl _) (HSA'.out _))) | quiet_step ((go_at_call 33; with_reducible exact calls_in (Nat.le_refl _) (HSA'.out _))))
        refine wpQuiet_nil ?_
        intro _ hw'
        obtain ⟨t, hw''⟩ := hw'
        subst hw''
        clear r7 r8 r9 r10 r11 r12 a0 a1 a2 a3 a4 a5
        go_wp2
        go_ret2
        have hre := replay_at (s := xs.map PairV.d) (ds := ds) (k := k) (by have := HL.out; omega) HALL.out (fun d hd => by rw [HKX.out] at hd; injection hd with hd; subst hd; rw [HTD.out]; exact HSM.out)
        refine ⟨A', c', ys, by rw [hre]; rfl, by rw [hre]; exact HYD.out, ?_, below_via hbW t.h hbW.size, hyc⟩
        have hbt := below_via (below_via hb1 hb2 hb1.size) t.h (Nat.le_trans hb1.size hb2.size)
        exact (hP.below hbt (Nat.le_refl _)).more hbt.size
      · have HSA' := hide (HSA.out _ hsm)
        have HSM := hide hsm
        clear HSA hsm
        refine wp_region_in (C := (Below W.heap.size W)) (by kernel_rfl) (by kernel_rfl) (Below.refl _ _).drew ?_
        repeat (first | go_big_quiet_step ((go_at_call 33; with_reducible exact calls_in (Nat.le_refl _) (HSA'.out _))) | quiet_step ((go_at_call 33; with_reducible exact calls_in (Nat.le_refl _) (HSA'.out _))))
        refine wpQuiet_nil ?_
        intro _ hw'
        obtain ⟨t, hw''⟩ := hw'
        subst hw''
        clear r7 r8 r9 r10 r11 r12 a0 a1 a2 a3 a4 a5
        go_wp2
        go_roundw
        case rel =>
          refine ⟨k + 1, A1, c1', zs, by omega, by go_num, rfl, hzc, (HPZ.out.below t.h (Nat.le_refl _)).more t.h.size, HZD.out, below_via hbW t.h hbW.size, ?_⟩
          exact HALL.out.snoc HKX.out (by rw [HTD.out]; exact HSM.out)
        case measure => simp [intOf]; omega
    · obtain rfl : k = m := by omega
      go_wp2
      go_ret2
      have hre := replay_at (s := xs.map PairV.d) (ds := ds) (k := k) (by have := HL.out; omega) HALL.out (fun d hd => by have := (List.getElem?_eq_some_iff.1 hd).1; have := HL.out; omega)
      exact ⟨A', c', ys, by rw [hre]; rfl, by rw [hre]; exact HYD.out, hP, hbw, hyc⟩
theorem rReplay_any (A : Option Addr) (n c : Nat) (xs : List PairV) (D : Option Addr) (m dc : Nat) (ds : List DidV) (B : Nat) (w : World) (hB : B ≤ w.heap.size) (hn : n ≤ 1000) (hm : m ≤ 1000) (hnc : n ≤ c) (h : Pairs w B A n xs) (hD : Dids w B D m ds) (hR : RightS (xs.map PairV.d)) (hW : WfS (xs.map PairV.d)) (hO : ∀ d ∈ ds, OpWf d.d.op) :
    Calls Tryz.prog 43 #[.slice A n c, .slice D m dc] w (ReplayPost w xs ds) :=
  (rReplayC_any A n c xs D m dc ds B w hB hn hm hnc h hD hR hW hO).mono fun _ _ ⟨A', c', ys, h1, h2, h3, h4, _⟩ => ⟨A', c', ys, h1, h2, h3, h4⟩
end Go.Proofs.YteidmdnhkgcnoaaGreat
