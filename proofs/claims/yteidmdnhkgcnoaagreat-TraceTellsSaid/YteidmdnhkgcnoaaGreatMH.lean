/-
  WALK: moneyerref09.Step.
-/
import Derived.Test.YteidmdnhkgcnoaaGreatMG
namespace Go.Proofs.YteidmdnhkgcnoaaGreat
open Go.RowKit

def ansV (er : Int) (cd : CellD) (av : Value) : Value := .agg #[.int .i64 er, .int .i64 cd.kind, av, .int .i64 cd.lo, .int .i64 cd.hi, .int .i64 cd.val]
def opV (x : OpD) (dv : Value) : Value := .agg #[.int .i64 x.act, .string x.key, dv, .int .i64 x.lo, .int .i64 x.hi, .int .i64 x.n]
def StepPost (w : World) (xs : List PairV) (x : OpD) (e : Ending) (w' : World) : Prop :=
  ∃ A' c' ys av, e = .returned (.tuple #[.slice A' ys.length c', ansV (stepD (xs.map PairV.d) x).2.1 (stepD (xs.map PairV.d) x).2.2 av]) ∧ ys.length ≤ c' ∧ ys.map PairV.d = (stepD (xs.map PairV.d) x).1 ∧
    Pairs w' w'.heap.size A' ys.length ys ∧ BytesAt w' w'.heap.size av (stepD (xs.map PairV.d) x).2.2.data ∧ Below w.heap.size w w'
theorem Touch.one {g i : Nat} {a w : World} (h : Touch g (g + 1) a w) (u : Value) : Touch g (g + 1) a (w.setCell ⟨g, i, none⟩ u) := h.set ⟨Nat.le_refl _, Nat.lt_succ_self _⟩ u
theorem bytes_none (w : World) (B : Nat) : BytesAt w B (.slice none 0 0) [] := ⟨none, 0, 0, rfl, Nat.le_refl _, Nat.zero_le _, rfl, fun _ => rfl, Reads.none_⟩
theorem step_same {w w' : World} {B : Nat} {A : Option Addr} {n c : Nat} {xs : List PairV} {x : OpD} {er : Int} {cd : CellD} {av : Value} (h : Pairs w B A n xs) (hB : B ≤ w.heap.size) (hnc : n ≤ c) (hst : stepD (xs.map PairV.d) x = (xs.map PairV.d, er, cd)) (hb : Below w.heap.size w w') (hav : BytesAt w' w'.heap.size av cd.data) :
    StepPost w xs x (.returned (.tuple #[.slice A n c, ansV er cd av])) w' := by
  obtain rfl := h.1
  refine ⟨A, c, xs, av, by rw [hst], hnc, by rw [hst], (h.below hb hB).more (Nat.le_trans hB hb.size), by rw [hst]; exact hav, hb⟩
theorem step_touch {w W w' : World} {B g : Nat} {A : Option Addr} {n c : Nat} {xs : List PairV} {x : OpD} {er : Int} {cd : CellD} {av : Value} (h : Pairs w B A n xs) (hB : B ≤ w.heap.size) (hnc : n ≤ c) (hst : stepD (xs.map PairV.d) x = (xs.map PairV.d, er, cd)) (ht : Touch g (g + 1) W w') (hb : Below w.heap.size w W) (hg : w.heap.size ≤ g) (hav : BytesAt W B av cd.data) :
    StepPost w xs x (.returned (.tuple #[.slice A n c, ansV er cd av])) w' :=
  step_same h hB hnc hst (ht.below hb hg) ((hav.below (C := g) (ht.below (Below.refl g W) (Nat.le_refl _)) (by omega)).more (by have := ht.size; have := hb.size; omega))
theorem step_put {w W w1 w2 : World} {B g : Nat} {xs ys : List PairV} {x : OpD} {v : Value} (hst : stepD (xs.map PairV.d) x = (ys.map PairV.d, 0, cell0)) (hp : PutPost W B ys (.returned v) w1) (hB : B ≤ g) (hg : g < W.heap.size) (hb : Below w.heap.size w W) (ht : Touch g (g + 1) w1 w2) (hwg : w.heap.size ≤ g) :
    StepPost w xs x (.returned (.tuple #[v, ansV 0 cell0 (.slice none 0 0)])) w2 := by
  obtain ⟨A', c', e, hc', hr, hf, hok, hbp⟩ := hp
  injection e with e
  subst e
  have hz := hbp.size
  refine ⟨A', c', ys, _, by rw [hst], hc', by rw [hst], ⟨rfl, ?_, fun y hy => ?_⟩, by rw [hst]; exact bytes_none _ _, ?_⟩
  · rw [ht.size]
    refine ⟨hr.1, fun hn => ?_⟩
    obtain ⟨ad, e, hlt, hc⟩ := hr.2 hn
    have := hf ad e
    exact ⟨ad, e, hlt, fun j u hu => (World.cell?_of_block (w := w1) (by rw [block_of_add]; exact ht.block _ (by omega))).trans (hc j u hu)⟩
  · refine BytesAt.more (B := B) ?_ (by rw [ht.size]; omega)
    exact BytesAt.below (C := g) (hok y hy) (ht.below (Below.refl g w1) (Nat.le_refl _)) hB
  · exact ht.below (below_via hb hbp (by omega)) hwg


set_option maxHeartbeats 3200000 in
set_option maxRecDepth 100000 in
theorem mStep_any (A : Option Addr) (n c : Nat) (xs : List PairV) (x : OpD) (A2 : Option Addr) (n2 c2 : Nat) (B : Nat) (w : World) (hB : B ≤ w.heap.size) (hn : n ≤ 100000) (hnc : n ≤ c) (h : Pairs w B A n xs) (hd : BytesAt w B (.slice A2 n2 c2) x.data) (hR : RightS (xs.map PairV.d)) (hW : WfS (xs.map PairV.d)) (hx : OpWf x) :
    Calls Tryz.prog 57 #[.slice A n c, opV x (.slice A2 n2 c2)] w (StepPost w xs x) := by
  have hn2 : n2 = x.data.length := by
    obtain ⟨A', n', c', e, _, _, hl, _⟩ := hd
    injection e with _ e _
    rw [e]; exact hl
  have HG := hide (fun (b : Bool) (hb : goodOp x = b) (W : World) => hb ▸ mGood_any x A2 n2 c2 W hn2 hx.2.2.2)
  have HD := hide hd
  have HF := hide (findL_map hR x.key)
  have HR := hide hR
  have HW := hide hW
  clear hd hR hW hn2
  unfold opV
  go_enter Tryz.func57, Tryz.ntmps57
  go_wp2_with fail
  refine gen2 (R := fun W => Calls Tryz.prog 66 _ W _) ?_
  intro W k0 k1 hb hz
  cases hg : goodOp x
  · refine (HG.out _ hg _).mono ?_
    rintro e w1 ⟨rfl, hb1⟩
    have j1 := Blk.via hb1 k1
    have q0 := j1.cell
    have q1 := j1.frozen
    have q2 := j1.lt
    have HGB := hide hg
    clear hg
    go_wp2
    refine bodyPost_ret (v := .tuple #[.slice A n c, ansV 1 cell0 (.slice none 0 0)]) (by simp [results, Tryz.results57, go_sem, q0, ansV, cell0]) rfl ?_
    exact step_same h hB hnc (by unfold stepD; rw [if_pos HGB.out]) (Touch.below (L := w.heap.size + 1) (H := w.heap.size + 1 + 1) (w := w1) (by (repeat first | (with_reducible refine Touch.one ?_ _) | (with_reducible refine Touch.drew ?_)); exact Touch.refl _) (below_via hb hb1 (by omega)) (by omega)) (bytes_none _ _)
  · refine (HG.out _ hg _).mono ?_
    rintro e w1 ⟨rfl, hb1⟩
    have HGB := hide hg
    clear hg HG
    have hb01 := below_via hb hb1 (by omega)
    replace k0 := Blk.via hb1 k0
    replace k1 := Blk.via hb1 k1
    have hP1 := h.below hb01 hB
    have q0 := k0.cell
    have hz1 := hb01.size
    clear hb1
    go_wp2_with fail
    refine (mFind_any A n c x.key xs B w1 (by omega) (by omega) hP1).mono ?_
    rintro e w2 ⟨he, hb2⟩
    clear q0
    replace k0 := Blk.via hb2 k0
    replace k1 := Blk.via hb2 k1
    have hb02 := below_via hb01 hb2 hz1
    have q0 := k0.cell
    have q2 := k1.cell
    have q3 := k1.frozen
    have q4 := k1.lt
    have q6 := k0.lt
    have hz2 := hb02.size
    clear hb2 hz1 hb01 hb hz hP1
    cases hf : findL xs x.key with
    | none =>
      rw [hf] at he
      simp only [noCell, mkCell, cell0] at he
      subst he
      have HH : Hid (hasD (xs.map PairV.d) x.key = none) := hide (by rw [← HF.out, hf]; rfl)
      clear hf HF
      go_upto_region 4 with fail
      refine gen1 (fun W3 k3 hb3 hz3 => ?_)
      replace k0 := Blk.via hb3 k0
      replace k1 := Blk.via hb3 k1
      have hb03 := below_via hb02 hb3 hz2
      clear q0 q2 q3 hb3 q4 q6
      have q0 := k0.cell
      have q2 := k1.cell
      have q3 := k1.frozen
      have q4 := k1.lt
      have q6 := k0.lt
      have q7 := k3.cell
      have hng : ¬ goodOp x = false := by rw [HGB.out]; exact fun h => Bool.noConfusion h
      have HNG := hide hng
      clear hng
      by_cases h1 : x.act = 1
      · have b1 : (x.act == 1) = true := by simp [h1]
        have H1 := hide h1
        clear h1
        have hput := mPut_any A n c x.key ⟨1, x.data, 0, 0, 0⟩ A2 n2 c2 xs B W3 (by omega) (by omega) hnc (h.below hb03 hB) (HD.out.below hb03 hB)
        simp only [mkCell] at hput
        have HPUT := hide hput
        clear hput
        go_wp2_with fail
        (with_reducible refine HPUT.out.mono ?_)
        rintro e w4 hp
        have hp' := hp
        obtain ⟨A', c', rfl, hlen, hr, hfr, hok4, hb4⟩ := hp'
        clear hr hfr hok4 q0 q2 q3 q7 HPUT
        generalize hys : putV xs x.key ⟨1, x.data, 0, 0, 0⟩ _ = ys at *
        have HYS := hide hys
        clear hys
        have k5 := Blk.via hb4 k1
        have q2 := k5.cell
        have q3 := k5.frozen
        have q5 := k5.lt
        go_wp2
        refine bodyPost_ret (v := .tuple #[.slice A' ys.length c', ansV 0 cell0 (.slice none 0 0)]) (by simp [results, Tryz.results57, go_sem, q2, ansV, cell0]) rfl ?_
        refine step_put (g := w.heap.size + 1) (B := B) ?_ hp (by omega) (by omega) hb03 (by (repeat first | (with_reducible refine Touch.one ?_ _) | (with_reducible refine Touch.drew ?_)); exact Touch.refl _) (by omega)
        rw [← HYS.out, putV_map]
        unfold stepD
        rw [if_neg HNG.out, if_pos H1.out, HH.out]
        rfl
      · have b1 : (x.act == 1) = false := by simp [h1]
        by_cases h2 : x.act = 2
        · have b2 : (x.act == 2) = true := by simp [h2]
          have H1 := hide h1
          have H2 := hide h2
          clear h1 h2
          have hput := mPut_any A n c x.key ⟨2, [], x.lo, x.hi, x.n⟩ none 0 0 xs B W3 (by omega) (by omega) hnc (h.below hb03 hB) (bytes_none _ _)
          simp only [mkCell] at hput
          have HPUT := hide hput
          clear hput
          go_wp2_with fail
          (with_reducible refine HPUT.out.mono ?_)
          rintro e w4 hp
          have hp' := hp
          obtain ⟨A', c', rfl, hlen, hr, hfr, hok4, hb4⟩ := hp'
          clear hr hfr hok4 q0 q2 q3 q7 HPUT
          generalize hys : putV xs x.key ⟨2, [], x.lo, x.hi, x.n⟩ _ = ys at *
          have HYS := hide hys
          clear hys
          have k5 := Blk.via hb4 k1
          have q2 := k5.cell
          have q3 := k5.frozen
          have q5 := k5.lt
          go_wp2
          refine bodyPost_ret (v := .tuple #[.slice A' ys.length c', ansV 0 cell0 (.slice none 0 0)]) (by simp [results, Tryz.results57, go_sem, q2, ansV, cell0]) rfl ?_
          refine step_put (g := w.heap.size + 1) (B := B) ?_ hp (by omega) (by omega) hb03 (by (repeat first | (with_reducible refine Touch.one ?_ _) | (with_reducible refine Touch.drew ?_)); exact Touch.refl _) (by omega)
          rw [← HYS.out, putV_map]
          unfold stepD
          rw [if_neg HNG.out, if_neg H1.out, if_pos H2.out, HH.out]
          rfl
        · have b2 : (x.act == 2) = false := by simp [h2]
          have H1 := hide h1
          have H2 := hide h2
          clear h1 h2
          go_wp2
          refine bodyPost_ret (v := .tuple #[.slice A n c, ansV 5 cell0 (.slice none 0 0)]) (by simp [results, Tryz.results57, go_sem, q2, ansV, cell0]) rfl ?_
          refine step_same h hB hnc ?_ (Touch.below (L := w.heap.size + 1) (H := w.heap.size + 1 + 1) (w := W3) (by (repeat first | (with_reducible refine Touch.one ?_ _) | (with_reducible refine Touch.drew ?_)); exact Touch.refl _) hb03 (by omega)) (bytes_none _ _)
          unfold stepD
          rw [if_neg HNG.out, if_neg H1.out, if_neg H2.out, HH.out]
    | some y =>
      rw [hf] at he
      simp only [mkCell] at he
      subst he
      have HH : Hid (hasD (xs.map PairV.d) x.key = some y.d.cell) := hide (by rw [← HF.out, hf]; rfl)
      have hy2 : BytesAt w B y.cv y.d.cell.data := h.2.2 y (findL_mem hf)
      have hrc := HR.out.has HH.out
      have hwc := HW.out.has HH.out
      clear hf HF
      obtain ⟨⟨ky, cd⟩, cv⟩ := y
      obtain ⟨A3, n3, c3, rfl, hy3⟩ := hy2
      have HY : Hid (BytesAt w B (.slice A3 n3 c3) cd.data) := hide ⟨A3, n3, c3, rfl, hy3⟩
      clear hy3
      dsimp only at *
      have HWC := hide hwc
      have HRC := hide (rightC_kind hrc)
      clear hrc hwc
      go_upto_region 4 with fail
      refine gen1 (fun W3 k3 hb3 hz3 => ?_)
      replace k0 := Blk.via hb3 k0
      replace k1 := Blk.via hb3 k1
      have hb03 := below_via hb02 hb3 hz2
      clear q0 q2 q3 hb3 q4 q6
      have q0 := k0.cell
      have q2 := k1.cell
      have q3 := k1.frozen
      have q4 := k1.lt
      have q6 := k0.lt
      have q7 := k3.cell
      have hng : ¬ goodOp x = false := by rw [HGB.out]; exact fun h => Bool.noConfusion h
      have HNG := hide hng
      clear hng
      by_cases h1 : x.act = 1
      · have b1 : (x.act == 1) = true := by simp [h1]
        have H1 := hide h1
        clear h1
        by_cases hk2 : cd.kind = 2
        · have b2 : (cd.kind == 2) = true := by simp [hk2]
          have HK2 := hide hk2
          clear hk2
          go_wp2
          refine bodyPost_ret (v := .tuple #[.slice A n c, ansV 6 cell0 (.slice none 0 0)]) (by simp [results, Tryz.results57, go_sem, q2, ansV, cell0]) rfl ?_
          refine step_same h hB hnc ?_ (Touch.below (L := w.heap.size + 1) (H := w.heap.size + 1 + 1) (w := W3) (by (repeat first | (with_reducible refine Touch.one ?_ _) | (with_reducible refine Touch.drew ?_)); exact Touch.refl _) hb03 (by omega)) (bytes_none _ _)
          unfold stepD
          rw [if_neg HNG.out, if_pos H1.out, HH.out, if_pos (by simp [HK2.out])]
        · have b2 : (cd.kind == 2) = false := by simp [hk2]
          have HK2 := hide hk2
          clear hk2
          have hput := mPut_any A n c x.key ⟨1, x.data, 0, 0, 0⟩ A2 n2 c2 xs B W3 (by omega) (by omega) hnc (h.below hb03 hB) (HD.out.below hb03 hB)
          simp only [mkCell] at hput
          have HPUT := hide hput
          clear hput
          go_wp2_with fail
          (with_reducible refine HPUT.out.mono ?_)
          rintro e w4 hp
          have hp' := hp
          obtain ⟨A', c', rfl, hlen, hr, hfr, hok4, hb4⟩ := hp'
          clear hr hfr hok4 q0 q2 q3 q7 HPUT
          generalize hys : putV xs x.key ⟨1, x.data, 0, 0, 0⟩ _ = ys at *
          have HYS := hide hys
          clear hys
          have k5 := Blk.via hb4 k1
          have q2 := k5.cell
          have q3 := k5.frozen
          have q5 := k5.lt
          go_wp2
          refine bodyPost_ret (v := .tuple #[.slice A' ys.length c', ansV 0 cell0 (.slice none 0 0)]) (by simp [results, Tryz.results57, go_sem, q2, ansV, cell0]) rfl ?_
          refine step_put (g := w.heap.size + 1) (B := B) ?_ hp (by omega) (by omega) hb03 (by (repeat first | (with_reducible refine Touch.one ?_ _) | (with_reducible refine Touch.drew ?_)); exact Touch.refl _) (by omega)
          rw [← HYS.out, putV_map]
          unfold stepD
          rw [if_neg HNG.out, if_pos H1.out, HH.out, if_neg (by simp [HK2.out])]
          rfl
      · have b1 : (x.act == 1) = false := by simp [h1]
        by_cases h2 : x.act = 2
        · have b2 : (x.act == 2) = true := by simp [h2]
          have H1 := hide h1
          have H2 := hide h2
          clear h1 h2
          go_wp2
          refine bodyPost_ret (v := .tuple #[.slice A n c, ansV 7 cell0 (.slice none 0 0)]) (by simp [results, Tryz.results57, go_sem, q2, ansV, cell0]) rfl ?_
          refine step_same h hB hnc ?_ (Touch.below (L := w.heap.size + 1) (H := w.heap.size + 1 + 1) (w := W3) (by (repeat first | (with_reducible refine Touch.one ?_ _) | (with_reducible refine Touch.drew ?_)); exact Touch.refl _) hb03 (by omega)) (bytes_none _ _)
          unfold stepD
          rw [if_neg HNG.out, if_neg H1.out, if_pos H2.out, HH.out]
        · have b2 : (x.act == 2) = false := by simp [h2]
          by_cases h0 : x.act = 0
          · have b0 : (x.act == 0) = true := by simp [h0]
            have H1 := hide h1
            have H2 := hide h2
            have H0 := hide h0
            clear h1 h2 h0
            go_wp2
            go_region
            all_goals
              go_wp2
              refine bodyPost_ret (v := .tuple #[.slice A n c, ansV 0 cd (.slice A3 n3 c3)]) (by simp [results, Tryz.results57, go_sem, q2, ansV]) rfl ?_
              refine step_touch (g := w.heap.size + 1) (W := W3) h hB hnc ?_ (by (repeat first | (with_reducible refine Touch.one ?_ _) | (with_reducible refine Touch.drew ?_)); exact Touch.refl _) hb03 (by omega) (HY.out.below hb03 hB)
              unfold stepD
              rw [if_neg HNG.out, if_neg H1.out, if_neg H2.out, HH.out]
              dsimp only
              rw [if_pos H0.out]
          · have b0 : (x.act == 0) = false := by simp [h0]
            by_cases h3 : x.act = 3
            · have b3 : (x.act == 3) = true := by simp [h3]
              have H1 := hide h1
              have H2 := hide h2
              have H0 := hide h0
              have H3 := hide h3
              clear h1 h2 h0 h3
              have hput := mPut_any A n c x.key ⟨0, [], 0, 0, 0⟩ none 0 0 xs B W3 (by omega) (by omega) hnc (h.below hb03 hB) (bytes_none _ _)
              simp only [mkCell] at hput
              have HPUT := hide hput
              clear hput
              go_wp2_with fail
              (with_reducible refine HPUT.out.mono ?_)
              rintro e w4 hp
              have hp' := hp
              obtain ⟨A', c', rfl, hlen, hr, hfr, hok4, hb4⟩ := hp'
              clear hr hfr hok4 q0 q2 q3 q7 HPUT
              generalize hys : putV xs x.key ⟨0, [], 0, 0, 0⟩ _ = ys at *
              have HYS := hide hys
              clear hys
              have k5 := Blk.via hb4 k1
              have q2 := k5.cell
              have q3 := k5.frozen
              have q5 := k5.lt
              go_wp2
              refine bodyPost_ret (v := .tuple #[.slice A' ys.length c', ansV 0 cell0 (.slice none 0 0)]) (by simp [results, Tryz.results57, go_sem, q2, ansV, cell0]) rfl ?_
              refine step_put (g := w.heap.size + 1) (B := B) ?_ hp (by omega) (by omega) hb03 (by (repeat first | (with_reducible refine Touch.one ?_ _) | (with_reducible refine Touch.drew ?_)); exact Touch.refl _) (by omega)
              rw [← HYS.out, putV_map]
              unfold stepD
              rw [if_neg HNG.out, if_neg H1.out, if_neg H2.out, HH.out]
              dsimp only
              rw [if_neg H0.out, if_pos H3.out]
              rfl
            · have b3 : (x.act == 3) = false := by simp [h3]
              have H1 := hide h1
              have H2 := hide h2
              have H0 := hide h0
              have H3 := hide h3
              clear h1 h2 h0 h3
              have hst : stepD (xs.map PairV.d) x = if cd.kind ≠ 2 then (xs.map PairV.d, 6, cell0) else if moveV x cd < cd.lo ∨ cd.hi < moveV x cd then (xs.map PairV.d, 8, cell0) else (putD (xs.map PairV.d) x.key (some ⟨2, [], cd.lo, cd.hi, moveV x cd⟩), 0, cell0) := by
                unfold stepD
                rw [if_neg HNG.out, if_neg H1.out, if_neg H2.out, HH.out]
                dsimp only
                rw [if_neg H0.out, if_neg H3.out]
                rfl
              have HST := hide hst
              have hmv := fun W => mMove_any x cd A2 n2 c2 A3 n3 c3 W hx.2.2.1 HWC.out.2.2 HWC.out.1 HWC.out.2.1
              have hmz : ∃ (r : CellD) (z : Int), moveR x cd = (r, z) ∧ ((r = cd ∧ (z == 0) = false ∧ stepD (xs.map PairV.d) x = (xs.map PairV.d, z, cell0)) ∨ (z = 0 ∧ r = ⟨2, [], cd.lo, cd.hi, moveV x cd⟩ ∧ cd.data = [] ∧ stepD (xs.map PairV.d) x = (putD (xs.map PairV.d) x.key (some r), 0, cell0))) := by
                rw [hst]
                unfold moveR
                by_cases hk2 : cd.kind ≠ 2
                · rw [if_pos hk2, if_pos hk2]
                  exact ⟨_, _, rfl, .inl ⟨rfl, rfl, rfl⟩⟩
                · rw [if_neg hk2, if_neg hk2]
                  have hkk : cd.kind = 2 := Classical.byContradiction hk2
                  have hdd : cd.data = [] := by
                    rcases HRC.out with ⟨h1, _⟩ | ⟨_, h2⟩
                    · omega
                    · exact h2
                  by_cases hbd : moveV x cd < cd.lo ∨ cd.hi < moveV x cd
                  · rw [if_pos hbd, if_pos hbd]
                    exact ⟨_, _, rfl, .inl ⟨rfl, rfl, rfl⟩⟩
                  · rw [if_neg hbd, if_neg hbd]
                    refine ⟨_, _, rfl, .inr ⟨rfl, ?_, hdd, ?_⟩⟩
                    · rw [hkk, hdd]
                    · rw [hkk, hdd]
              clear hst
              obtain ⟨r, z, hrz, hcase⟩ := hmz
              rw [hrz] at hmv
              simp only [mkCell] at hmv
              have HMV := hide hmv
              clear hmv hrz
              have HRZ := hide hcase
              clear hcase
              go_wp2_with fail
              (with_reducible refine (HMV.out _).mono ?_)
              rintro e w4 ⟨rfl, hb4⟩
              replace k0 := Blk.via hb4 k0
              replace k1 := Blk.via hb4 k1
              replace hb02 := below_via hb03 hb4 hb03.size
              replace hz2 := hb02.size
              clear hb03 hb4 q7 k3 hz3
              rcases HRZ.out with ⟨rfl, hz0, hst⟩ | ⟨rfl, rfl, hdd, hst⟩
              · have hz9 : (z != 0) = true := by simp [bne, hz0]
                have HST := hide hst
                clear hz0 hst
                go_upto_region 19 with fail
                refine gen1 (fun W3 k3 hb3 hz3 => ?_)
                replace k0 := Blk.via hb3 k0
                replace k1 := Blk.via hb3 k1
                have hb03 := below_via hb02 hb3 hz2
                clear q0 q2 q3 hb3 q4 q6
                have q0 := k0.cell
                have q2 := k1.cell
                have q3 := k1.frozen
                have q4 := k1.lt
                have q6 := k0.lt
                have q7 := k3.cell
                go_wp2
                refine bodyPost_ret (v := .tuple #[.slice A n c, ansV z cell0 (.slice none 0 0)]) (by simp [results, Tryz.results57, go_sem, q2, ansV, cell0]) rfl ?_
                refine step_same h hB hnc ?_ (Touch.below (L := w.heap.size + 1) (H := w.heap.size + 1 + 1) (w := W3) (by (repeat first | (with_reducible refine Touch.one ?_ _) | (with_reducible refine Touch.drew ?_)); exact Touch.refl _) hb03 (by omega)) (bytes_none _ _)
                exact HST.out
              · have HST := hide hst
                have HY0 : Hid (BytesAt w B (.slice A3 n3 c3) []) := hide (hdd ▸ HY.out)
                clear hst hdd
                go_upto_region 19 with fail
                refine gen1 (fun W3 k3 hb3 hz3 => ?_)
                replace k0 := Blk.via hb3 k0
                replace k1 := Blk.via hb3 k1
                have hb03 := below_via hb02 hb3 hz2
                clear q0 q2 q3 hb3 q4 q6
                have q0 := k0.cell
                have q2 := k1.cell
                have q3 := k1.frozen
                have q4 := k1.lt
                have q6 := k0.lt
                have q7 := k3.cell
                have hput := mPut_any A n c x.key ⟨2, [], cd.lo, cd.hi, moveV x cd⟩ A3 n3 c3 xs B W3 (by omega) (by omega) hnc (h.below hb03 hB) (HY0.out.below hb03 hB)
                simp only [mkCell] at hput
                have HPUT := hide hput
                clear hput
                go_wp2_with fail
                (with_reducible refine HPUT.out.mono ?_)
                rintro e w4 hp
                have hp' := hp
                obtain ⟨A', c', rfl, hlen, hr, hfr, hok4, hb4⟩ := hp'
                clear hr hfr hok4 q0 q2 q3 q7 HPUT
                generalize hys : putV xs x.key ⟨2, [], cd.lo, cd.hi, moveV x cd⟩ _ = ys at *
                have HYS := hide hys
                clear hys
                have k5 := Blk.via hb4 k1
                have q2 := k5.cell
                have q3 := k5.frozen
                have q5 := k5.lt
                go_wp2
                refine bodyPost_ret (v := .tuple #[.slice A' ys.length c', ansV 0 cell0 (.slice none 0 0)]) (by simp [results, Tryz.results57, go_sem, q2, ansV, cell0]) rfl ?_
                refine step_put (g := w.heap.size + 1) (B := B) ?_ hp (by omega) (by omega) hb03 (by (repeat first | (with_reducible refine Touch.one ?_ _) | (with_reducible refine Touch.drew ?_)); exact Touch.refl _) (by omega)
                rw [← HYS.out, putV_map]
                rw [HST.out]
                rfl
end Go.Proofs.YteidmdnhkgcnoaaGreat
