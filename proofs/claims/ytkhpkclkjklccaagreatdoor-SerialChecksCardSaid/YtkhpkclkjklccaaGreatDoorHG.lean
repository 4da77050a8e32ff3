/-
  serial.Check: the plain law of P34.3, and the program's walk.
-/
import Derived.Test.YtkhpkclkjklccaaGreatDoorHE
import Derived.Test.YtkhpkclkjklccaaGreatDoorPQ
import Derived.Test.YtkhpkclkjklccaaGreatDoorWI
namespace Go.Proofs.YtkhpkclkjklccaaGreatDoor
open Go.RowKit Go.Maps

/-- P34.3: what the committed did. -/
def allD (xs : List EvV) : List DidD := (xs.filter (fun x => x.d.act == 1 && decide (x.d.txn ∈ comL xs))).map (fun x => didOfEv x.d)
theorem allD_those (xs : List EvV) : ((thoseL xs 1 xs.length).filter (fun x => decide (x.1.d.txn ∈ comL xs))).map (fun x => didOfEv x.1.d) = allD xs := by
  have h := thoseL_map xs 1 xs.length (Nat.le_refl _)
  rw [List.take_length] at h
  unfold allD
  have e : (fun x : EvIn xs => didOfEv x.1.d) = (fun x : EvV => didOfEv x.d) ∘ (fun x : EvIn xs => x.1) := rfl
  rw [e, ← List.map_map]
  congr 1
  have e2 : ((thoseL xs 1 xs.length).filter (fun x => decide (x.1.d.txn ∈ comL xs))).map (fun x => x.1) = ((thoseL xs 1 xs.length).map (fun x => x.1)).filter (fun x => decide (x.d.txn ∈ comL xs)) := by
    rw [List.filter_map]; rfl
  rw [e2, h, List.filter_filter]
  congr 1
  funext x
  rw [Bool.and_comm]
  congr 1
theorem allD_mem {xs : List EvV} {d : DidD} (h : d ∈ allD xs) : ∃ x ∈ xs, d = didOfEv x.d := by
  obtain ⟨x, hx, rfl⟩ := List.mem_map.1 h
  exact ⟨x, (List.mem_filter.1 hx).1, rfl⟩
theorem allD_len (xs : List EvV) : (allD xs).length ≤ xs.length := by
  unfold allD
  rw [List.length_map]
  exact List.length_filter_le _ _
/-- P34.3: what the committed did, that counts. -/
def didD (xs : List EvV) : List DidD := (allD xs).filter countsD
theorem keep_map {l : List DidV} {K : List DidD} (h : l.map DidV.d = K) : (keepL l).map DidV.d = K.filter countsD := by
  subst h
  unfold keepL
  rw [List.filter_map]
  rfl

def rankD (zs : List Int) (d : DidD) : Int := plc zs d.txn
def comD (a b : DidD) : Bool := commute a.op b.op
theorem rank_mapD (zs : List Int) (xs : List DidV) : xs.map (rank zs) = (xs.map DidV.d).map (rankD zs) := by
  rw [List.map_map]; rfl
theorem ord_map (zs : List Int) : ∀ (f : Nat) (xs : List DidV), (ord comV (rank zs) f xs).map (List.map DidV.d) = ord comD (rankD zs) f (xs.map DidV.d)
  | 0, _ => rfl
  | f + 1, xs => by
    unfold ord
    rw [← rank_mapD]
    cases wrg (xs.map (rank zs)) with
    | none => rfl
    | some i =>
      simp only [List.getElem?_map]
      cases xs[i]? with
      | none => rfl
      | some a =>
        cases xs[i + 1]? with
        | none => rfl
        | some b =>
          simp only [Option.map_some]
          show Option.map _ (if comV a b = true then _ else none) = if comD a.d b.d = true then _ else none
          have e : comV a b = comD a.d b.d := rfl
          rw [e, ← swp_map]
          cases comD a.d b.d
          · rfl
          · exact ord_map zs f (swp xs i)
theorem ord_permD (zs : List Int) : ∀ (f : Nat) (l ys : List DidD), ord comD (rankD zs) f l = some ys → ys.Perm l
  | 0, l, ys, h => by
    simp only [ord, Option.some.injEq] at h
    subst h
    exact .refl _
  | f + 1, l, ys, h => by
    unfold ord at h
    split at h
    · injection h with h; subst h; exact .refl _
    · split at h
      · split at h
        · exact (ord_permD zs f _ ys h).trans (swp_perm _ _)
        · cases h
      · cases h
/-- P34.3: what is told. -/
def checkD (s : List PairD) (K : List DidD) (zs : List Int) : Int × Int :=
  if K.any (fun d => decide (rankD zs d < 0)) then (0, 1) else
  match ord comD (rankD zs) (invs (K.map (rankD zs))) K with
  | none => (0, 15)
  | some ys => if (replayD s ys).2 < ys.length then (0, 14) else ((invs (K.map (rankD zs)) : Nat), 0)
/-- Order's word, as data. -/
theorem OrdPost.data {w w' : World} {n : Nat} {xs : List DidV} {zs : List Int} {e : Ending} {K : List DidD} (h : OrdPost w n xs zs e w') (hK : xs.map DidV.d = K) :
    Below w.heap.size w w' ∧ ((K.any (fun d => decide (rankD zs d < 0)) = true ∧ e = .returned (.tuple #[.slice none 0 0, .int .i64 0, .int .i64 1])) ∨
      (K.any (fun d => decide (rankD zs d < 0)) = false ∧ ord comD (rankD zs) (invs (K.map (rankD zs))) K = none ∧ e = .returned (.tuple #[.slice none 0 0, .int .i64 0, .int .i64 15])) ∨
      (K.any (fun d => decide (rankD zs d < 0)) = false ∧ ∃ (ys' : List DidV) (A : Option Addr) (c : Nat), ord comD (rankD zs) (invs (K.map (rankD zs))) K = some (ys'.map DidV.d) ∧
        e = .returned (.tuple #[.slice A n c, .int .i64 (invs (K.map (rankD zs)) : Nat), .int .i64 0]) ∧ Dids w' w'.heap.size A n ys')) := by
  have hr : xs.map (rank zs) = K.map (rankD zs) := by rw [rank_mapD, hK]
  have hall : (∀ x ∈ xs, 0 ≤ rank zs x) → K.any (fun d => decide (rankD zs d < 0)) = false := fun hx => by
    rw [List.any_eq_false]
    intro d hd
    rw [← hK] at hd
    obtain ⟨x, hx', rfl⟩ := List.mem_map.1 hd
    have := hx x hx'
    have e : rank zs x = rankD zs x.d := rfl
    simp
    omega
  obtain ⟨hb, ⟨⟨x, hx, hlt⟩, he⟩ | ⟨ha, ⟨ho, he⟩ | ⟨ys, ys', A, c, ho, hy, hi, he, hD⟩⟩⟩ := h
  · refine ⟨hb, .inl ⟨?_, he⟩⟩
    rw [List.any_eq_true]
    exact ⟨x.d, by rw [← hK]; exact List.mem_map.2 ⟨x, hx, rfl⟩, decide_eq_true hlt⟩
  · refine ⟨hb, .inr (.inl ⟨hall ha, ?_, he⟩)⟩
    have := ord_map zs (invs (xs.map (rank zs))) xs
    rw [ho, hK, hr] at this
    exact this.symm
  · refine ⟨hb, .inr (.inr ⟨hall ha, ys', A, c, ?_, by rw [← hr]; exact he, hD⟩)⟩
    have := ord_map zs (invs (xs.map (rank zs))) xs
    rw [ho, hK, hr] at this
    rw [← this, hy]
    rfl
def ChkPost (s : List PairD) (K : List DidD) (zs : List Int) (w : World) (e : Ending) (w' : World) : Prop :=
  e = .returned (.tuple #[.int .i64 (checkD s K zs).1, .int .i64 (checkD s K zs).2]) ∧ Below w.heap.size w w'

theorem ownsMap_via {P : Program} {k : TypeId} {R : Value → Option (DataW Unit × List MemPlace)} {W W' : World} {b n : Nat} {D : DataW Unit} (h : W.ownsMap P k R b n D) (hb : Below W.heap.size W W') : W'.ownsMap P k R b n D := by
  have hl := h.lt
  obtain ⟨es, clock, he, r⟩ := h
  exact ⟨es, clock, (hb.block b hl).trans he, r⟩

set_option maxHeartbeats 4000000 in
set_option maxRecDepth 100000 in
theorem sCheck_any (Ap : Option Addr) (np cp : Nat) (ps : List PairV) (A : Option Addr) (m c : Nat) (xs : List EvV) (B : Nat) (w : World) (hB : B ≤ w.heap.size) (hn : np ≤ 1000) (hm : m ≤ 1000) (hP : Pairs w B Ap np ps) (hpl : ∀ x ∈ ps, x.d.cell.data.length ≤ 1000000) (h : Evs w B A m xs)
    (hR : RightS (ps.map PairV.d)) (hW : WfS (ps.map PairV.d)) (hX : ∀ x ∈ xs, OpWf x.d.op ∧ x.d.op.data.length ≤ 1000000 ∧ x.d.cell.data.length ≤ 1000000 ∧ wfI x.d.txn) (ht : Tab w) (hg : 0 < w.heap.size) :
    Calls Tryz.prog 8 #[.slice Ap np cp, .slice A m c] w (ChkPost (ps.map PairV.d) (didD xs) (comL xs) w) := by
  have HL := hide h.1
  have HX := hide hX
  have HPL := hide hpl
  have HR := hide hR
  have HW := hide hW
  have HCO := hide (sCommitted_any A m c xs B w hB (by omega) h)
  have hcl : (comL xs).length ≤ 1000 := Nat.le_trans (comL_len xs) (by have := HL.out; omega)
  have hwz : ∀ z ∈ comL xs, wfI z := fun z hz => by
    obtain ⟨x, hx, rfl⟩ := List.mem_map.1 hz
    exact (hX x (List.mem_filter.1 hx).1).2.2.2
  have HWZ := hide hwz
  clear hX hpl hR hW hwz
  go_enter Tryz.func8, Tryz.ntmps8
  go_wp2_with fail
  refine HCO.out.mono ?_
  rintro e w1 ⟨Az, cz, rfl, hz, hb1⟩
  clear HCO
  obtain ⟨n, hnz⟩ : ∃ n, n = (comL xs).length := ⟨_, rfl⟩
  rw [← hnz] at hz hcl ⊢
  have HNZ := hide hnz
  clear hnz
  have hmm := run_makeMap_hint (P := Tryz.prog) 57 3 58 .i64 (n : Int) Tryz.underlying57
  have hmf : ∀ (fn : Fn) (first cap : Array Value) (w : World), (Instr.makeFunc fn first cap).run Tryz.prog w = .ok (.func fn first cap) w := fun _ _ _ _ => rfl
  go_wp2
  go_loopw [23] (fun i wr => ∃ (k : Nat) (D : DataW Unit), k ≤ n ∧ i = .int .i64 k ∧ wr.ownsMap Tryz.prog 3 unitElem w1.heap.size k D ∧ SetMap D ((comL xs).take k) ∧ Blk wr (w1.heap.size + 1) 57 #[.map (some w1.heap.size)] ∧ Below w1.heap.size w1 wr) (fun i _ => n - (intOf i).toNat)
  case atStart => exact ⟨0, .map [], Nat.zero_le _, rfl, (World.ownsMap_made _ _ _ _).alloc _, by simpa using SetMap.start, by simpa using Blk.new (w1.alloc (.map #[] 0)) 57 #[.map (some w1.heap.size)], ((Below.refl _ _).alloc (Nat.le_refl _) _).alloc (by simp) _⟩
  case round =>
    obtain ⟨k, D, hk, rfl, hown, hset, hkB, hbw⟩ := hrel
    have HSET := hide hset
    clear hset
    have hb0w := below_via hb1 hbw hb1.size
    by_cases hlt : k < n
    · obtain ⟨b, o, y, rfl, hb, hy, hcell⟩ := (hz.below hbw (Nat.le_refl _)).at_ hlt
      have hwy : wfI y := HWZ.out y (List.mem_of_getElem? hy)
      have HY := hide hy
      have HWY := hide hwy
      clear hy hwy
      have hzz := hbw.size
      have q0 := hkB.cell 0
      have l0 := hkB.lt
      have hbz : b < wr.heap.size := by omega
      have s1 : (k : Int) < n := by omega
      have s2 : (0 : Int) ≤ k := by omega
      go_wp2_with (at_mapUpdate; refine wpList_mapUpdate_own _ rfl _ _ _ 57 rfl 3 58 law_int Tryz.underlying57 _ w1.heap.size k _ rfl hown (by unfold maxLen; omega) _ _ _ rfl rfl (keyOf_int_mk Tryz.underlying3 HWY.out) _ [] unitElem_mk ?_; intro w2 hown2 hgrow2)
      go_roundw
      case rel =>
        have hnew := HSET.out.add (y := y) (v := .agg []) hown.isMap
        rw [← take_snoc' HY.out] at hnew
        exact ⟨k + 1, _, by omega, by go_num, hown2, hnew, hkB.grown hgrow2 (by simp), hbw.grown hgrow2 hbw.size (fun j hj => by cases hj; exact Nat.le_refl _)⟩
      case measure => simp [intOf]; omega
    · obtain rfl : k = n := by omega
      have hset : SetMap D (comL xs) := by have := HSET.out; rwa [List.take_of_length_le (by have := HNZ.out; omega)] at this
      have hDID := hDid_any A m c xs (fun t => decide (t ∈ comL xs)) (w1.heap.size + 1) wr hm ((h.below hb0w hB).more (Nat.le_trans hB hb0w.size)) (fun x hx => ⟨(HX.out x hx).2.1, (HX.out x hx).2.2.1⟩) (fun x hx => (HX.out x hx).2.2.2)
        (hide (fun W t ht' hb => isIn_any t (w1.heap.size + 1) w1.heap.size k (comL xs) D W ht' (Blk.via hb hkB) (ownsMap_via hown hb) hset))
      have HDID := hide hDID
      clear hDID hset HSET hown hkB
      go_wp2_with fail
      refine HDID.out.mono ?_
      rintro e w2 ⟨v, done, rfl, hrow, hd, hb2⟩
      rw [allD_those] at hd
      have HD := hide hd
      have hdl : done.length ≤ 1000 := by
        have e1 := congrArg List.length hd
        rw [List.length_map] at e1
        have := allD_len xs
        have := HL.out
        omega
      have hdm : ∀ y ∈ done, ∃ x ∈ xs, y.d = didOfEv x.d := fun y hy => allD_mem (by rw [← hd]; exact List.mem_map.2 ⟨y, hy, rfl⟩)
      have HDM := hide hdm
      clear hd hdm HDID
      have HDEL := hide (deleteFunc_any v done wr.heap.size w2 hb2.size (by omega) hrow)
      go_wp2_with fail
      refine HDEL.out.mono ?_
      rintro e w3 ⟨v2, rfl, hrow2, hb3⟩
      have hb02 := below_via hb0w hb2 hb0w.size
      have hb03 := hb02.trans (hb3.mono hb0w.size)
      have hkl : (keepL done).length ≤ 1000 := Nat.le_trans (List.length_filter_le _ _) hdl
      obtain ⟨A2, c2, rfl, hnc2, _, _, hR2, _⟩ := own_slice hrow2.1
      have hD2 : Dids w3 w3.heap.size A2 (keepL done).length (keepL done) := ⟨rfl, hR2, fun y hy => ⟨(hrow2.2 y hy).1.bytes, (hrow2.2 y hy).2.bytes⟩⟩
      have hkm : ∀ y ∈ keepL done, ∃ x ∈ xs, y.d = didOfEv x.d := fun y hy => HDM.out y (List.mem_filter.1 hy).1
      have hz3 := hb03.size
      have HORD := hide (sOrder_any A2 Az (keepL done).length c2 k cz (keepL done) (comL xs) w3.heap.size w3 (Nat.le_refl _) (by omega) (by omega) hnc2 hD2 (((hz.below (hbw.trans ((hb2.mono hbw.size).trans (hb3.mono hbw.size))) (Nat.le_refl _))).more (by have := hb1.size; have := hbw.size; have := hb2.size; have := hb3.size; omega))
        (fun y hy => by obtain ⟨x, hx, e⟩ := hkm y hy; rw [e]; exact (HX.out x hx).2.2.2) HWZ.out (fun y hy => by obtain ⟨x, hx, e⟩ := hkm y hy; rw [e]; exact ⟨(HX.out x hx).2.1, (HX.out x hx).2.2.1⟩) (ht.below hb03 hg) (by omega))
      have HKM := hide hkm
      have HKD : Hid ((keepL done).map DidV.d = didD xs) := hide (keep_map HD.out)
      clear hkm hnc2 hR2 HDEL
      go_wp2_with fail
      refine HORD.out.mono ?_
      intro e w4 hpo
      obtain ⟨hb4, hpo⟩ := hpo.data HKD.out
      have hb04 := below_via hb03 hb4 hz3
      obtain ⟨hany, rfl⟩ | ⟨hany, hord, rfl⟩ | ⟨hany, ys, A4, c4, hord, rfl, hD4⟩ := hpo
      · have HE := hide (show checkD (ps.map PairV.d) (didD xs) (comL xs) = (0, 1) by unfold checkD; rw [if_pos hany])
        clear hany
        go_wp2
        go_ret2
        refine ⟨?_, hb04⟩
        rw [HE.out]
        rfl
      · have HE := hide (show checkD (ps.map PairV.d) (didD xs) (comL xs) = (0, 15) by unfold checkD; rw [if_neg (by rw [hany]; decide), hord])
        clear hany hord
        go_wp2
        go_ret2
        refine ⟨?_, hb04⟩
        rw [HE.out]
        rfl
      · have hys : ys.length ≤ 1000 := by rw [← hD4.1]; exact hkl
        have hym : ∀ y ∈ ys, ∃ x ∈ xs, y.d = didOfEv x.d := fun y hy => by
          have h1 := (ord_permD _ _ _ _ hord).mem_iff.1 (List.mem_map.2 ⟨y, hy, rfl⟩)
          exact allD_mem (List.mem_filter.1 h1).1
        have HCK := hide (show checkD (ps.map PairV.d) (didD xs) (comL xs) = if (replayD (ps.map PairV.d) (ys.map DidV.d)).2 < ys.length then ((0 : Int), (14 : Int)) else (((invs ((didD xs).map (rankD (comL xs))) : Nat) : Int), 0) by unfold checkD; rw [if_neg (by rw [hany]; decide), hord]; simp only [List.length_map])
        have HREP := hide (pReplay_any Ap np cp ps A4 (keepL done).length c4 ys w4.heap.size w4 (Nat.le_refl _) hn (by omega) ((hP.below hb04 hB).more (Nat.le_trans hB hb04.size)) HPL.out hD4 HR.out HW.out (fun y hy => by obtain ⟨x, hx, e⟩ := hym y hy; rw [e]; exact ⟨(HX.out x hx).1, (HX.out x hx).2.1⟩))
        have HYL := hide hD4.1
        have hinv := invs_le ((didD xs).map (rankD (comL xs)))
        clear hany hord hym
        generalize invs ((didD xs).map (rankD (comL xs))) = I at *
        clear hrow2 HORD hrow
        generalize (keepL done).length = M at *
        go_wp2_with fail
        refine HREP.out.mono ?_
        rintro e w5 ⟨A5, c5, zs, rfl, _, _, hb5⟩
        have hb05 := below_via hb04 hb5 hb04.size
        generalize (replayD (ps.map PairV.d) (ys.map DidV.d)).2 = N at *
        by_cases hlt2 : N < M
        · go_wp2
          go_ret2
          refine ⟨?_, hb05⟩
          rw [HCK.out, if_pos (by rw [← HYL.out]; exact hlt2)]
          rfl
        · go_wp2
          go_ret2
          refine ⟨?_, hb05⟩
          rw [HCK.out, if_neg (by rw [← HYL.out]; exact hlt2)]
          rfl
end Go.Proofs.YtkhpkclkjklccaaGreatDoor
