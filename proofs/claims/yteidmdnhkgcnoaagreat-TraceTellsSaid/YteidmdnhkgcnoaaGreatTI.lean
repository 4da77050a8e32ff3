/-
  WALKS OF THE REFERENCE: ref33.Story, ref33.Stories.
  WALKS OF THE PROGRAM: trace.Subset, trace.Without.
  WALKS OF THE REFERENCE: moneyerref36.Kept, Without, replay, Final, Subset.
-/
import Derived.Test.YteidmdnhkgcnoaaGreatTB
import Derived.Test.YteidmdnhkgcnoaaGreatHE
import Derived.Deep.RegionHeld3
import Derived.BigQuiet
import Derived.Deep.QuietTactic
import Derived.Test.YteidmdnhkgcnoaaGreatTF
import Derived.Test.YteidmdnhkgcnoaaGreatHH
namespace Go.Proofs.YteidmdnhkgcnoaaGreat
open Go.RowKit

def s0 (d : EvD) : StoD := ⟨d.txn, d.client, 0, false⟩
structure FoldSt (w : World) (s : StoD) (W : World) : Prop where
  res : Blk W w.heap.size 64 stoZ
  box : Blk W (w.heap.size + 1) 64 s.cells.toArray
  b : Below w.heap.size w W
theorem FoldSt.set {w W : World} {s s' : StoD} {j : Nat} {u : Value} (h : FoldSt w s W) (hs : s'.cells = s.cells.set j u) : FoldSt w s' (W.setCell ⟨w.heap.size + 1, j, none⟩ u) :=
  ⟨h.res.far (by simp) _, by have := h.box.set_ j u; rw [hs]; simpa using this, h.b.setCell (p := ⟨w.heap.size + 1, j, none⟩) (by simp) _⟩
theorem FoldSt.drewN {w W : World} {s : StoD} (h : FoldSt w s W) (n : Nat) : FoldSt w s (W.drewN n) := ⟨h.res.drewN n, h.box.drewN n, below_drewN h.b n⟩
theorem fold_take {xs : List EvV} {k : Nat} {x : EvV} (s : StoD) (h : xs[k]? = some x) : fold s ((xs.map EvV.d).take (k + 1)) = if x.d.txn == s.txn then rupd (fold s ((xs.map EvV.d).take k)) x.d else fold s ((xs.map EvV.d).take k) := by
  have h2 : (xs.map EvV.d)[k]? = some x.d := by rw [List.getElem?_map, h]; rfl
  rw [take_snoc1 h2, fold_snoc]

set_option maxHeartbeats 4000000 in
set_option maxRecDepth 100000 in
theorem rStory_any (A : Option Addr) (m c : Nat) (xs : List EvV) (B i : Nat) (x0 : EvV) (w : World) (hB : B ≤ w.heap.size) (hm : m ≤ 1000000) (h : Evs w B A m xs) (hi : xs[i]? = some x0) :
    Calls Tryz.prog 51 #[.slice A m c, .int .i64 (i : Nat)] w fun e w' => e = .returned (stoA (fold (s0 x0.d) (xs.map EvV.d))) ∧ Below w.heap.size w w' := by
  have HL := hide h.1
  have HE := hide h
  have him : i < m := by rw [h.1]; exact (List.getElem?_eq_some_iff.1 hi).1
  obtain ⟨b, o, x, hA, hb, hkx, hok, _⟩ := h.at_ him
  subst hA
  obtain rfl : x = x0 := by rw [hi] at hkx; injection hkx with e; exact e.symm
  have HRW := hide (fun W (hb : Below w.heap.size w W) => ((h.below hb hB).row hi))
  have t1 : (i : Int) < m := by omega
  have t2 : (0 : Int) ≤ i := by omega
  have hbw : b < w.heap.size := by omega
  obtain ⟨d0, dv0, cv0⟩ := x
  dsimp only at *
  have c1 := (HRW.out w (Below.refl _ _)).2.1
  have c2 := (HRW.out w (Below.refl _ _)).2.2.1
  dsimp only at c1 c2
  have HKP := hide (fun W (hb : Below w.heap.size w W) => show W.cell? ⟨b, o + i * 15 + 2, none⟩ = some (.int .i64 d0.txn) ∧ W.cell? ⟨b, o + i * 15 + 1, none⟩ = some (.int .i64 d0.client) from ⟨(HRW.out W hb).2.2.1, (HRW.out W hb).2.1⟩)
  clear hok hkx hi HRW
  go_enter Tryz.func51, Tryz.ntmps51
  go_wp2
  go_region_held3 (fun w' => w'.cell? ⟨b, o + i * 15 + 2, none⟩ = some (.int .i64 d0.txn) ∧ w'.cell? ⟨b, o + i * 15 + 1, none⟩ = some (.int .i64 d0.client))
    (first | (with_reducible exact HKP.out _ ((Below.refl _ _).alloc (Nat.le_refl _) _).drew) | (with_reducible exact HKP.out _ (below2 _ _ _).drew)) (fail)
  have HB1 := hide (show Blk ((w.alloc (.cells stoZ 64)).alloc (.cells (s0 d0).cells.toArray 64)) (w.heap.size + 1) 64 (s0 d0).cells.toArray by have := Blk.new (w.alloc (.cells stoZ 64)) 64 (s0 d0).cells.toArray; rwa [World.size_alloc] at this)
  have hst0 : FoldSt w (fold (s0 d0) ((xs.map EvV.d).take 0)) ((w.alloc (.cells stoZ 64)).alloc (.cells (s0 d0).cells.toArray 64)).drew :=
    ⟨((Blk.new w 64 stoZ).alloc _).drew, HB1.out.drew, (below2 _ _ _).drew⟩
  have HST0 := hide hst0
  clear hst0 c1 c2 HKP
  go_wp2
  go_loopw [6] (fun i wr => ∃ k : Nat, k ≤ m ∧ i = .int .i64 k ∧ FoldSt w (fold (s0 d0) ((xs.map EvV.d).take k)) wr) (fun i _ => m - (intOf i).toNat)
  case atStart => exact ⟨0, Nat.zero_le _, rfl, HST0.out⟩
  case round =>
    obtain ⟨k, hk, rfl, hst⟩ := hrel
    by_cases hlt : k < m
    · have hE := HE.out.below hst.b hB
      obtain ⟨b', o', x, e, hb', hkx, hok, _⟩ := hE.at_ hlt
      have e1 : (⟨b, o, none⟩ : Addr) = ⟨b', o', none⟩ := by injection e
      obtain ⟨rfl, rfl⟩ : b = b' ∧ o = o' := by simpa using e1
      have hft := fold_take (s0 d0) hkx
      obtain ⟨d, dv, cv⟩ := x
      obtain ⟨e0, _, e2, e3, _, _, _, _, _, e9, _⟩ := hE.row hkx
      have htx : (fold (s0 d0) ((xs.map EvV.d).take k)).txn = d0.txn := fold_txn _ _
      have hs0 : (s0 d0).txn = d0.txn := rfl
      rw [hs0] at hft
      generalize hf : fold (s0 d0) ((xs.map EvV.d).take k) = s at *
      have HFT := hide hft
      have HST := hide hst
      clear hE hkx hok hft hf e e1 hs0
      obtain ⟨ts, cl, fa, wro⟩ := s
      dsimp only at htx e0 e2 e3 e9
      subst htx
      have kb := HST.out.box
      have q0 := kb.cell 0
      have qb := kb.frozen
      have lb := kb.lt
      have q2 := kb.cell 2
      have q3 := kb.cell 3
      have hz := HST.out.b.size
      have hbr : b < wr.heap.size := by omega
      have s1 : (k : Int) < m := by omega
      have s2 : (0 : Int) ≤ k := by omega
      simp only [StoD.cells] at q0 q2 q3
      clear kb hst
      cases t3 : (d.txn != d0.txn)
      · have t4 : (d.txn == d0.txn) = true := by simpa using t3
        have HT := hide t4
        clear t4
        go_wp2
        go_quiet (fail)
        by_cases f1 : 2 ≤ d.act
        · by_cases f2 : d.act ≤ 4
          · have f3 : ((d.act : Int) == 1) = false := by simp; omega
            go_wp2
            go_roundw
            case rel => exact ⟨k + 1, by omega, by go_num, by rw [HFT.out, if_pos HT.out]; exact (HST.out.drewN _).set (by simp [rupd, StoD.cells, f1, f2, f3])⟩
            case measure => simp [intOf]; omega
          · have f3 : ((d.act : Int) == 1) = false := by simp; omega
            have f4 : ¬ (2 ≤ d.act ∧ d.act ≤ 4) := by omega
            have HF4 := hide f4
            clear f4
            go_wp2
            go_roundw
            case rel => exact ⟨k + 1, by omega, by go_num, by rw [HFT.out, if_pos HT.out]; unfold rupd; rw [if_neg HF4.out, f3]; simpa using HST.out.drewN _⟩
            case measure => simp [intOf]; omega
        · have f4 : ¬ (2 ≤ d.act ∧ d.act ≤ 4) := by omega
          have HF4 := hide f4
          clear f4
          cases f3 : ((d.act : Int) == 1)
          · go_wp2
            go_roundw
            case rel => exact ⟨k + 1, by omega, by go_num, by rw [HFT.out, if_pos HT.out]; unfold rupd; rw [if_neg HF4.out, f3]; simpa using HST.out.drewN _⟩
            case measure => simp [intOf]; omega
          · cases o1 : ((d.op.act : Int) != 0)
            · go_wp2
              go_roundw
              case rel => exact ⟨k + 1, by omega, by go_num, by rw [HFT.out, if_pos HT.out]; unfold rupd; rw [if_neg HF4.out, o1]; simpa using HST.out.drewN _⟩
              case measure => simp [intOf]; omega
            · cases o2 : ((d.err : Int) == 0)
              · go_wp2
                go_roundw
                case rel => exact ⟨k + 1, by omega, by go_num, by rw [HFT.out, if_pos HT.out]; unfold rupd; rw [if_neg HF4.out, o2]; simpa using HST.out.drewN _⟩
                case measure => simp [intOf]; omega
              · go_wp2
                go_roundw
                case rel => exact ⟨k + 1, by omega, by go_num, by rw [HFT.out, if_pos HT.out]; exact (HST.out.drewN _).set (by unfold rupd; rw [if_neg HF4.out, f3, o1, o2]; simp [StoD.cells])⟩
                case measure => simp [intOf]; omega
      · have t4 : (d.txn == d0.txn) = false := by simpa using t3
        have HT := hide t4
        clear t4
        go_wp2
        go_quiet (fail)
        go_wp2
        go_roundw
        case rel => exact ⟨k + 1, by omega, by go_num, by rw [HFT.out, if_neg (by rw [HT.out]; decide)]; exact HST.out.drewN _⟩
        case measure => simp [intOf]; omega
    · obtain rfl : k = m := by omega
      have hfull : (xs.map EvV.d).take k = xs.map EvV.d := List.take_of_length_le (by rw [List.length_map]; have := HL.out; omega)
      rw [hfull] at hst
      generalize hfs : fold (s0 d0) (xs.map EvV.d) = s at hst
      obtain ⟨ts, cl, fa, wro⟩ := s
      have HFS := hide hfs
      clear hfs
      have qb := hst.box.cell
      have lb := hst.box.lt
      have qr := hst.res.cell
      have fr := hst.res.frozen
      have lr := hst.res.lt
      have hb := hst.b
      unfold stoZ at qr
      simp only [StoD.cells] at qb
      clear hfull hst
      go_wp2
      refine bodyPost_ret (v := .agg #[.int .i64 ts, .int .i64 cl, .int .i64 fa, .bool wro]) (by simp [results, Tryz.results51, go_sem, qr]) rfl ⟨by rw [HFS.out]; rfl, ?_⟩
      exact (((hb.setCell (p := ⟨w.heap.size, 0, none⟩) (Nat.le_refl _) _).setCell (p := ⟨w.heap.size, 1, none⟩) (Nat.le_refl _) _).setCell (p := ⟨w.heap.size, 2, none⟩) (Nat.le_refl _) _).setCell (p := ⟨w.heap.size, 3, none⟩) (Nat.le_refl _) _

theorem uniq_begs {xs : List EvV} {k : Nat} {x : EvV} (h : xs[k]? = some x) : uniq (begsD ((xs.map EvV.d).take (k + 1))) =
    if (x.d.act == 0) && !decide (x.d.txn ∈ (uniq (begsD ((xs.map EvV.d).take k))).map StoD.txn) then uniq (begsD ((xs.map EvV.d).take k)) ++ [s0 x.d] else uniq (begsD ((xs.map EvV.d).take k)) := by
  have h2 : (xs.map EvV.d)[k]? = some x.d := by rw [List.getElem?_map, h]; rfl
  rw [take_snoc1 h2]
  unfold begsD
  rw [List.filter_append, List.map_append]
  cases ha : x.d.act == 0
  · simp [ha]
  · simp only [List.filter_cons, ha, if_true, List.filter_nil, List.map_cons, List.map_nil, Bool.true_and]
    rw [uniq_snoc]
    by_cases hm : x.d.txn ∈ (uniq (((xs.map EvV.d).take k |>.filter (fun d => d.act == 0)).map (fun d => (⟨d.txn, d.client, 0, false⟩ : StoD)))).map StoD.txn
    · rw [if_pos hm, if_neg (by simpa using hm)]
    · rw [if_neg hm, if_pos (by simpa using hm)]
      rfl

set_option maxHeartbeats 4000000 in
set_option maxRecDepth 100000 in
theorem rStories_any (A : Option Addr) (m c : Nat) (xs : List EvV) (B : Nat) (w : World) (hB : B ≤ w.heap.size) (hm : m ≤ 1000) (h : Evs w B A m xs) :
    Calls Tryz.prog 29 #[.slice A m c] w fun e w' => ∃ A' c', e = .returned (.slice A' (storiesD (xs.map EvV.d)).length c') ∧ Stos w' w'.heap.size A' (storiesD (xs.map EvV.d)).length (storiesD (xs.map EvV.d)) ∧ Below w.heap.size w w' := by
  have HL := hide h.1
  obtain ⟨i0, hi, hz0, hz1, hz2⟩ := info_parts info_int
  obtain ⟨i1, hi1, hy0, hy1, hy2⟩ := info_parts info_sto
  go_enter Tryz.func29, Tryz.ntmps29
  go_wp2
  go_loopw [3, 4, 5] (fun ov kv i wr => ∃ k : Nat, k ≤ m ∧ i = .int .i64 k ∧
      wr.ownsRow w.heap.size 64 4 ov ((uniq (begsD ((xs.map EvV.d).take k))).map (fun s => fold s (xs.map EvV.d))).length (((uniq (begsD ((xs.map EvV.d).take k))).map (fun s => fold s (xs.map EvV.d))).flatMap StoD.cells) ∧
      wr.ownsRow w.heap.size 3 1 kv ((uniq (begsD ((xs.map EvV.d).take k))).map StoD.txn).length (((uniq (begsD ((xs.map EvV.d).take k))).map StoD.txn).map (Value.int .i64)) ∧ Below w.heap.size w wr) (fun _ _ i _ => m - (intOf i).toNat)
  case atStart => exact ⟨0, Nat.zero_le _, rfl, World.ownsRow_nil _ _ _ _, World.ownsRow_nil _ _ _ _, Below.refl _ _⟩
  case round =>
    obtain ⟨k, hk, rfl, hro, hrk, hbw⟩ := hrel
    have hz := hbw.size
    by_cases hlt : k < m
    · have hE := h.below hbw hB
      obtain ⟨b, o, x, rfl, hb, hkx, hok, _⟩ := hE.at_ hlt
      obtain ⟨c0, c1, c2, _⟩ := hE.row hkx
      have hub := uniq_begs hkx
      have hul : (uniq (begsD ((xs.map EvV.d).take k))).length ≤ k := Nat.le_trans (uniq_len _) (Nat.le_trans (begsD_len _) (by rw [List.length_take]; omega))
      have HSTO := hide (fun W (hb2 : Below w.heap.size w W) => rStory_any (some ⟨b, o, none⟩) m c xs B k x W (Nat.le_trans hB hb2.size) (by omega) (h.below hb2 hB) hkx)
      have HUB := hide hub
      have s1 : (k : Int) < m := by omega
      have s2 : (0 : Int) ≤ k := by omega
      have hbz : b < wr.heap.size := by omega
      obtain ⟨d, dv, cv⟩ := x
      dsimp only at *
      clear hub hkx hok hE c1
      generalize hU : uniq (begsD ((xs.map EvV.d).take k)) = U at *
      clear hU
      cases t1 : ((d.act : Int) == 0)
      · have HT := hide t1
        go_wp2
        go_roundw
        case rel => exact ⟨k + 1, by omega, by go_num, by rw [HUB.out, HT.out]; exact hro, by rw [HUB.out, HT.out]; exact hrk, hbw⟩
        case measure => simp [intOf]; omega
      · have HT := hide t1
        rw [List.length_map] at hrk hro
        obtain ⟨A4, c4, rfl, hcap4, _⟩ := own_slice hrk
        have hI : Ints wr wr.heap.size A4 U.length (U.map StoD.txn) := ⟨by rw [List.length_map], Reads.of_own hrk⟩
        have HIN := hide (In_any A4 U.length c4 (U.map StoD.txn) d.txn wr.heap.size wr (by omega) hI)
        clear hcap4 hI
        cases t2 : decide (d.txn ∈ U.map StoD.txn)
        · rw [t2] at HIN
          have HT2 := hide t2
          obtain ⟨A3, c3, rfl, hcap3, _⟩ := own_slice hro
          have HRO := hide hro
          clear t2 hcap3 hro
          go_wp2_with (first
            | (go_at_call 30; (with_reducible refine HIN.out.mono ?_); rintro e w2 ⟨rfl, hw2⟩; subst hw2)
            | (at_builtin; refine wpList_append_any _ rfl (.tmp 28) (.tmp 34) _ rfl w.heap.size 3 i0 _ 1 8 Tryz.underlying24 hi hz0 hz1 hz2 rfl (by omega) _ _ _ rfl (hrk.alloc _) (wr.heap.size + 1) (some ⟨wr.heap.size, 0, none⟩) 1 1 [.int .i64 d.txn] rfl (by simpa using Reads.of_blk (size := 1) (n := 1) (Blk.new wr 3 #[.int .i64 d.txn]) rfl) (ints_one [d.txn]) (by unfold maxLen; omega) (by omega) (by simp; omega) ?_))
          intro v' w1 hk1 hg1 _
          have hrl := World.ownsRow.lt hrk
          have hbw1 : Below w.heap.size w w1 := (hbw.alloc hz _).grown hg1 (by simp; omega) (fun q hq => (hrl q hq).1)
          have hro1 := row_keep HRO.out (fun q hq => by
            have h1 := (World.ownsRow.lt HRO.out q hq).2
            refine (hg1.block q (by simp; omega) (fun e => ?_)).trans ((Below.heap_alloc _ _ q h1))
            obtain ⟨cur, e1⟩ := row_obj HRO.out hq
            obtain ⟨cur2, e2⟩ := row_obj hrk e.symm
            rw [e1] at e2
            injection e2 with e2
            injection e2 with _ e2
            cases e2)
          have hz1 := hbw1.size
          have HK1 := hide hk1
          clear hk1 hg1 c0 c2
          go_wp2_with fail
          refine (HSTO.out w1 hbw1).mono ?_
          rintro e w2 ⟨rfl, hb2⟩
          have hro2 := row_keep hro1 (fun q hq => hb2.block q (World.ownsRow.lt hro1 q hq).2)
          have hrk2 := row_keep HK1.out (fun q hq => hb2.block q (World.ownsRow.lt HK1.out q hq).2)
          have hbw2 := below_via hbw1 hb2 hz1
          have hz2' := hbw2.size
          have HRK2 := hide hrk2
          have hft : (fold (s0 d) (xs.map EvV.d)).txn = d.txn := fold_txn _ _
          clear hrk2 hro1 hft
          generalize hF : fold (s0 d) (xs.map EvV.d) = F at *
          obtain ⟨ft, fc, ff, fw⟩ := F
          have HF := hide hF
          clear hF
          simp only [stoA] at *
          go_wp2_with (at_builtin; refine wpList_append_any _ rfl (.tmp 36) (.tmp 40) _ rfl w.heap.size 64 i1 _ 4 32 Tryz.underlying61 hi1 hy0 hy1 hy2 rfl (by omega) _ _ _ rfl (hro2.alloc _) (w2.heap.size + 1) (some ⟨w2.heap.size, 0, none⟩) 1 1 (StoD.cells ⟨ft, fc, ff, fw⟩) rfl (Reads.of_blk (n := 1) (size := 4) (Blk.new _ _ _) rfl) (by simpa using stos_one [⟨ft, fc, ff, fw⟩]) (by unfold maxLen; omega) (by omega) (by simp; omega) ?_)
          intro v2 w3 ho3 hg3 _
          have hrl2 := World.ownsRow.lt hro2
          have HO3 := hide ho3
          have HG3 := hide hg3
          clear ho3 hg3
          go_wp2
          go_roundw
          case rel =>
            have hcond : ((d.act == 0) && !decide (d.txn ∈ U.map StoD.txn)) = true := by rw [HT.out, HT2.out]; rfl
            refine ⟨k + 1, by omega, by go_num, ?_, ?_, (hbw2.alloc hz2' _).grown HG3.out (by simp; omega) (fun q hq => (hrl2 q hq).1)⟩
            · rw [HUB.out, if_pos hcond, List.map_append, show List.map (fun s => fold s (xs.map EvV.d)) [s0 d] = [⟨ft, fc, ff, fw⟩] from by rw [List.map_cons, HF.out, List.map_nil]]
              simpa using HO3.out
            · rw [HUB.out, if_pos hcond, List.map_append]
              have := row_keep HRK2.out (W' := w3) (fun q hq => by
                have h1 := (World.ownsRow.lt HRK2.out q hq).2
                refine (HG3.out.block q (by simp; omega) (fun e => ?_)).trans ((Below.heap_alloc _ _ q h1))
                obtain ⟨cur, e1⟩ := row_obj HRK2.out hq
                obtain ⟨cur2, e2⟩ := row_obj hro2 e.symm
                rw [e1] at e2
                injection e2 with e2
                injection e2 with _ e2
                cases e2)
              simpa [s0] using this
          case measure => simp [intOf]; omega
        · rw [t2] at HIN
          have HT2 := hide t2
          clear t2
          go_wp2_with (go_at_call 30; (with_reducible refine HIN.out.mono ?_); rintro e w2 ⟨rfl, hw2⟩; subst hw2)
          go_roundw
          case rel =>
            have hcond : ¬ (((d.act == 0) && !decide (d.txn ∈ U.map StoD.txn)) = true) := by rw [HT.out, HT2.out]; decide
            exact ⟨k + 1, by omega, by go_num, by rw [HUB.out, if_neg hcond, List.length_map]; exact hro, by rw [HUB.out, if_neg hcond, List.length_map]; exact hrk, hbw⟩
          case measure => simp [intOf]; omega
    · obtain rfl : k = m := by omega
      have hfull : (xs.map EvV.d).take k = xs.map EvV.d := List.take_of_length_le (by rw [List.length_map]; have := HL.out; omega)
      rw [hfull] at hro
      have hro' : wr.ownsRow w.heap.size 64 4 _ (storiesD (xs.map EvV.d)).length ((storiesD (xs.map EvV.d)).flatMap StoD.cells) := hro
      obtain ⟨A3, c3, rfl, _, _, _, hR, _⟩ := own_slice hro'
      go_wp2
      go_ret
      exact ⟨_, _, rfl, ⟨rfl, hR⟩, hbw⟩
end Go.Proofs.YteidmdnhkgcnoaaGreat
namespace Go.Proofs.YteidmdnhkgcnoaaGreat
open Go.RowKit

/-- P36.3: those that ended, and of those under way the chosen ones. -/
def inSub (live : List Int) (s : StoD) : Bool := s.fate == 2 || ((s.fate == 0 || s.fate == 1) && decide (s.txn ∈ live))
def subL (live : List Int) (l : List StoD) : List Int := (l.filter (inSub live)).map StoD.txn
theorem subL_len (live : List Int) (l : List StoD) (k : Nat) : (subL live (l.take k)).length ≤ k := by
  unfold subL
  rw [List.length_map]
  exact Nat.le_trans (List.length_filter_le _ _) (List.length_take_le _ _)
theorem subL_yes {live : List Int} {l : List StoD} {k : Nat} {s : StoD} (h : l[k]? = some s) (hq : inSub live s = true) : subL live (l.take (k + 1)) = subL live (l.take k) ++ [s.txn] := by
  unfold subL
  rw [take_snoc1 h, List.filter_append]
  simp [hq]
theorem subL_no {live : List Int} {l : List StoD} {k : Nat} {s : StoD} (h : l[k]? = some s) (hq : inSub live s = false) : subL live (l.take (k + 1)) = subL live (l.take k) := by
  unfold subL
  rw [take_snoc1 h, List.filter_append]
  simp [hq]
def subK (xs : List EvV) (live : List Int) : List DidD := didT xs (subL live (storiesD (xs.map EvV.d)))


set_option maxHeartbeats 3200000 in
theorem Subset_any (Ap : Option Addr) (np cp : Nat) (ps : List PairV) (A O : Option Addr) (m c no oc : Nat) (xs : List EvV) (zs : List Int) (w : World) (hnp : np ≤ 1000) (hm : m ≤ 1000) (hno : no ≤ 1000) (hP : Pairs w w.heap.size Ap np ps) (hpl : ∀ x ∈ ps, x.d.cell.data.length ≤ 1000000) (h : Evs w w.heap.size A m xs) (ho : Ints w w.heap.size O no zs)
    (hR : RightS (ps.map PairV.d)) (hW : WfS (ps.map PairV.d)) (hX : ∀ x ∈ xs, OpWf x.d.op ∧ x.d.op.data.length ≤ 1000000 ∧ x.d.cell.data.length ≤ 1000000 ∧ wfI x.d.txn) :
    Calls Tryz.prog 10 #[.slice Ap np cp, .slice A m c, .slice O no oc] w (TrPost (ps.map PairV.d) (subK xs zs) w) := by
  have HSO := hide (sorted_any O no oc zs w.heap.size w (Nat.le_refl _) (by omega) ho)
  have HST := hide (fun W (hb : Below w.heap.size w W) => hStories_any A m c xs W hm ((h.below hb (Nat.le_refl _)).more hb.size) (fun x hx => (hX x hx).2.2.2))
  have hsl := storiesD_len (xs.map EvV.d)
  have hsm : (storiesD (xs.map EvV.d)).length ≤ m := by rw [h.1]; rw [List.length_map] at hsl; exact hsl
  have HT := hide (fun W (hb : Below w.heap.size w W) Oz ocz nz hnz ho => trReplay_any Ap np cp ps A Oz m c nz ocz xs (subL zs (storiesD (xs.map EvV.d))) W.heap.size W (Nat.le_refl _) hnp hm hnz ((hP.below hb (Nat.le_refl _)).more hb.size) hpl ((h.below hb (Nat.le_refl _)).more hb.size) ho hR hW hX)
  clear hP hpl h hR hW hX hsl ho
  unfold subK
  generalize storiesD (xs.map EvV.d) = l at *
  obtain ⟨i0, hi, hz0, hz1, hz2⟩ := info_parts info_int
  obtain ⟨n, hn⟩ : ∃ n, n = l.length := ⟨_, rfl⟩
  unfold StoPost at HST
  rw [← hn] at HST hsm
  have HL := hide hn
  clear hn
  go_enter Tryz.func10, Tryz.ntmps10
  go_wp2_with fail
  refine HSO.out.mono ?_
  rintro e w1 ⟨Az, cz, rfl, hzI, hb1⟩
  clear HSO
  go_wp2_with fail
  refine (HST.out _ hb1).mono ?_
  rintro e w2 ⟨A1, c1, rfl, hS, hb2⟩
  have hb02 := below_via hb1 hb2 hb1.size
  have hzI2 := (hzI.below hb2 (Nat.le_refl _))
  have hz12 := hb2.size
  clear HST hzI
  go_wp2
  go_loopw [9, 17] (fun t i wr => ∃ k : Nat, k ≤ n ∧ i = .int .i64 k ∧ wr.ownsRow w2.heap.size 3 1 t (subL zs (l.take k)).length ((subL zs (l.take k)).map (Value.int .i64)) ∧ Below w2.heap.size w2 wr) (fun _ i _ => n - (intOf i).toNat)
  case atStart => exact ⟨0, Nat.zero_le _, rfl, World.ownsRow_nil _ _ _ _, Below.refl _ _⟩
  case round =>
    obtain ⟨k, hk, rfl, hown, hbw⟩ := hrel
    have hz := hbw.size
    by_cases hlt : k < n
    · obtain ⟨b, o, s, rfl, hb, hs, c0, c1', c2, c3⟩ := (hS.below hbw (Nat.le_refl _)).at_ hlt
      have HK := hide hs
      obtain ⟨t, cl, fa, wro⟩ := s
      dsimp only at *
      clear hs
      have s1 : (k : Int) < n := by omega
      have s2 : (0 : Int) ≤ k := by omega
      have hbz : b < wr.heap.size := by omega
      have hlc := subL_len zs l k
      have hzr := hzI2.below hbw (by omega)
      go_upto_region 6 with fail
      refine gen1 (fun W kW hbW hzW => ?_)
      have hownW := row_keep hown (fun q hq => hbW.block q (World.ownsRow.lt hown q hq).2)
      have hbwW := below_via hbw hbW hz
      have hzW2 := hbwW.size
      have qW := kW.cell
      have lW := kW.lt
      have HH := hide (fun (_ : Unit) => has_any Az no cz (sortI zs) t w1.heap.size W (by omega) (hzr.below hbW (by omega)) (sortI_rise zs))
      have HMEM : Hid (decide (t ∈ sortI zs) = decide (t ∈ zs)) := hide (by simp only [sortI_mem])
      rw [HMEM.out] at HH
      clear c0 c1' c2 c3 hzr
      obtain ⟨A3, c3', rfl, hcap3, _⟩ := own_slice hownW
      clear hcap3
      cases t1 : ((fa : Int) == 2)
      · cases t2 : ((fa : Int) == 0)
        · cases t3 : ((fa : Int) == 1)
          · have HT := hide (show inSub zs ⟨t, cl, fa, wro⟩ = false by unfold inSub; simp only [t1, t2, t3, Bool.or_self, Bool.false_and])
            go_wp2
            go_roundw
            case rel => exact ⟨k + 1, by omega, by go_num, by rw [subL_no HK.out HT.out]; exact hownW, hbwW⟩
            case measure => simp [intOf]; omega
          · cases t4 : decide (t ∈ zs)
            · rw [t4] at HH
              have HT := hide (show inSub zs ⟨t, cl, fa, wro⟩ = false by unfold inSub; simp only [t1, t4, Bool.and_false, Bool.or_self])
              clear t4
              go_wp2_with (go_at_call 28; (with_reducible refine (HH.out ()).mono ?_); rintro e W3 ⟨rfl, hb3⟩)
              go_roundw
              case rel => exact ⟨k + 1, by omega, by go_num, by rw [subL_no HK.out HT.out]; exact row_keep hownW (fun q hq => hb3.block q (World.ownsRow.lt hownW q hq).2), below_via hbwW hb3 hbwW.size⟩
              case measure => simp [intOf]; omega
            · rw [t4] at HH
              have HT := hide (show inSub zs ⟨t, cl, fa, wro⟩ = true by unfold inSub; simp only [t1, t2, t3, t4, Bool.or_true, Bool.and_self])
              clear t4
              go_wp2_with (first
                | (go_at_call 28; (with_reducible refine (HH.out ()).mono ?_); rintro e W3 ⟨rfl, hb3⟩; have hown3 := row_keep hownW (fun q hq => hb3.block q (World.ownsRow.lt hownW q hq).2); have hbw3 := below_via hbwW hb3 hbwW.size; have hz3 := hbw3.size; have k3 := Blk.via hb3 kW; have q3 := k3.cell; have l3 := k3.lt)
                | (at_builtin; (first | refine wpList_append_any _ rfl (.tmp 25) (.tmp 28) _ rfl w2.heap.size 3 i0 _ 1 8 Tryz.underlying24 hi hz0 hz1 hz2 rfl (by omega) _ _ _ rfl (hown3.alloc _) _ (some ⟨W3.heap.size, 0, none⟩) 1 1 [.int .i64 t] rfl (by simpa using Reads.of_blk (size := 1) (n := 1) (Blk.new W3 3 #[.int .i64 t]) rfl) (ints_one [t]) (by unfold maxLen; omega) (by omega) (by simp; omega) ?_ | refine wpList_append_any _ rfl (.tmp 37) (.tmp 40) _ rfl w2.heap.size 3 i0 _ 1 8 Tryz.underlying24 hi hz0 hz1 hz2 rfl (by omega) _ _ _ rfl (hown3.alloc _) _ (some ⟨W3.heap.size, 0, none⟩) 1 1 [.int .i64 t] rfl (by simpa using Reads.of_blk (size := 1) (n := 1) (Blk.new W3 3 #[.int .i64 t]) rfl) (ints_one [t]) (by unfold maxLen; omega) (by omega) (by simp; omega) ?_)))
              intro v' w4 hown1 hg hat
              have hr0 := (World.ownsRow.lt hown3)
              go_wp2
              go_roundw
              case rel =>
                refine ⟨k + 1, by omega, by go_num, ?_, ?_⟩
                · rw [subL_yes HK.out HT.out]
                  simpa using hown1
                · exact (hbw3.alloc hz3 _).grown hg (by simp; omega) (fun q hq => (hr0 q hq).1)
              case measure => simp [intOf]; omega
        · cases t4 : decide (t ∈ zs)
          · rw [t4] at HH
            have HT := hide (show inSub zs ⟨t, cl, fa, wro⟩ = false by unfold inSub; simp only [t1, t4, Bool.and_false, Bool.or_self])
            clear t4
            go_wp2_with (go_at_call 28; (with_reducible refine (HH.out ()).mono ?_); rintro e W3 ⟨rfl, hb3⟩)
            go_roundw
            case rel => exact ⟨k + 1, by omega, by go_num, by rw [subL_no HK.out HT.out]; exact row_keep hownW (fun q hq => hb3.block q (World.ownsRow.lt hownW q hq).2), below_via hbwW hb3 hbwW.size⟩
            case measure => simp [intOf]; omega
          · rw [t4] at HH
            have HT := hide (show inSub zs ⟨t, cl, fa, wro⟩ = true by unfold inSub; simp only [t1, t2, t4, Bool.or_true, Bool.true_or, Bool.and_self])
            clear t4
            go_wp2_with (first
              | (go_at_call 28; (with_reducible refine (HH.out ()).mono ?_); rintro e W3 ⟨rfl, hb3⟩; have hown3 := row_keep hownW (fun q hq => hb3.block q (World.ownsRow.lt hownW q hq).2); have hbw3 := below_via hbwW hb3 hbwW.size; have hz3 := hbw3.size; have k3 := Blk.via hb3 kW; have q3 := k3.cell; have l3 := k3.lt)
              | (at_builtin; (first | refine wpList_append_any _ rfl (.tmp 25) (.tmp 28) _ rfl w2.heap.size 3 i0 _ 1 8 Tryz.underlying24 hi hz0 hz1 hz2 rfl (by omega) _ _ _ rfl (hown3.alloc _) _ (some ⟨W3.heap.size, 0, none⟩) 1 1 [.int .i64 t] rfl (by simpa using Reads.of_blk (size := 1) (n := 1) (Blk.new W3 3 #[.int .i64 t]) rfl) (ints_one [t]) (by unfold maxLen; omega) (by omega) (by simp; omega) ?_ | refine wpList_append_any _ rfl (.tmp 37) (.tmp 40) _ rfl w2.heap.size 3 i0 _ 1 8 Tryz.underlying24 hi hz0 hz1 hz2 rfl (by omega) _ _ _ rfl (hown3.alloc _) _ (some ⟨W3.heap.size, 0, none⟩) 1 1 [.int .i64 t] rfl (by simpa using Reads.of_blk (size := 1) (n := 1) (Blk.new W3 3 #[.int .i64 t]) rfl) (ints_one [t]) (by unfold maxLen; omega) (by omega) (by simp; omega) ?_)))
            intro v' w4 hown1 hg hat
            have hr0 := (World.ownsRow.lt hown3)
            go_wp2
            go_roundw
            case rel =>
              refine ⟨k + 1, by omega, by go_num, ?_, ?_⟩
              · rw [subL_yes HK.out HT.out]
                simpa using hown1
              · exact (hbw3.alloc hz3 _).grown hg (by simp; omega) (fun q hq => (hr0 q hq).1)
            case measure => simp [intOf]; omega
      · have HT := hide (show inSub zs ⟨t, cl, fa, wro⟩ = true by unfold inSub; simp only [t1, Bool.true_or])
        go_wp2_with (first
          | (go_at_call 28; (with_reducible refine (HH.out ()).mono ?_); rintro e W3 ⟨rfl, hb3⟩; have hown3 := row_keep hownW (fun q hq => hb3.block q (World.ownsRow.lt hownW q hq).2); have hbw3 := below_via hbwW hb3 hbwW.size; have hz3 := hbw3.size; have k3 := Blk.via hb3 kW; have q3 := k3.cell; have l3 := k3.lt)
          | (at_builtin; (first | refine wpList_append_any _ rfl (.tmp 25) (.tmp 28) _ rfl w2.heap.size 3 i0 _ 1 8 Tryz.underlying24 hi hz0 hz1 hz2 rfl (by omega) _ _ _ rfl (hownW.alloc _) _ (some ⟨W.heap.size, 0, none⟩) 1 1 [.int .i64 t] rfl (by simpa using Reads.of_blk (size := 1) (n := 1) (Blk.new W 3 #[.int .i64 t]) rfl) (ints_one [t]) (by unfold maxLen; omega) (by omega) (by simp; omega) ?_ | refine wpList_append_any _ rfl (.tmp 37) (.tmp 40) _ rfl w2.heap.size 3 i0 _ 1 8 Tryz.underlying24 hi hz0 hz1 hz2 rfl (by omega) _ _ _ rfl (hownW.alloc _) _ (some ⟨W.heap.size, 0, none⟩) 1 1 [.int .i64 t] rfl (by simpa using Reads.of_blk (size := 1) (n := 1) (Blk.new W 3 #[.int .i64 t]) rfl) (ints_one [t]) (by unfold maxLen; omega) (by omega) (by simp; omega) ?_)))
        intro v' w4 hown1 hg hat
        have hr0 := (World.ownsRow.lt hownW)
        go_wp2
        go_roundw
        case rel =>
          refine ⟨k + 1, by omega, by go_num, ?_, ?_⟩
          · rw [subL_yes HK.out HT.out]
            simpa using hown1
          · exact (hbwW.alloc hzW2 _).grown hg (by simp; omega) (fun q hq => (hr0 q hq).1)
        case measure => simp [intOf]; omega
    · obtain rfl : k = n := by omega
      rw [List.take_of_length_le (by have := HL.out; omega)] at hown
      obtain ⟨A3, c3', rfl, _, _, _, hRr, _⟩ := own_slice hown
      have hb0r := below_via hb02 hbw hb02.size
      have hsl : (subL zs l).length ≤ 1000 := by
        have := subL_len zs l l.length
        rw [List.take_length] at this
        have := HL.out
        omega
      have HT2 := hide (HT.out wr hb0r A3 c3' (subL zs l).length hsl ⟨rfl, hRr⟩)
      clear HT
      go_wp2_with fail
      refine HT2.out.mono ?_
      rintro e w4 ⟨⟨hlt, rfl⟩ | ⟨hlt, A2, c2, ys, rfl, hys, hP2⟩, hb4⟩
      · have HLT := hide hlt
        clear hlt
        go_wp2
        go_ret2
        exact ⟨.inl ⟨HLT.out, rfl⟩, below_via hb0r hb4 hb0r.size⟩
      · have HLT := hide hlt
        have HYS := hide hys
        clear hlt hys
        go_wp2
        go_ret2
        exact ⟨.inr ⟨HLT.out, _, _, ys, rfl, HYS.out, hP2⟩, below_via hb0r hb4 hb0r.size⟩

def woL (zs : List Int) (l : List DidV) : List DidD := (l.filter (fun x => !decide (x.d.txn ∈ zs))).map DidV.d
theorem woL_yes {zs : List Int} {l : List DidV} {k : Nat} {x : DidV} (h : l[k]? = some x) (hq : decide (x.d.txn ∈ zs) = false) : woL zs (l.take (k + 1)) = woL zs (l.take k) ++ [x.d] := by
  unfold woL
  rw [take_snoc1 h, List.filter_append, List.map_append]
  simp only [List.filter_cons, hq, Bool.not_false, if_true, List.filter_nil, List.map_cons, List.map_nil]
theorem woL_no {zs : List Int} {l : List DidV} {k : Nat} {x : DidV} (h : l[k]? = some x) (hq : decide (x.d.txn ∈ zs) = true) : woL zs (l.take (k + 1)) = woL zs (l.take k) := by
  unfold woL
  rw [take_snoc1 h, List.filter_append, List.map_append]
  simp only [List.filter_cons, hq, Bool.not_true, Bool.false_eq_true, if_false, List.filter_nil, List.map_nil, List.append_nil]
theorem woL_len (zs : List Int) (l : List DidV) (k : Nat) : (woL zs (l.take k)).length ≤ k := by
  unfold woL
  rw [List.length_map]
  exact Nat.le_trans (List.length_filter_le _ _) (List.length_take_le _ _)
/-- What the others did, in memory of the call's own. -/
def WoPost (w : World) (K : List DidD) (e : Ending) (w' : World) : Prop := ∃ v done, e = .returned v ∧ DRow w' w.heap.size v done ∧ done.map DidV.d = K ∧ Below w.heap.size w w'

set_option maxHeartbeats 4000000 in
set_option maxRecDepth 100000 in
theorem Without_any (A O : Option Addr) (n c no oc : Nat) (xs : List DidV) (zs : List Int) (w : World) (hn : n ≤ 1000) (hno : no ≤ 1000) (h : Dids w w.heap.size A n xs) (ho : Ints w w.heap.size O no zs) (hlen : ∀ x ∈ xs, x.d.op.data.length ≤ 1000000 ∧ x.d.cell.data.length ≤ 1000000) :
    Calls Tryz.prog 18 #[.slice A n c, .slice O no oc] w (WoPost w (woL zs xs)) := by
  have HSO := hide (sorted_any O no oc zs w.heap.size w (Nat.le_refl _) (by omega) ho)
  have HL := hide h.1
  have HLE := hide hlen
  clear hlen ho
  obtain ⟨i0, hi, hz0, hz1, hz2⟩ := info_parts info_didh
  go_enter Tryz.func18, Tryz.ntmps18
  go_wp2_with fail
  refine HSO.out.mono ?_
  rintro e w1 ⟨Az, cz, rfl, hzI, hb1⟩
  have hz01 := hb1.size
  clear HSO
  go_wp2
  go_loopw [6, 13] (fun v i wr => ∃ (k : Nat) (done : List DidV), k ≤ n ∧ i = .int .i64 k ∧ DRow wr w1.heap.size v done ∧ done.map DidV.d = woL zs (xs.take k) ∧ Below w1.heap.size w1 wr) (fun _ i _ => n - (intOf i).toNat)
  case atStart => exact ⟨0, [], Nat.zero_le _, rfl, ⟨World.ownsRow_nil _ _ _ _, fun y hy => by cases hy⟩, rfl, Below.refl _ _⟩
  case round =>
    obtain ⟨k, done, hk, rfl, hrow, hdd, hbw⟩ := hrel
    have HDD := hide hdd
    have hdl : done.length ≤ k := by
      have h1 := congrArg List.length hdd
      rw [List.length_map] at h1
      have := woL_len zs xs k
      omega
    clear hdd
    have hz := hbw.size
    have hb0 := below_via hb1 hbw hz01
    by_cases hlt : k < n
    · have hD := h.below hb0 (Nat.le_refl _)
      obtain ⟨b, o, x, rfl, hb, hkx, hok, _⟩ := hD.at_ hlt
      obtain ⟨e0, e1, e2, e3, e4, e5, e6, e7, e8, e9, e10, e11, e12⟩ := hD.row hkx
      have hlx := HLE.out x (List.mem_of_getElem? hkx)
      have HK := hide hkx
      obtain ⟨d, dv, cv⟩ := x
      obtain ⟨hv1, hv2⟩ := hok
      obtain ⟨A1, n1, m1, ee1, p1⟩ := hv1
      obtain ⟨A2, n2, m2, ee2, p2⟩ := hv2
      dsimp only at *
      subst ee1 ee2
      have hv1 : BytesAt wr w.heap.size (.slice A1 n1 m1) d.op.data := ⟨A1, n1, m1, rfl, p1⟩
      have hv2 : BytesAt wr w.heap.size (.slice A2 n2 m2) d.cell.data := ⟨A2, n2, m2, rfl, p2⟩
      clear p1 p2 hkx hD
      have s1 : (k : Int) < n := by omega
      have s2 : (0 : Int) ≤ k := by omega
      have hbz : b < wr.heap.size := by omega
      go_upto_region 6 with fail
      refine gen1 (fun W kd hbW hzW => ?_)
      clear e0 e1 e2 e3 e4 e5 e6 e7 e8 e9 e10 e11 e12
      have rowW := hrow.via hbW
      have hbwW := below_via hbw hbW hz
      have zW := hbW.size
      have zW1 := hbwW.size
      have qd := kd.cell
      have ld := kd.lt
      have HH := hide (has_any Az no cz (sortI zs) d.txn w1.heap.size W (by omega) (hzI.below hbwW (Nat.le_refl _)) (sortI_rise zs))
      have HMEM : Hid (decide (d.txn ∈ sortI zs) = decide (d.txn ∈ zs)) := hide (by simp only [sortI_mem])
      rw [HMEM.out] at HH
      cases t1 : decide (d.txn ∈ zs)
      · rw [t1] at HH
        have HT := hide t1
        clear t1
        go_wp2_with fail
        refine HH.out.mono ?_
        rintro e W2 ⟨rfl, hb2⟩
        have kd2 := Blk.via hb2 kd
        have qd2 := kd2.cell
        have fd2 := kd2.frozen
        have ld2 := kd2.lt
        have row2 := rowW.via hb2
        have hbw2 := below_via hbwW hb2 zW1
        have z2 := hb2.size
        have z21 := hbw2.size
        have hv12 := (hv1.below hbW (by omega)).below hb2 (by omega)
        have hv22 := (hv2.below hbW (by omega)).below hb2 (by omega)
        clear qd HH
        go_wp2_with fail
        refine (Clone_own _ d.op.data w.heap.size W2 (by omega) hlx.1 hv12).mono ?_
        rintro e W4 ⟨v1, rfl, ho1, hb4⟩
        have kd4 := Blk.via hb4 kd2
        have qd4 := kd4.cell
        have fd4 := kd4.frozen
        have z44 := hb4.size
        have hd4 := kd4.lt
        obtain ⟨A3, c3, rfl, _⟩ := own_slice ho1
        clear qd2 fd2
        go_wp2_with fail
        generalize hW5 : W4.setCell ⟨wr.heap.size, 3, none⟩ (.slice A3 d.op.data.length c3) = W5
        have kd5 : Blk W5 wr.heap.size 40 #[.int .i64 d.txn, .int .i64 d.op.act, .string d.op.key, .slice A3 d.op.data.length c3, .int .i64 d.op.lo, .int .i64 d.op.hi, .int .i64 d.op.n, .int .i64 d.err, .int .i64 d.cell.kind, .slice A2 n2 m2, .int .i64 d.cell.lo, .int .i64 d.cell.hi, .int .i64 d.cell.val] := hW5 ▸ kd4.set_ 3 _
        have b45 : Below wr.heap.size W4 W5 := hW5 ▸ (Below.refl _ W4).setCell (p := ⟨wr.heap.size, 3, none⟩) (Nat.le_refl _) _
        have ho5 : OwnB W5 W2.heap.size (.slice A3 d.op.data.length c3) d.op.data := hW5 ▸ ho1.far kd4 (by decide) _
        have s45 : W5.heap.size = W4.heap.size := by rw [← hW5]; simp [World.setCell]
        have s45a : W4.heap.size ≤ W5.heap.size := by omega
        clear hW5 qd4 fd4 kd4 s45
        have brW2 : Below wr.heap.size wr W2 := hbW.trans (hb2.mono (by omega))
        have brW5 : Below wr.heap.size wr W5 := (brW2.trans (hb4.mono (by omega))).trans b45
        have row5 := hrow.via brW5
        refine (Clone_own _ d.cell.data w.heap.size W5 (by omega) hlx.2 (hv2.below brW5 (by omega))).mono ?_
        rintro e W6 ⟨v2, rfl, ho2, hb6⟩
        have kd6 := Blk.via hb6 kd5
        have row6 := row5.via hb6
        have ho6 := ho5.via hb6
        have qd6 := kd6.cell
        have fd6 := kd6.frozen
        have z66 := hb6.size
        have hd6 := kd6.lt
        obtain ⟨A4, c4, rfl, _⟩ := own_slice ho2
        obtain ⟨A5, c5, rfl, _⟩ := own_slice row6.1
        go_wp2_with (at_builtin; refine held ?_)
        refine unheld ?_
        generalize hW7 : W6.setCell ⟨wr.heap.size, 9, none⟩ (.slice A4 d.cell.data.length c4) = W7
        have s67 : W7.heap.size = W6.heap.size := by rw [← hW7]; simp [World.setCell]
        have b67 : Below wr.heap.size W6 W7 := hW7 ▸ (Below.refl _ W6).setCell (p := ⟨wr.heap.size, 9, none⟩) (Nat.le_refl _) _
        have ho17 : OwnB W7 W2.heap.size (.slice A3 d.op.data.length c3) d.op.data := hW7 ▸ ho6.far kd6 (by decide) _
        have ho27 : OwnB W7 W5.heap.size (.slice A4 d.cell.data.length c4) d.cell.data := hW7 ▸ ho2.far kd6 (by decide) _
        clear hW7 qd6 fd6 kd6
        have brW7 : Below wr.heap.size wr W7 := (brW5.trans (hb6.mono (by omega))).trans b67
        have row7 := hrow.via brW7
        generalize hW8 : W7.alloc (.cells #[.int .i64 d.txn, .int .i64 d.op.act, .string d.op.key, .slice A3 d.op.data.length c3, .int .i64 d.op.lo, .int .i64 d.op.hi, .int .i64 d.op.n, .int .i64 d.err, .int .i64 d.cell.kind, .slice A4 d.cell.data.length c4, .int .i64 d.cell.lo, .int .i64 d.cell.hi, .int .i64 d.cell.val] 40) = W8
        have kb8 : Blk W8 W6.heap.size 40 #[.int .i64 d.txn, .int .i64 d.op.act, .string d.op.key, .slice A3 d.op.data.length c3, .int .i64 d.op.lo, .int .i64 d.op.hi, .int .i64 d.op.n, .int .i64 d.err, .int .i64 d.cell.kind, .slice A4 d.cell.data.length c4, .int .i64 d.cell.lo, .int .i64 d.cell.hi, .int .i64 d.cell.val] := by rw [← hW8, ← s67]; exact Blk.new _ _ _
        have b78 : Below W7.heap.size W7 W8 := hW8 ▸ (Below.refl _ W7).alloc (Nat.le_refl _) _
        clear hW8
        have row8 := row7.via b78
        have ho18 := ho17.via b78
        have ho28 := ho27.via b78
        have brW8 : Below wr.heap.size wr W8 := brW7.trans (b78.mono (by omega))
        have b18 : Below w1.heap.size w1 W8 := below_via hbw brW8 hz
        have z28 := b18.size
        have hone : ∀ u ∈ DidV.cells ⟨d, .slice A3 d.op.data.length c3, .slice A4 d.cell.data.length c4⟩, u.oneCell' = true := fun u hu => by
          simp only [DidV.cells, opCells, cellCells, List.cons_append, List.nil_append, List.mem_cons, List.not_mem_nil, or_false] at hu
          rcases hu with rfl | rfl | rfl | rfl | rfl | rfl | rfl | rfl | rfl | rfl | rfl | rfl | rfl <;> rfl
        at_builtin
        refine wpList_append_any _ rfl (.tmp 35) (.tmp 37) _ rfl w1.heap.size 40 i0 _ 13 144 Tryz.underlying25 hi hz0 hz1 hz2 rfl (by omega) _ _ _ rfl row8.1 _ (some ⟨W6.heap.size, 0, none⟩) 1 1 (DidV.cells ⟨d, .slice A3 d.op.data.length c3, .slice A4 d.cell.data.length c4⟩) rfl (Reads.of_blk (n := 1) (size := 13) kb8 rfl) hone (by unfold maxLen; omega) (by omega) (by omega) ?_
        intro v' w9 hown9 hg9 _
        have hin9 : ∀ {u : Value} {bs : List UInt8} {base : Nat}, OwnB W8 base u bs → OwnB w9 base u bs := fun g1 => g1.keep fun q hq => hg9.block q (g1.lt q hq).2 (fun e => by
          obtain ⟨cur, e1⟩ := row_obj row8.1 e.symm
          obtain ⟨cur2, e2⟩ := row_obj g1 hq
          rw [e1] at e2
          injection e2 with e2
          injection e2 with _ e2
          cases e2)
        have hD9 : DRow w9 w1.heap.size v' (done ++ [⟨d, .slice A3 d.op.data.length c3, .slice A4 d.cell.data.length c4⟩]) := by
          refine ⟨by simpa using hown9, fun y hy => ?_⟩
          rcases List.mem_append.1 hy with hy | hy
          · exact ⟨hin9 (row8.2 y hy).1, hin9 (row8.2 y hy).2⟩
          · obtain rfl := List.mem_singleton.1 hy
            exact ⟨(hin9 ho18).low (by omega), (hin9 ho28).low (by omega)⟩
        have b19 : Below w1.heap.size w1 w9 := b18.grown hg9 z28 (fun q hq => (World.ownsRow.lt row8.1 q hq).1)
        clear row8 ho18 ho28 kb8 hown9 hg9 hin9
        go_wp2
        go_roundw
        case rel => exact ⟨k + 1, _, by omega, by go_num, hD9, by rw [List.map_append, HDD.out, woL_yes HK.out HT.out]; rfl, b19⟩
        case measure => simp [intOf]; omega
      · rw [t1] at HH
        have HT := hide t1
        clear t1
        go_wp2_with fail
        refine HH.out.mono ?_
        rintro e W2 ⟨rfl, hb2⟩
        go_wp2
        go_roundw
        case rel => exact ⟨k + 1, done, by omega, by go_num, rowW.via hb2, by rw [HDD.out, woL_no HK.out HT.out], below_via hbwW hb2 zW1⟩
        case measure => simp [intOf]; omega
    · obtain rfl : k = n := by omega
      have hdd := HDD.out
      rw [List.take_of_length_le (by have := HL.out; omega)] at hdd
      have HDF := hide hdd
      clear hdd
      go_wp2
      go_ret
      exact ⟨_, done, rfl, hrow.low hz01, HDF.out, hb0⟩
end Go.Proofs.YteidmdnhkgcnoaaGreat
namespace Go.Proofs.YteidmdnhkgcnoaaGreat
open Go.RowKit

theorem rep_cons (s : List PairD) (d : DidD) (t : List DidD) : replayD s (d :: t) = if sameAns (stepD s d.op).2.1 (stepD s d.op).2.2 d.err d.cell then ((replayD (stepD s d.op).1 t).1, (replayD (stepD s d.op).1 t).2 + 1) else (s, 0) := rfl
theorem rep_app : ∀ (L : List DidD) (s : List PairD) (r : List DidD), (replayD s L).2 = L.length → replayD s (L ++ r) = ((replayD (runD s (L.map DidD.op)) r).1, L.length + (replayD (runD s (L.map DidD.op)) r).2)
  | [], s, r, _ => by simp [runD]
  | d :: t, s, r, h => by
    unfold replayD at h
    split at h
    · rename_i hs
      have h2 : (replayD (stepD s d.op).1 t).2 = t.length := by simpa using h
      have ih := rep_app t (stepD s d.op).1 r h2
      rw [List.cons_append, rep_cons, if_pos hs, ih]
      have e : runD s ((d :: t).map DidD.op) = runD (stepD s d.op).1 (t.map DidD.op) := rfl
      rw [e]
      simp only [List.length_cons, Nat.add_right_comm]
    · simp at h
theorem rep_run : ∀ (L : List DidD) (s : List PairD), (replayD s L).2 = L.length → (replayD s L).1 = runD s (L.map DidD.op)
  | [], s, _ => rfl
  | d :: t, s, h => by
    unfold replayD at h
    split at h
    · rename_i hs
      have h2 : (replayD (stepD s d.op).1 t).2 = t.length := by simpa using h
      unfold replayD
      rw [if_pos hs]
      exact rep_run t _ h2
    · simp at h

set_option maxHeartbeats 1600000 in
theorem rKept_any (A : Option Addr) (m c : Nat) (xs : List EvV) (B : Nat) (w : World) (hB : B ≤ w.heap.size) (hm : m ≤ 1000) (h : Evs w B A m xs) :
    Calls Tryz.prog 16 #[.slice A m c] w (IntsPost w (keptL (storiesD (xs.map EvV.d)))) := by
  have HST := hide (rStories_any A m c xs B w hB hm h)
  have hsl := storiesD_len (xs.map EvV.d)
  have hsm : (storiesD (xs.map EvV.d)).length ≤ m := by rw [h.1]; rw [List.length_map] at hsl; exact hsl
  generalize storiesD (xs.map EvV.d) = l at *
  clear hsl h
  obtain ⟨i0, hi, hz0, hz1, hz2⟩ := info_parts info_int
  obtain ⟨n, hn⟩ : ∃ n, n = l.length := ⟨_, rfl⟩
  rw [← hn] at HST hsm
  have HL := hide hn
  clear hn
  go_enter Tryz.func16, Tryz.ntmps16
  go_wp2_with fail
  refine HST.out.mono ?_
  rintro e w1 ⟨A1, c1, rfl, hS, hb1⟩
  clear HST
  go_wp2
  go_loopw [4, 5] (fun t i wr => ∃ k : Nat, k ≤ n ∧ i = .int .i64 k ∧ wr.ownsRow w1.heap.size 3 1 t (keptL (l.take k)).length ((keptL (l.take k)).map (Value.int .i64)) ∧ Below w1.heap.size w1 wr) (fun _ i _ => n - (intOf i).toNat)
  case atStart => exact ⟨0, Nat.zero_le _, rfl, World.ownsRow_nil _ _ _ _, Below.refl _ _⟩
  case round =>
    obtain ⟨k, hk, rfl, hown, hbw⟩ := hrel
    have hz := hbw.size
    by_cases hlt : k < n
    · obtain ⟨b, o, s, rfl, hb, hs, c0, c1', c2, c3⟩ := (hS.below hbw (Nat.le_refl _)).at_ hlt
      have HK := hide hs
      obtain ⟨t, cl, fa, wro⟩ := s
      dsimp only at *
      clear hs
      have s1 : (k : Int) < n := by omega
      have s2 : (0 : Int) ≤ k := by omega
      have hbz : b < wr.heap.size := by omega
      have hlc := keptL_len l k
      cases t1 : ((fa : Int) != 3)
      · go_wp2
        go_roundw
        case rel => exact ⟨k + 1, by omega, by go_num, by rw [keptL_no HK.out t1]; exact hown, hbw⟩
        case measure => simp [intOf]; omega
      · obtain ⟨A3, c3', rfl, hcap3, _⟩ := own_slice hown
        clear hcap3
        go_wp2_with (at_builtin; refine wpList_append_any _ rfl (.tmp 20) (.tmp 26) _ rfl w1.heap.size 3 i0 _ 1 8 Tryz.underlying24 hi hz0 hz1 hz2 rfl (by omega) _ _ _ rfl (hown.alloc _) (wr.heap.size + 1) (some ⟨wr.heap.size, 0, none⟩) 1 1 [.int .i64 t] rfl ?c2 ?c3 ?c4 ?c5 ?c6 ?_)
        case c2 => simpa using Reads.of_blk (size := 1) (n := 1) (Blk.new wr 3 #[.int .i64 t]) rfl
        case c3 => exact ints_one [t]
        case c4 => unfold maxLen; omega
        case c5 => omega
        case c6 => simp; omega
        intro v' w2 hown1 hg hat
        have hr0 := (World.ownsRow.lt hown)
        go_wp2
        go_roundw
        case rel =>
          refine ⟨k + 1, by omega, by go_num, ?_, ?_⟩
          · rw [keptL_yes HK.out t1]
            simpa using hown1
          · exact (hbw.alloc hz _).grown hg (by simp; omega) (fun q hq => (hr0 q hq).1)
        case measure => simp [intOf]; omega
    · obtain rfl : k = n := by omega
      rw [List.take_of_length_le (by have := HL.out; omega)] at hown
      obtain ⟨A3, c3', rfl, _, _, _, hR, _⟩ := own_slice hown
      go_wp2
      go_ret
      exact ⟨_, _, rfl, ⟨rfl, hR⟩, below_via hb1 hbw hb1.size⟩

def woV (zs : List Int) (l : List DidV) : List DidV := l.filter (fun x => !decide (x.d.txn ∈ zs))
theorem woV_yes {zs : List Int} {l : List DidV} {k : Nat} {x : DidV} (h : l[k]? = some x) (hq : decide (x.d.txn ∈ zs) = false) : woV zs (l.take (k + 1)) = woV zs (l.take k) ++ [x] := by
  unfold woV
  rw [take_snoc1 h, List.filter_append]
  simp only [List.filter_cons, hq, Bool.not_false, if_true, List.filter_nil]
theorem woV_no {zs : List Int} {l : List DidV} {k : Nat} {x : DidV} (h : l[k]? = some x) (hq : decide (x.d.txn ∈ zs) = true) : woV zs (l.take (k + 1)) = woV zs (l.take k) := by
  unfold woV
  rw [take_snoc1 h, List.filter_append]
  simp only [List.filter_cons, hq, Bool.not_true, Bool.false_eq_true, if_false, List.filter_nil, List.append_nil]

set_option maxHeartbeats 1600000 in
theorem rWithout_any (A O : Option Addr) (n c no oc : Nat) (xs : List DidV) (zs : List Int) (B : Nat) (w : World) (hB : B ≤ w.heap.size) (hn : n ≤ 1000) (hno : no ≤ 1000) (h : Dids w B A n xs) (ho : Ints w B O no zs) :
    Calls Tryz.prog 19 #[.slice A n c, .slice O no oc] w (DidsPost w (woV zs xs)) := by
  have HL := hide h.1
  obtain ⟨i0, hi, hz0, hz1, hz2⟩ := info_parts info_didh
  go_enter Tryz.func19, Tryz.ntmps19
  go_wp2
  go_loopw [5, 6] (fun t i wr => ∃ k : Nat, k ≤ n ∧ i = .int .i64 k ∧ wr.ownsRow w.heap.size 40 13 t (woV zs (xs.take k)).length ((woV zs (xs.take k)).flatMap DidV.cells) ∧ Below w.heap.size w wr) (fun _ i _ => n - (intOf i).toNat)
  case atStart => exact ⟨0, Nat.zero_le _, rfl, World.ownsRow_nil _ _ _ _, Below.refl _ _⟩
  case round =>
    obtain ⟨k, hk, rfl, hown, hbw⟩ := hrel
    by_cases hlt : k < n
    · have hD := h.below hbw hB
      obtain ⟨b, o, x, rfl, hb, hkx, hok, _⟩ := hD.at_ hlt
      have hrw := hD.row hkx
      have HK := hide hkx
      have hz := hbw.size
      have HONE := hide hok.one
      have HIN := hide (In_any O no oc zs x.d.txn B wr (by omega) (ho.below hbw hB))
      obtain ⟨d, dv, cv⟩ := x
      obtain ⟨⟨A1, n1, m1, rfl, p1⟩, ⟨A2, n2, m2, rfl, p2⟩⟩ := hok
      dsimp only at *
      obtain ⟨c0, c1, c2, c3, c4, c5, c6, c7, c8, c9, c10, c11, c12⟩ := hrw
      clear p1 p2 hkx hD
      have s1 : (k : Int) < n := by omega
      have s2 : (0 : Int) ≤ k := by omega
      have hbz : b < wr.heap.size := by omega
      have hlc : (woV zs (xs.take k)).length ≤ k := Nat.le_trans (List.length_filter_le _ _) (List.length_take_le _ _)
      cases t1 : decide (d.txn ∈ zs)
      · rw [t1] at HIN
        have HT := hide t1
        clear t1
        obtain ⟨A3, c3', rfl, hcap3, _⟩ := own_slice hown
        clear hcap3
        go_wp2_with (first
          | (go_at_call 30; (with_reducible refine HIN.out.mono ?_); rintro e w2 ⟨rfl, hw2⟩; subst hw2)
          | (at_builtin; refine wpList_append_any _ rfl (.tmp 21) (.tmp 26) _ rfl w.heap.size 40 i0 _ 13 144 Tryz.underlying25 hi hz0 hz1 hz2 rfl (by omega) _ _ _ rfl (hown.alloc _) (wr.heap.size + 1) (some ⟨wr.heap.size, 0, none⟩) 1 1 (DidV.cells ⟨d, .slice A1 n1 m1, .slice A2 n2 m2⟩) rfl (Reads.of_blk (n := 1) (size := 13) (Blk.new _ _ _) rfl) HONE.out (by unfold maxLen; omega) (by omega) (by simp; omega) ?_))
        intro v' w4 hown4 hg hat
        have hr0 := (World.ownsRow.lt hown)
        go_wp2
        go_roundw
        case rel =>
          refine ⟨k + 1, by omega, by go_num, ?_, (hbw.alloc hz _).grown hg (by simp; omega) (fun q hq => (hr0 q hq).1)⟩
          rw [woV_yes HK.out HT.out]
          simpa using hown4
        case measure => simp [intOf]; omega
      · rw [t1] at HIN
        have HT := hide t1
        clear t1
        go_wp2_with (go_at_call 30; (with_reducible refine HIN.out.mono ?_); rintro e w2 ⟨rfl, hw2⟩; subst hw2)
        go_roundw
        case rel => exact ⟨k + 1, by omega, by go_num, by rw [woV_no HK.out HT.out]; exact hown, hbw⟩
        case measure => simp [intOf]; omega
    · obtain rfl : k = n := by omega
      rw [List.take_of_length_le (by have := HL.out; omega)] at hown
      obtain ⟨A3, c3', rfl, hc3, _, _, hR, _⟩ := own_slice hown
      have hD := h.below hbw hB
      go_wp2
      go_ret
      exact ⟨_, _, rfl, hc3, ⟨rfl, hR, fun y hy => (hD.2.2 y (List.mem_filter.1 hy).1).more (by have := hbw.size; omega)⟩, hbw⟩

/-- Of the first k: what counts. -/
def cntK (ys : List DidV) (k : Nat) : List DidD := ((ys.take k).map DidV.d).filter countsD
theorem cntK_yes {ys : List DidV} {k : Nat} {y : DidV} (h : ys[k]? = some y) (hc : countsD y.d = true) : cntK ys (k + 1) = cntK ys k ++ [y.d] := by
  unfold cntK
  rw [take_snoc1 h, List.map_append, List.filter_append]
  simp [hc]
theorem cntK_no {ys : List DidV} {k : Nat} {y : DidV} (h : ys[k]? = some y) (hc : countsD y.d = false) : cntK ys (k + 1) = cntK ys k := by
  unfold cntK
  rw [take_snoc1 h, List.map_append, List.filter_append]
  simp [hc]
theorem cntK_rest {ys : List DidV} {k : Nat} {y : DidV} (h : ys[k]? = some y) (hc : countsD y.d = true) : ∃ r, cntK ys ys.length = cntK ys k ++ y.d :: r := by
  obtain ⟨hk, e⟩ := List.getElem?_eq_some_iff.1 h
  refine ⟨((ys.drop (k + 1)).map DidV.d).filter countsD, ?_⟩
  unfold cntK
  rw [List.take_length]
  conv => lhs; rw [← List.take_append_drop k ys, List.drop_eq_getElem_cons hk, e]
  rw [List.map_append, List.filter_append, List.map_cons, List.filter_cons, if_pos hc]
theorem cntK_len (ys : List DidV) (k : Nat) : (cntK ys k).length ≤ k := by
  unfold cntK
  refine Nat.le_trans (List.length_filter_le _ _) ?_
  rw [List.length_map]
  exact List.length_take_le _ _
theorem cntK_mem {ys : List DidV} {k : Nat} {d : DidD} (h : d ∈ cntK ys k) : ∃ y ∈ ys, y.d = d := by
  obtain ⟨y, hy, e⟩ := List.mem_map.1 (List.mem_filter.1 h).1
  exact ⟨y, List.mem_of_mem_take hy, e⟩

set_option maxHeartbeats 4000000 in
set_option maxRecDepth 100000 in
theorem rReplay36_any (Ap : Option Addr) (np cp : Nat) (ps : List PairV) (A O : Option Addr) (m c n oc : Nat) (xs : List EvV) (zs : List Int) (w : World) (hnp : np ≤ 500) (hnc : np ≤ cp) (hm : m ≤ 500) (hn : n ≤ 1000) (hP : Pairs w w.heap.size Ap np ps) (h : Evs w w.heap.size A m xs) (ho : Ints w w.heap.size O n zs)
    (hR : RightS (ps.map PairV.d)) (hW : WfS (ps.map PairV.d)) (hX : ∀ x ∈ xs, OpWf x.d.op) :
    Calls Tryz.prog 25 #[.slice Ap np cp, .slice A m c, .slice O n oc] w (TrPost (ps.map PairV.d) (didT xs zs) w) := by
  have HDI := hide (rDid_any A O m c n oc xs zs w.heap.size w (Nat.le_refl _) (by omega) hn h ho)
  have hyl : (allV xs zs).length ≤ m := by rw [h.1]; exact allV_len _ _
  have hyx : ∀ y ∈ allV xs zs, OpWf y.d.op := fun y hy => by
    obtain ⟨x, hx, rfl⟩ := allV_mem hy
    exact hX x hx
  have hK : cntK (allV xs zs) (allV xs zs).length = didT xs zs := by
    unfold cntK didT allV
    rw [List.take_length, List.map_map]
    rfl
  have HK := hide hK
  have HYX := hide hyx
  have HR := hide hR
  have HW := hide hW
  have HPL := hide hP.1
  clear hK hyx hX hR hW h ho
  generalize allV xs zs = ys at *
  go_enter Tryz.func25, Tryz.ntmps25
  go_wp2_with fail
  refine HDI.out.mono ?_
  rintro e w1 ⟨Ay, cy, rfl, hcy, hY, hb1⟩
  have hz1 := hb1.size
  obtain ⟨n2, hn2⟩ : ∃ n2, n2 = ys.length := ⟨_, rfl⟩
  rw [← hn2] at hY hyl hcy ⊢
  have HN := hide hn2
  clear hn2 HDI
  go_wp2
  go_loopw [0, 9] (fun s i wr => ∃ (k : Nat) (A' : Option Addr) (c' : Nat) (st : List PairV), k ≤ n2 ∧ i = .int .i64 k ∧ s = .slice A' st.length c' ∧ st.length ≤ c' ∧ Pairs wr wr.heap.size A' st.length st ∧ st.map PairV.d = runD (ps.map PairV.d) ((cntK ys k).map DidD.op) ∧ (replayD (ps.map PairV.d) (cntK ys k)).2 = (cntK ys k).length ∧ Below w1.heap.size w1 wr) (fun _ i _ => n2 - (intOf i).toNat)
  case atStart =>
    obtain rfl := hP.1
    exact ⟨0, Ap, cp, ps, Nat.zero_le _, rfl, rfl, hnc, (hP.below hb1 (Nat.le_refl _)).more hz1, rfl, rfl, Below.refl _ _⟩
  case round =>
    obtain ⟨k, A', c', st, hk, rfl, rfl, hstc, hPs, hsd, hrk, hbw⟩ := hrel
    have HSD := hide hsd
    have HRK := hide hrk
    have hz := hbw.size
    have hcl := cntK_len ys k
    have hstl : st.length ≤ 1000 := by
      have h1 := congrArg List.length hsd
      have h2 := runD_length ((cntK ys k).map DidD.op) (ps.map PairV.d)
      have h3 := HPL.out
      rw [List.length_map] at h1
      rw [List.length_map, List.length_map] at h2
      omega
    have hsR : RightS (st.map PairV.d) := by rw [hsd]; exact HR.out.run _
    have hsW : WfS (st.map PairV.d) := by
      rw [hsd]
      refine HW.out.run (fun o ho => ?_)
      obtain ⟨d, hd, rfl⟩ := List.mem_map.1 ho
      obtain ⟨y, hy, rfl⟩ := cntK_mem hd
      exact HYX.out y hy
    clear hsd hrk hcl
    by_cases hlt : k < n2
    · have hD := hY.below hbw (Nat.le_refl _)
      obtain ⟨b, o, x, rfl, hb, hkx, hok, hcell⟩ := hD.at_ hlt
      have hrw := hD.row hkx
      have HKX := hide hkx
      have hD1 : ∀ W, Below wr.heap.size wr W → Dids W W.heap.size (some ⟨b, o + k * 13, none⟩) 1 [x] := fun W hbW => by
        refine ⟨rfl, ⟨by simp [DidV.cells_length], fun _ => ⟨_, rfl, by show b < _; have := hbW.size; omega, fun j u hu => ?_⟩⟩, fun y hy => ?_⟩
        · rw [add_plain]
          have hu' : x.cells[j]? = some u := by simpa using hu
          have h1 := hcell j u hu'
          rw [← h1]
          exact hbW.cell (p := ⟨b, o + k * 13 + j, none⟩) (by show b < _; omega)
        · obtain rfl := List.mem_singleton.1 hy
          exact (hok.below hbW (by omega)).more (by have := hbW.size; omega)
      have HREP := hide (fun W (hbW : Below wr.heap.size wr W) cc => rReplayC_any A' st.length c' st (some ⟨b, o + k * 13, none⟩) 1 cc [x] W.heap.size W (Nat.le_refl _) hstl (by omega) hstc ((hPs.below hbW (Nat.le_refl _)).more hbW.size) (hD1 W hbW) hsR hsW (fun d hd => by obtain rfl := List.mem_singleton.1 hd; exact HYX.out _ (List.mem_of_getElem? hkx)))
      clear hD1 hcell
      obtain ⟨d, dv, cv⟩ := x
      obtain ⟨⟨A1, n1, m1, rfl, p1⟩, ⟨A2, n3, m2, rfl, p2⟩⟩ := hok
      dsimp only at *
      obtain ⟨e0, e1, e2, e3, e4, e5, e6, e7, e8, e9, e10, e11, e12⟩ := hrw
      clear p1 p2 hkx hD hsR hsW
      have s1 : (k : Int) < n2 := by omega
      have s2 : (0 : Int) ≤ k := by omega
      have hbz : b < wr.heap.size := by omega
      have HN2 := hide (fun W => rCounts_any d A1 A2 n1 m1 n3 m2 W)
      unfold didA at HN2
      cases t1 : countsD d
      · rw [t1] at HN2
        have HT := hide t1
        clear t1
        go_wp2_with fail
        refine (HN2.out _).mono ?_
        rintro e w3 ⟨rfl, hb3⟩
        go_wp2
        go_roundw
        case rel => exact ⟨k + 1, A', c', st, by omega, by go_num, rfl, hstc, (hPs.below hb3 (Nat.le_refl _)).more hb3.size, by rw [cntK_no HKX.out HT.out]; exact HSD.out, by rw [cntK_no HKX.out HT.out]; exact HRK.out, below_via hbw hb3 hz⟩
        case measure => simp [intOf]; omega
      · rw [t1] at HN2
        have HT := hide t1
        clear t1
        have hcp : ¬ (cy = k) := by omega
        have s3 : (k : Int) + 1 ≤ cy := by omega
        go_wp2_with fail
        refine (HN2.out _).mono ?_
        rintro e w3 ⟨rfl, hb3⟩
        have HR3 := hide (fun cc => HREP.out w3 hb3 cc)
        have hbw3 := below_via hbw hb3 hz
        clear HREP e0 e1 e2 e3 e4 e5 e6 e7 e8 e9 e10 e11 e12
        have hkk : (k : Int) ≤ (k : Int) + 1 := by omega
        go_wp2_with fail
        refine (HR3.out _).mono ?_
        rintro e w4 ⟨A5, c5, st2, rfl, hs2, hP5, hb4, hc5⟩
        have hbw4 := below_via hbw3 hb4 hbw3.size
        obtain ⟨rr, hrest⟩ := cntK_rest HKX.out HT.out
        have hfull : cntK ys ys.length = didT xs zs := HK.out
        have hone : replayD (st.map PairV.d) ([(⟨d, .slice A1 n1 m1, .slice A2 n3 m2⟩ : DidV)].map DidV.d) = if sameAns (stepD (st.map PairV.d) d.op).2.1 (stepD (st.map PairV.d) d.op).2.2 d.err d.cell then ((stepD (st.map PairV.d) d.op).1, 1) else (st.map PairV.d, 0) := by
          show replayD (st.map PairV.d) [d] = _
          unfold replayD
          rfl
        rw [hone] at hs2 ⊢
        have happ := rep_app (cntK ys k) (ps.map PairV.d) (d :: rr) HRK.out
        have happ1 := rep_app (cntK ys k) (ps.map PairV.d) [d] HRK.out
        rw [← HSD.out] at happ happ1
        rw [hfull] at hrest
        cases hsm : sameAns (stepD (st.map PairV.d) d.op).2.1 (stepD (st.map PairV.d) d.op).2.2 d.err d.cell
        · have HSM := hide hsm
          have HAPP := hide happ
          have HREST := hide hrest
          rw [hsm] at hs2
          clear hs2 hone happ happ1 hrest hfull hsm
          simp only [Bool.false_eq_true, if_false]
          go_wp2
          go_ret2
          refine ⟨.inl ⟨?_, rfl⟩, below_via hb1 hbw4 hz1⟩
          rw [HREST.out, HAPP.out, rep_cons, if_neg (by rw [HSM.out]; decide)]
          simp
        · have HSM := hide hsm
          have HAPP := hide happ1
          rw [hsm] at hs2
          have HS2 := hide hs2
          clear hs2 hone happ happ1 hrest hfull hsm
          simp only [if_true]
          go_wp2
          go_roundw
          case rel =>
            refine ⟨k + 1, A5, c5, st2, by omega, by go_num, rfl, hc5, hP5, ?_, ?_, hbw4⟩
            · rw [cntK_yes HKX.out HT.out, List.map_append, HS2.out, HSD.out]
              exact (runD_snoc _ _ _).symm
            · rw [cntK_yes HKX.out HT.out, HAPP.out, List.length_append, rep_cons, if_pos HSM.out]
              rfl
          case measure => simp [intOf]; omega
    · obtain rfl : k = n2 := by omega
      have HF : Hid (cntK ys k = didT xs zs) := hide (by rw [HN.out]; exact HK.out)
      go_wp2
      go_ret2
      refine ⟨.inr ⟨?_, _, _, st, rfl, ?_, hPs⟩, below_via hb1 hbw hz1⟩
      · rw [← HF.out, HRK.out]; exact Nat.lt_irrefl _
      · rw [HSD.out, ← HF.out, rep_run _ _ HRK.out]

theorem foldl_fate (l : List EvD) : ∀ s : StoD, 0 ≤ s.fate → 0 ≤ (l.foldl rupd s).fate := by
  induction l with
  | nil => exact fun s h => h
  | cons d t ih =>
    intro s h
    refine ih _ ?_
    unfold rupd
    dsimp only
    split <;> omega
theorem stories_fate {l : List EvD} {s : StoD} (h : s ∈ storiesD l) : 0 ≤ s.fate := by
  obtain ⟨s0, hs0, rfl⟩ := List.mem_map.1 h
  refine foldl_fate _ _ ?_
  have h1 : ∀ (L : List StoD), (∀ s ∈ L, s.fate = 0) → ∀ s ∈ uniq L, s.fate = 0 := fun L => by
    induction L using snocRec with
    | nil => exact fun _ s hs => by cases hs
    | snoc L a ih =>
      intro hL s hs
      rw [uniq_snoc] at hs
      have ih' := ih (fun s hs => hL s (List.mem_append_left _ hs))
      split at hs
      · exact ih' s hs
      · rcases List.mem_append.1 hs with hs | hs
        · exact ih' s hs
        · obtain rfl := List.mem_singleton.1 hs
          exact hL _ (List.mem_append_right _ (List.mem_singleton.2 rfl))
  have := h1 (begsD l) (fun s hs => by
    obtain ⟨d, _, rfl⟩ := List.mem_map.1 hs
    rfl) s0 hs0
  omega

set_option maxHeartbeats 1600000 in
theorem rFinal_any (Ap : Option Addr) (np cp : Nat) (ps : List PairV) (A : Option Addr) (m c : Nat) (xs : List EvV) (w : World) (hnp : np ≤ 500) (hnc : np ≤ cp) (hm : m ≤ 500) (hP : Pairs w w.heap.size Ap np ps) (h : Evs w w.heap.size A m xs)
    (hR : RightS (ps.map PairV.d)) (hW : WfS (ps.map PairV.d)) (hX : ∀ x ∈ xs, OpWf x.d.op) :
    Calls Tryz.prog 9 #[.slice Ap np cp, .slice A m c] w (TrPost (ps.map PairV.d) (finalK xs) w) := by
  have HK := hide (rKept_any A m c xs w.heap.size w (Nat.le_refl _) (by omega) h)
  have hkl : (keptL (storiesD (xs.map EvV.d))).length ≤ 1000 := by
    have h1 := storiesD_len (xs.map EvV.d)
    have h2 := keptL_len (storiesD (xs.map EvV.d)) (storiesD (xs.map EvV.d)).length
    rw [List.take_length] at h2
    rw [List.length_map] at h1
    have := h.1
    omega
  have HT := hide (fun W (hb : Below w.heap.size w W) O oc ho => rReplay36_any Ap np cp ps A O m c (keptL (storiesD (xs.map EvV.d))).length oc xs (keptL (storiesD (xs.map EvV.d))) W hnp hnc hm hkl ((hP.below hb (Nat.le_refl _)).more hb.size) ((h.below hb (Nat.le_refl _)).more hb.size) ho hR hW hX)
  clear hkl hP h hR hW hX
  unfold finalK
  generalize keptL (storiesD (xs.map EvV.d)) = zs at *
  go_enter Tryz.func9, Tryz.ntmps9
  go_wp2_with fail
  refine HK.out.mono ?_
  rintro e w1 ⟨O, oc, rfl, hz, hb1⟩
  have HT2 := hide (HT.out w1 hb1 O oc hz)
  clear HT hz
  go_wp2_with fail
  refine HT2.out.mono ?_
  rintro e w2 ⟨⟨hlt, rfl⟩ | ⟨hlt, A2, c2, ys, rfl, hys, hP2⟩, hb2⟩
  · have HLT := hide hlt
    clear hlt
    go_wp2
    go_ret2
    exact ⟨.inl ⟨HLT.out, rfl⟩, below_via hb1 hb2 hb1.size⟩
  · have HLT := hide hlt
    have HYS := hide hys
    clear hlt hys
    go_wp2
    go_ret2
    exact ⟨.inr ⟨HLT.out, _, _, ys, rfl, HYS.out, hP2⟩, below_via hb1 hb2 hb1.size⟩


set_option maxHeartbeats 3200000 in
theorem rSubset_any (Ap : Option Addr) (np cp : Nat) (ps : List PairV) (A O : Option Addr) (m c no oc : Nat) (xs : List EvV) (zs : List Int) (w : World) (hnp : np ≤ 500) (hnc : np ≤ cp) (hm : m ≤ 500) (hno : no ≤ 1000) (hP : Pairs w w.heap.size Ap np ps) (h : Evs w w.heap.size A m xs) (ho : Ints w w.heap.size O no zs)
    (hR : RightS (ps.map PairV.d)) (hW : WfS (ps.map PairV.d)) (hX : ∀ x ∈ xs, OpWf x.d.op) :
    Calls Tryz.prog 11 #[.slice Ap np cp, .slice A m c, .slice O no oc] w (TrPost (ps.map PairV.d) (subK xs zs) w) := by
  have HST := hide (rStories_any A m c xs w.heap.size w (Nat.le_refl _) (by omega) h)
  have hsl := storiesD_len (xs.map EvV.d)
  have hsm : (storiesD (xs.map EvV.d)).length ≤ m := by rw [h.1]; rw [List.length_map] at hsl; exact hsl
  have hff : ∀ s ∈ storiesD (xs.map EvV.d), 0 ≤ s.fate := fun s hs => stories_fate hs
  have HT := hide (fun W (hb : Below w.heap.size w W) Oz ocz nz hnz ho => rReplay36_any Ap np cp ps A Oz m c nz ocz xs (subL zs (storiesD (xs.map EvV.d))) W hnp hnc hm hnz ((hP.below hb (Nat.le_refl _)).more hb.size) ((h.below hb (Nat.le_refl _)).more hb.size) ho hR hW hX)
  clear hP h hR hW hX hsl
  unfold subK
  generalize storiesD (xs.map EvV.d) = l at *
  have HFF := hide hff
  clear hff
  obtain ⟨i0, hi, hz0, hz1, hz2⟩ := info_parts info_int
  obtain ⟨n, hn⟩ : ∃ n, n = l.length := ⟨_, rfl⟩
  rw [← hn] at HST hsm
  have HL := hide hn
  clear hn
  go_enter Tryz.func11, Tryz.ntmps11
  go_wp2_with fail
  refine HST.out.mono ?_
  rintro e w2 ⟨A1, c1, rfl, hS, hb02⟩
  have hz02 := hb02.size
  clear HST
  go_wp2
  go_loopw [9, 10] (fun t i wr => ∃ k : Nat, k ≤ n ∧ i = .int .i64 k ∧ wr.ownsRow w2.heap.size 3 1 t (subL zs (l.take k)).length ((subL zs (l.take k)).map (Value.int .i64)) ∧ Below w2.heap.size w2 wr) (fun _ i _ => n - (intOf i).toNat)
  case atStart => exact ⟨0, Nat.zero_le _, rfl, World.ownsRow_nil _ _ _ _, Below.refl _ _⟩
  case round =>
    obtain ⟨k, hk, rfl, hown, hbw⟩ := hrel
    have hz := hbw.size
    by_cases hlt : k < n
    · obtain ⟨b, o, s, rfl, hb, hs, c0, c1', c2, c3⟩ := (hS.below hbw (Nat.le_refl _)).at_ hlt
      have HK := hide hs
      have hf0 := HFF.out s (List.mem_of_getElem? hs)
      obtain ⟨t, cl, fa, wro⟩ := s
      dsimp only at *
      clear hs
      have s1 : (k : Int) < n := by omega
      have s2 : (0 : Int) ≤ k := by omega
      have hbz : b < wr.heap.size := by omega
      have hlc := subL_len zs l k
      have HIN := hide (In_any O no oc zs t w.heap.size wr (by omega) ((ho.below hb02 (Nat.le_refl _)).below hbw hz02))
      obtain ⟨A3, c3', rfl, hcap3, _⟩ := own_slice hown
      clear hcap3
      cases t1 : ((fa : Int) == 2)
      · by_cases h2 : fa < 2
        · have h01 : (fa == 0 || fa == 1) = true := by
            have : fa = 0 ∨ fa = 1 := by omega
            rcases this with rfl | rfl <;> rfl
          have H01 := hide h01
          clear h01
          cases t4 : decide (t ∈ zs)
          · rw [t4] at HIN
            have HT := hide (show inSub zs ⟨t, cl, fa, wro⟩ = false by unfold inSub; simp only [t1, t4, Bool.and_false, Bool.or_self])
            clear t4
            go_wp2_with (go_at_call 30; (with_reducible refine HIN.out.mono ?_); rintro e w3 ⟨rfl, hw2⟩; subst hw2)
            go_roundw
            case rel => exact ⟨k + 1, by omega, by go_num, by rw [subL_no HK.out HT.out]; exact hown, hbw⟩
            case measure => simp [intOf]; omega
          · rw [t4] at HIN
            have HT := hide (show inSub zs ⟨t, cl, fa, wro⟩ = true by unfold inSub; simp only [t1, H01.out, t4, Bool.false_or, Bool.and_self])
            clear t4
            go_wp2_with (first
              | (go_at_call 30; (with_reducible refine HIN.out.mono ?_); rintro e w3 ⟨rfl, hw2⟩; subst hw2)
              | (at_builtin; refine wpList_append_any _ rfl (.tmp 42) (.tmp 48) _ rfl w2.heap.size 3 i0 _ 1 8 Tryz.underlying24 hi hz0 hz1 hz2 rfl (by omega) _ _ _ rfl (hown.alloc _) (wr.heap.size + 1) (some ⟨wr.heap.size, 0, none⟩) 1 1 [.int .i64 t] rfl (by simpa using Reads.of_blk (size := 1) (n := 1) (Blk.new wr 3 #[.int .i64 t]) rfl) (ints_one [t]) (by unfold maxLen; omega) (by omega) (by simp; omega) ?_))
            intro v' w4 hown1 hg hat
            have hr0 := (World.ownsRow.lt hown)
            go_wp2
            go_roundw
            case rel =>
              refine ⟨k + 1, by omega, by go_num, ?_, ?_⟩
              · rw [subL_yes HK.out HT.out]
                simpa using hown1
              · exact (hbw.alloc hz _).grown hg (by simp; omega) (fun q hq => (hr0 q hq).1)
            case measure => simp [intOf]; omega
        · have HT := hide (show inSub zs ⟨t, cl, fa, wro⟩ = false by
            have e0 : (fa == 0) = false := by simp; omega
            have e1 : (fa == 1) = false := by simp; omega
            unfold inSub
            simp only [t1, e0, e1, Bool.or_self, Bool.false_and])
          go_wp2
          go_roundw
          case rel => exact ⟨k + 1, by omega, by go_num, by rw [subL_no HK.out HT.out]; exact hown, hbw⟩
          case measure => simp [intOf]; omega
      · have HT := hide (show inSub zs ⟨t, cl, fa, wro⟩ = true by unfold inSub; simp only [t1, Bool.true_or])
        go_wp2_with (at_builtin; refine wpList_append_any _ rfl (.tmp 42) (.tmp 48) _ rfl w2.heap.size 3 i0 _ 1 8 Tryz.underlying24 hi hz0 hz1 hz2 rfl (by omega) _ _ _ rfl (hown.alloc _) (wr.heap.size + 1) (some ⟨wr.heap.size, 0, none⟩) 1 1 [.int .i64 t] rfl (by simpa using Reads.of_blk (size := 1) (n := 1) (Blk.new wr 3 #[.int .i64 t]) rfl) (ints_one [t]) (by unfold maxLen; omega) (by omega) (by simp; omega) ?_)
        intro v' w4 hown1 hg hat
        have hr0 := (World.ownsRow.lt hown)
        go_wp2
        go_roundw
        case rel =>
          refine ⟨k + 1, by omega, by go_num, ?_, ?_⟩
          · rw [subL_yes HK.out HT.out]
            simpa using hown1
          · exact (hbw.alloc hz _).grown hg (by simp; omega) (fun q hq => (hr0 q hq).1)
        case measure => simp [intOf]; omega
    · obtain rfl : k = n := by omega
      rw [List.take_of_length_le (by have := HL.out; omega)] at hown
      obtain ⟨A3, c3', rfl, _, _, _, hRr, _⟩ := own_slice hown
      have hb0r := below_via hb02 hbw hb02.size
      have hsl : (subL zs l).length ≤ 1000 := by
        have := subL_len zs l l.length
        rw [List.take_length] at this
        have := HL.out
        omega
      have HT2 := hide (HT.out wr hb0r A3 c3' (subL zs l).length hsl ⟨rfl, hRr⟩)
      clear HT
      go_wp2_with fail
      refine HT2.out.mono ?_
      rintro e w4 ⟨⟨hlt, rfl⟩ | ⟨hlt, A2, c2, ys, rfl, hys, hP2⟩, hb4⟩
      · have HLT := hide hlt
        clear hlt
        go_wp2
        go_ret2
        exact ⟨.inl ⟨HLT.out, rfl⟩, below_via hb0r hb4 hb0r.size⟩
      · have HLT := hide hlt
        have HYS := hide hys
        clear hlt hys
        go_wp2
        go_ret2
        exact ⟨.inr ⟨HLT.out, _, _, ys, rfl, HYS.out, hP2⟩, below_via hb0r hb4 hb0r.size⟩
end Go.Proofs.YteidmdnhkgcnoaaGreat
