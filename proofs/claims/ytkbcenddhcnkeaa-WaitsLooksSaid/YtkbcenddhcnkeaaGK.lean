/-
  WALKS: waits.ring, waits.Cycle.
-/
import Derived.Test.YtkbcenddhcnkeaaGJ
import Derived.Deep.RegionHeld3
import Derived.Laws.EntriesVeiled
namespace Go.Proofs.Ytkbcenddhcnkeaa
open Go.RowKit Go.Maps Go.Deep

theorem made_int (n : Nat) : madeCells #[Value.int .i64 0] n = (List.replicate n (Value.int .i64 0)).toArray := by
  refine Array.ext (by simp [size_madeCells]) (fun i h1 h2 => ?_)
  simp at h2
  simp [madeCells, Nat.mod_one]
theorem set_num {ns : List Int} {n k : Nat} {v : Int} (hk : k < n) (hl : ns.length = k) :
    ((ns.map (Value.int .i64) ++ List.replicate (n - k) (Value.int .i64 0)).toArray.setIfInBounds k (.int .i64 v)) = ((ns ++ [v]).map (Value.int .i64) ++ List.replicate (n - (k + 1)) (Value.int .i64 0)).toArray := by
  subst hl
  rw [List.setIfInBounds_toArray, List.set_append_right _ _ (by simp)]
  obtain ⟨r, hr⟩ : ∃ r, n - ns.length = r + 1 := ⟨n - ns.length - 1, by omega⟩
  rw [hr, List.replicate_succ]
  simp only [List.length_map, Nat.sub_self, List.set_cons_zero, List.map_append, List.map_cons, List.map_nil, List.append_assoc, List.singleton_append]
  rw [show n - (ns.length + 1) = r by omega]
/-- The state behind the entry of ring. -/
theorem SrSt.start {X : SrB} {W2 wx W4 : World} {v : Value} {st : Stand} (hb2 : Below X.w0.heap.size X.w0 W2) (hbx : Below W2.heap.size W2 wx) (i0 : Blk W2 X.bs 22 #[.slice X.A X.n X.c]) (i1 : Blk W2 X.bf 3 #[.int .i64 X.a]) (ig : Blk W2 X.bg 44 #[.map (some X.gm)])
    (hm : W2.ownsMap Try.prog 3 (unitElem (H := Unit)) X.gm 1 (goneD [X.a])) (kr : Blk wx X.br 47 #[v]) (hst : StRow X.w0.heap.size v [st] wx) (hq : X.bq = wx.heap.size) (hW : W4 = wx.alloc (.cells #[.func (.func 26) #[] X.args] 48)) : SrSt X ([] ++ [st]) [X.a] W4 := by
  subst hW
  have hb4 : Below W2.heap.size W2 (wx.alloc (.cells #[.func (.func 26) #[] X.args] 48)) := hbx.alloc hbx.size _
  exact ⟨hb2.trans (hb4.mono hb2.size), i0.via hb4, i1.via hb4, ig.via hb4, hq ▸ Blk.new _ _ _, ⟨v, kr.alloc _, hst.alloc _⟩, ⟨1, Nat.le_refl _, hm.kept (row := none) ⟨hb4.os, hb4.tape, hb4.output, hb4.size, fun q hq _ => hb4.block q hq⟩ (by simp)⟩⟩
/-- While the places are copied. -/
def WayRel (W : World) (st : List Stand) (iv : Value) (wr : World) : Prop :=
  ∃ k : Nat, k ≤ st.length ∧ iv = .int .i64 k ∧ Below W.heap.size W wr ∧ W.heap.size + 1 ≤ wr.heap.size ∧ Blk wr W.heap.size 3 (((st.take k).map Prod.fst).map (Value.int .i64) ++ List.replicate (st.length - k) (Value.int .i64 0)).toArray
/-- A row of one's own reads as it did, behind other blocks. -/
theorem StRow.at_ {N n c : Nat} {A : Option Addr} {st : List Stand} {w : World} (h : StRow N (.slice A n c) st w) {k : Nat} (hk : k < st.length) : ∃ g x, A = some ⟨g, 0, none⟩ ∧ g < w.heap.size ∧ st[k]? = some x ∧ w.cell? ⟨g, 0 + k * 2, none⟩ = some (.int .i64 x.1) ∧ w.cell? ⟨g, 0 + k * 2 + 1, none⟩ = some (.int .i64 (x.2 : Nat)) := by
  have h3 := h
  unfold StRow at h3
  rcases h3.2 with ⟨_, h0⟩ | ⟨g, cap, cur, h0, hb, hh, hnc, hr⟩
  · omega
  · injection h0 with h4 h5 h6
    subst h4 h5 h6
    have hg : ∀ j, j < 2 → w.cell? ⟨g, k * 2 + j, none⟩ = (stC st[k])[j]? := fun j hj => by
      rw [h3.cellAt _ (by omega), flat_at stC 2 stC_length _ _ _ hj, List.getElem?_eq_getElem hk]
      rfl
    exact ⟨g, st[k], rfl, (Array.getElem?_eq_some_iff.1 hh).1, List.getElem?_eq_getElem hk, by rw [Nat.zero_add]; exact hg 0 (by omega), by rw [Nat.zero_add]; exact hg 1 (by omega)⟩
/-- A row of one place has been laid. -/
def RingCut (w0 W : World) (st : Stand) (s6 : Value) (wx : World) : Prop := ∃ br v, s6 = .pointer (some ⟨br, 0, none⟩) ∧ W.heap.size ≤ br ∧ Below W.heap.size W wx ∧ Blk wx br 47 #[v] ∧ StRow w0.heap.size v [st] wx
theorem stRow_new {w0 w : World} {g : Nat} {st : Stand} (hb : w0.heap.size ≤ g) (k : Blk w g 46 #[.int .i64 st.1, .int .i64 (st.2 : Nat)]) : StRow w0.heap.size (.slice (some ⟨g, 0, none⟩) 1 1) [st] w :=
  ⟨rfl, .inr ⟨g, 1, _, rfl, hb, k, Nat.le_refl _, by unfold maxLen; omega, rfl, rfl⟩⟩
set_option maxHeartbeats 3200000 in
set_option maxRecDepth 100000 in
theorem ring_any (A : Option Addr) (n c : Nat) (es : List Ed) (a : Int) (B : Nat) (w : World) (hB : B ≤ w.heap.size) (hn : n ≤ 900) (hE : Eds w B A n (srtE es)) (hwe : ∀ e ∈ es, (Lit.int .i64 e.2).wf = true) (hwa : (Lit.int .i64 a).wf = true) :
    Calls Try.prog 18 #[.slice A n c, .int .i64 a] w (IntsPost (cyc es a) w) := by
  have HE := hide hE
  have HWE := hide hwe
  have hkey : keyOf Try.prog 3 (.int .i64 a) = some (.int .i64 a) := keyOf_int_mk Try.underlying3 hwa
  have hmm := @run_makeMap Try.prog
  have hu := (World.ownsMap_made ((w.alloc (.cells #[.slice A n c] 22)).alloc (.cells #[.int .i64 a] 3)) Try.prog 3 (unitElem (H := Unit))).update keyI Try.underlying44 (by unfold maxLen; omega) hkey unitElem_mk
  obtain ⟨w1, hrun, hown1, hg1⟩ := hu
  have k0 : Blk (((w.alloc (.cells #[.slice A n c] 22)).alloc (.cells #[.int .i64 a] 3)).alloc (.map #[] 0)) w.heap.size 22 #[.slice A n c] := ((Blk.new _ _ _).alloc _).alloc _
  have k1 : Blk (((w.alloc (.cells #[.slice A n c] 22)).alloc (.cells #[.int .i64 a] 3)).alloc (.map #[] 0)) (w.heap.size + 1) 3 #[.int .i64 a] := by
    have := (Blk.new (w.alloc (.cells #[.slice A n c] 22)) 3 #[.int .i64 a]).alloc (.map #[] 0)
    simpa using this
  have hm0 := World.ownsMap_made ((w.alloc (.cells #[.slice A n c] 22)).alloc (.cells #[.int .i64 a] 3)) Try.prog 3 (unitElem (H := Unit))
  have hb0 : Below w.heap.size w (((w.alloc (.cells #[.slice A n c] 22)).alloc (.cells #[.int .i64 a] 3)).alloc (.map #[] 0)) := (below2 _ _ _).alloc (by simp; omega) _
  simp only [World.size_alloc] at hrun hown1 hg1 hm0
  have j0 : Blk w1 w.heap.size 22 #[.slice A n c] := k0.of_map hm0 hg1
  have j1 : Blk w1 (w.heap.size + 1) 3 #[.int .i64 a] := k1.of_map hm0 hg1
  have hb1 : Below w.heap.size w w1 := hb0.grown hg1 (by simp; omega) (fun q hq => by cases hq; omega)
  have hgone : w1.ownsMap Try.prog 3 (unitElem (H := Unit)) (w.heap.size + 1 + 1) 1 (goneD [a]) := hown1
  have HGN := hide hgone
  clear hE hwe hwa hkey k0 k1 hm0 hb0 hown1 hgone hg1
  go_enter Try.func18, Try.ntmps18
  go_upto_region 2 with (fail)
  refine nameW (R := fun W => Code.wp _ _ _ _ W) (fun W2 hW2 => ?_)
  have i0 : Blk W2 w.heap.size 22 #[.slice A n c] := hW2 ▸ j0.alloc _
  have i1 : Blk W2 (w.heap.size + 1) 3 #[.int .i64 a] := hW2 ▸ j1.alloc _
  have ig : Blk W2 w1.heap.size 44 #[.map (some (w.heap.size + 1 + 1))] := hW2 ▸ Blk.new _ _ _
  have HGN := hide (show W2.ownsMap Try.prog 3 (unitElem (H := Unit)) (w.heap.size + 1 + 1) 1 (goneD [a]) from hW2 ▸ HGN.out.alloc _)
  have hb2 : Below w.heap.size w W2 := hW2 ▸ hb1.alloc hb1.size _
  have hz2 := hb2.size
  clear hW2 j0 j1 hb1 hrun
  generalize w1.heap.size = bg at ig ⊢
  have q0 := i0.cell 0
  have q1 := i1.cell 0
  have l0 := i0.lt
  have l1 := i1.lt
  simp only [List.getElem?_toArray, List.getElem?_cons_zero] at q0 q1
  have I0 := hide i0
  have I1 := hide i1
  have IG := hide ig
  have C1 := hide (fun W (hW : Below W2.heap.size W2 W) => (show W.cell? ⟨w.heap.size + 1, 0, none⟩ = some (.int .i64 a) ∧ W.cell? ⟨w.heap.size, 0, none⟩ = some (.slice A n c) from ⟨(hW.cell (p := ⟨w.heap.size + 1, 0, none⟩) l1).trans q1, (hW.cell (p := ⟨w.heap.size, 0, none⟩) l0).trans q0⟩))
  have HF := hide (fun (W : World) (hW : Below W2.heap.size W2 W) => first_any A n c a (srtE es) B W (Nat.le_trans hB (Nat.le_trans hz2 hW.size)) (by omega) ((HE.out.below hb2 hB).below hW (Nat.le_trans hB hz2)) (srtE_sorted _))
  clear i0 i1 ig q0 q1 l0 l1
  have hfi : firstE (srtE es) a ≤ n := by rw [HE.out.1]; exact firstE_le _ _
  have HTF := hide (toAt_first (srtE_sorted es) a)
  generalize firstE (srtE es) a = fi at HF hfi HTF ⊢
  go_cut [6] from 15 to 20 (fun s6 wx => RingCut w W2 (a, fi) s6 wx)
  case first =>
    have jb := (Below.refl W2.heap.size W2).drew
    have jba := fun o : Obj => ((Below.refl W2.heap.size W2).alloc (Nat.le_refl _) o).drew
    go_region_held3 (fun w' => w'.cell? ⟨w.heap.size + 1, 0, none⟩ = some (.int .i64 a) ∧ w'.cell? ⟨w.heap.size, 0, none⟩ = some (.slice A n c))
      (first | (with_reducible exact C1.out _ jb) | (with_reducible exact C1.out _ (jba _)) | (with_reducible exact C1.out _ jb3) | (with_reducible exact C1.out _ (jb3.alloc jz3 _)) | (with_reducible exact C1.out _ ((jb3.alloc jz3 _).alloc (by simp; omega) _)) | (with_reducible exact C1.out _ ((jb3.alloc jz3 _).setCell (p := ⟨W2.heap.size, 0, none⟩) (Nat.le_refl _) _)) | (with_reducible exact C1.out _ ((jb3.setCell (p := ⟨W2.heap.size, 0, none⟩) (Nat.le_refl _) _).alloc (by simp; omega) _)))
      ((go_at_call 24; refine (HF.out _ (by (first | (with_reducible exact jb) | (with_reducible exact jba _)))).mono ?_; rintro e w3 ⟨rfl, hb3⟩; have jb3 : Below W2.heap.size W2 w3 := (by (first | exact below_via jb hb3 jb.size | exact below_via (jba _) hb3 (jba _).size)); have jz3 := jb3.size; try (have k8 := Blk.via hb3 ((Blk.new W2 _ _).drew); have q8 := k8.cell; have f8 := k8.frozen; have l8 := k8.lt)))
    all_goals go_wp2_with fail
    all_goals go_meet
    · refine ⟨w3.heap.size + 1, _, rfl, by omega, (jb3.alloc jz3 _).alloc (by simp; omega) _, by simpa using Blk.new (w3.alloc (.cells #[.int .i64 a, .int .i64 (fi : Nat)] 46)) 47 #[.slice (some ⟨w3.heap.size, 0, none⟩) 1 1], stRow_new (by omega) ((Blk.new _ _ _).alloc _)⟩
    · refine ⟨w3.heap.size, _, rfl, by omega, (jb3.alloc jz3 _).alloc (by simp; omega) _, (Blk.new _ _ _).alloc _, stRow_new (by omega) ?_⟩
      simpa using Blk.new (w3.alloc (.cells #[.slice (some ⟨w3.heap.size + 1, 0, none⟩) 1 1] 47)) 46 #[.int .i64 a, .int .i64 (fi : Nat)]
    · refine ⟨W2.heap.size, _, rfl, Nat.le_refl _, (jb3.setCell (p := ⟨W2.heap.size, 0, none⟩) (Nat.le_refl _) _).alloc (by simp; omega) _, (k8.set_ 0 _).alloc _, stRow_new (by omega) ?_⟩
      simpa using Blk.new (w3.setCell ⟨W2.heap.size, 0, none⟩ (.slice (some ⟨w3.heap.size, 0, none⟩) 1 1)) 46 #[.int .i64 a, .int .i64 (fi : Nat)]
  case rest =>
    rename World => wx
    obtain ⟨br, v, rfl, hbr, hbx, kr, hst⟩ := hcut
    have KR := hide kr
    have HST := hide hst
    clear kr hst
    go_wp2_with fail
    refine nameW (R := fun W => Calls _ _ _ W _) (fun W4 hW4 => ?_)
    have hEn : n = es.length := by rw [HE.out.1, srtE_len]
    obtain ⟨X, hXe⟩ : ∃ X : SrB, X = ⟨w, B, w.heap.size, w.heap.size + 1, bg, wx.heap.size, br, w.heap.size + 1 + 1, A, n, c, es, a⟩ := ⟨_, rfl⟩
    have hX : X.Ok := by
      subst hXe
      exact ⟨hB, hn, HE.out, HWE.out, Nat.le_trans hz2 hbr, by show w.heap.size ≤ w.heap.size + 1 + 1; omega⟩
    have hS : SrSt X ([] ++ [(a, fi)]) [a] W4 := by
      subst hXe
      exact SrSt.start (X := ⟨w, B, w.heap.size, w.heap.size + 1, bg, wx.heap.size, br, w.heap.size + 1 + 1, A, n, c, es, a⟩) (st := (a, fi)) hb2 hbx I0.out I1.out IG.out HGN.out KR.out HST.out rfl hW4
    have hXa : X.a = a := by subst hXe; rfl
    have hXn : X.n = n := by subst hXe; rfl
    have hXes : X.es = es := by subst hXe; rfl
    have hX0 : X.w0 = w := by subst hXe; rfl
    have hXg : X.args = #[.pointer (some ⟨br, 0, none⟩), .pointer (some ⟨w.heap.size, 0, none⟩), .pointer (some ⟨w.heap.size + 1, 0, none⟩), .pointer (some ⟨bg, 0, none⟩), .pointer (some ⟨wx.heap.size, 0, none⟩)] := by subst hXe; rfl
    have hXr : X.br = br := by subst hXe; rfl
    have HC := srch_all X hX es.length 0 [] a fi [a] W4 hS (by omega) (by omega) (by rw [hXa]; exact ⟨by simp, by simp⟩) (by rw [hXes]; simp) (by simp)
    obtain ⟨r, q, hrr⟩ : ∃ r q, srE X es.length a fi (([] ++ [(a, fi)]).map Prod.fst) [a] = (r, q) := ⟨_, _, rfl⟩
    rw [hrr] at HC
    have hcy : cyc es a = r.getD [] := by
      unfold cyc
      unfold srE at hrr
      rw [hXes, hXa, HTF.out] at hrr
      have hrr : srch (tosOf (srtE es)) a es.length (tosOf (srtE es) a) [a] [a] = (r, q) := hrr
      rw [hrr]
    have HC : Hid (Calls Try.prog 26 #[.int .i64 0, .pointer (some ⟨br, 0, none⟩), .pointer (some ⟨w.heap.size, 0, none⟩), .pointer (some ⟨w.heap.size + 1, 0, none⟩), .pointer (some ⟨bg, 0, none⟩), .pointer (some ⟨wx.heap.size, 0, none⟩)] W4 (SrPost X [] (r, q))) := hide (by rw [hXg] at HC; exact HC)
    have HCY := hide hcy
    have H0 := hide hX0
    have HR := hide hXr
    clear hcy hrr hS hXe hXa hXn hXes hX0 hXg hXr hW4 hEn hX KR HST I0 I1 IG HGN hbx hb2 hz2 hfi
    refine HC.out.mono ?_
    rintro e w6 ⟨rfl, hE⟩
    cases r with
    | none =>
      have hE : SrSt X [] q w6 := hE
      have hb6 : Below w.heap.size w w6 := H0.out ▸ hE.b
      have HCY2 := hide (show cyc es a = [] from HCY.out)
      clear hE
      simp only [Option.isSome_none]
      go_wp2
      go_ret
      exact ⟨none, 0, 0, rfl, by rw [HCY2.out]; exact ⟨rfl, Reads.none_⟩, hb6⟩
    | some p =>
      obtain ⟨st, hst, hE⟩ : ∃ st' : List Stand, st'.map Prod.fst = p ∧ SrSt X st' q w6 := hE
      have hb6 : Below w.heap.size w w6 := H0.out ▸ hE.b
      have HCY2 := hide (show cyc es a = p from HCY.out)
      obtain ⟨v, k1, k2, A5, c5, rfl⟩ := hE.len
      rw [HR.out] at k1
      have q5 := k1.cell 0
      have l5 := k1.lt
      simp only [List.getElem?_toArray, List.getElem?_cons_zero] at q5
      have hsl : st.length ≤ 1000 := by
        have h1 := cyc_len es a
        have h2 : p.length = st.length := by rw [← hst, List.length_map]
        have h3 := HE.out.1
        rw [srtE_len] at h3
        rw [HCY2.out] at h1
        omega
      have HST := hide hst
      have K1 := hide k1
      have K2 := hide k2
      clear hE hst k1 k2
      obtain ⟨i0, hi, hz0, hz1, hz2⟩ := info_parts info_ints
      have hmk := fun W => run_make_rowN (P := Try.prog) 24 3 i0 (.int .i64 0) Try.underlying24 hi hz0 .i64 .i64 st.length st.length (Nat.le_refl _) (by rw [hz2]; omega) (by omega) W
      rw [hz1] at hmk
      generalize hm : st.length = m at *
      have HM := hide hm
      clear hi hz0 hz1 hz2 hm
      simp only [Option.isSome_some]
      go_wp2
      go_loopw [30] (WayRel w6 st) (fun i _ => m - (intOf i).toNat)
      case atStart => exact ⟨0, Nat.zero_le _, rfl, (Below.refl _ _).alloc (Nat.le_refl _) _, by simp, by rw [HM.out, made_int]; exact Blk.new _ _ _⟩
      case round =>
        obtain ⟨k, hk, rfl, hbw, hzw, hblk⟩ := hrel
        rw [HM.out] at hk
        have HBK := hide hblk
        clear hblk
        by_cases hlt : k < m
        · have hrow : StRow X.w0.heap.size (.slice A5 m c5) st wr := own_via (show w6.ownsRow X.w0.heap.size 46 2 (.slice A5 m c5) st.length (st.flatMap stC) from K2.out) hbw
          obtain ⟨gs, x, rfl, hgs, hkx, c0, c1⟩ := hrow.at_ (k := k) (by rw [HM.out]; exact hlt)
          clear hrow
          simp only [Nat.zero_add] at c0 c1
          have HKX := hide hkx
          have hll : (((st.take k).map Prod.fst)).length = k := by rw [List.length_map, List.length_take, HM.out]; omega
          have q0 : wr.cell? ⟨w6.heap.size, k, none⟩ = some (.int .i64 0) := by
            rw [HBK.out.cell, HM.out, List.getElem?_toArray, List.getElem?_append_right (by rw [List.length_map, hll]; exact Nat.le_refl _), List.length_map, hll, Nat.sub_self, List.getElem?_replicate, if_pos (by omega)]
          have q1 := HBK.out.frozen k
          have HLL := hide hll
          obtain ⟨x1, x2⟩ := x
          have s1 : (k : Int) < m := by omega
          have s0 : (0 : Int) ≤ k := by omega
          dsimp only at c0 c1
          clear hll hkx
          have hzw' : w6.heap.size < wr.heap.size := by omega
          go_wp2
          go_roundw
          case rel =>
            refine ⟨k + 1, by rw [HM.out]; omega, by go_num, (hbw.setCell (p := ⟨w6.heap.size, k, none⟩) (Nat.le_refl _) _).alloc (by simp; omega) _, by simp; omega, ?_⟩
            have h1 := HBK.out.set_ k (.int .i64 x1)
            rw [HM.out, set_num hlt HLL.out] at h1
            obtain ⟨hk2, e⟩ := List.getElem?_eq_some_iff.1 HKX.out
            rw [HM.out, List.take_succ_eq_append_getElem hk2, e, List.map_append]
            exact h1.alloc _
          case measure => simp [intOf]; omega
        · obtain rfl : k = m := by omega
          have hp : (st.take k).map Prod.fst = p := by rw [List.take_of_length_le (by rw [HM.out]; exact Nat.le_refl _), HST.out]
          have hpl : p.length = k := by rw [← hp, List.length_map, List.length_take, HM.out]; omega
          have hB2 : Blk wr w6.heap.size 3 (p.map (Value.int .i64)).toArray := by
            have := HBK.out
            rw [hp, HM.out, Nat.sub_self, List.replicate_zero, List.append_nil] at this
            exact this
          have HB2 := hide hB2
          have HPL := hide hpl
          clear hp hpl hB2
          go_wp2
          go_ret
          refine ⟨some ⟨w6.heap.size, 0, none⟩, k, k, rfl, ?_, hb6.trans (hbw.mono hb6.size)⟩
          rw [HCY2.out]
          exact ⟨HPL.out.symm, (Reads.of_blk HB2.out (n := k) (size := 1) (by simp [HPL.out])).more (by omega)⟩
/-- waits.Cycle. -/
theorem wCycle_any (A : Option Addr) (n c : Nat) (es : List Ed) (a : Int) (B : Nat) (w : World) (hB : B ≤ w.heap.size) (hn : n ≤ 900) (hE : Eds w B A n es) (hc : A = none → c = 0) (hwe : ∀ e ∈ es, (Lit.int .i64 e.2).wf = true) (hwa : (Lit.int .i64 a).wf = true) :
    Calls Try.prog 7 #[.slice A n c, .int .i64 a] w (IntsPost (cyc es a) w) := by
  have HS := hide (sorted_any A n c es B w hB (by omega) hE hc)
  have HL := hide (show (srtE es).length = n by rw [srtE_len]; exact hE.1.symm)
  have HWE := hide hwe
  have HWA := hide hwa
  clear hE hc hwe hwa
  go_enter Try.func7, Try.ntmps7
  go_wp2_with fail
  refine HS.out.mono ?_
  rintro e w1 ⟨A2, c2, rfl, hown, hb1⟩
  rw [HL.out] at hown
  have HR := hide (ring_any A2 n c2 es a w1.heap.size w1 (Nat.le_refl _) hn (Eds.of_own hown HL.out.symm) HWE.out HWA.out)
  clear hown
  rw [HL.out]
  go_wp2_with fail
  refine HR.out.mono ?_
  rintro e w2 ⟨A3, n3, c3, rfl, hi3, hb2⟩
  have HI := hide hi3
  clear hi3
  go_wp2
  go_ret
  exact ⟨A3, n3, c3, rfl, HI.out, hb1.trans (hb2.mono hb1.size)⟩
end Go.Proofs.Ytkbcenddhcnkeaa
