/-
  WALKS OF THE PROGRAM: wal.own (the record with lists of its own).
-/
import Derived.Test.YtnanlaefehaifaaGreatRU
namespace Go.Proofs.YtnanlaefehaifaaGreat
open Go.RowKit

theorem RunV.one {w : World} {B : Nat} {rs : List RunV} (h : ∀ r ∈ rs, BytesAt w B r.dv r.data) : ∀ u ∈ rs.flatMap RunV.cells, u.oneCell' = true := by
  intro u hu
  obtain ⟨r, hr, hu⟩ := List.mem_flatMap.1 hu
  have := (h r hr).one
  simp only [RunV.cells, List.mem_cons, List.not_mem_nil, or_false] at hu
  rcases hu with rfl | rfl
  · rfl
  · exact this
theorem PatV.one {w : World} {B : Nat} {ps : List PatV} (h : ∀ p ∈ ps, Runs w B p.rv p.runs) : ∀ u ∈ ps.flatMap PatV.cells, u.oneCell' = true := by
  intro u hu
  obtain ⟨r, hr, hu⟩ := List.mem_flatMap.1 hu
  have := (h r hr).1.one
  simp only [PatV.cells, List.mem_cons, List.not_mem_nil, or_false] at hu
  rcases hu with rfl | rfl | rfl
  · rfl
  · rfl
  · exact this
theorem own_low' {W : World} {b b' n s : Nat} {t : TypeId} {v : Value} {xs : List Value} (h : W.ownsRow b t s v n xs) (hb : b' ≤ b) : W.ownsRow b' t s v n xs := by
  obtain ⟨h1, h2 | ⟨g, cap, cur, e, hg, r⟩⟩ := h
  · exact ⟨h1, .inl h2⟩
  · exact ⟨h1, .inr ⟨g, cap, cur, e, Nat.le_trans hb hg, r⟩⟩
theorem own_farK {W : World} {b n s g i : Nat} {t t' : TypeId} {v : Value} {xs : List Value} {cs : Array Value} (h : W.ownsRow b t s v n xs) (k : Blk W g t' cs) (hne : t ≠ t') (u : Value) : (W.setCell ⟨g, i, none⟩ u).ownsRow b t s v n xs := own_far h (fun q hq e => by
  obtain ⟨cur, hc⟩ := row_obj h hq
  have e : q = g := e
  subst e
  exact (show Blk W q t cur from hc).ne_ k hne rfl) u
theorem RunsF.farK {W : World} {L g i : Nat} {t : TypeId} {cs : Array Value} {v : Value} {rs : List RunV} (h : RunsF W L v rs) (k : Blk W g t cs) (h1 : 180 ≠ t) (h2 : 5 ≠ t) (u : Value) : RunsF (W.setCell ⟨g, i, none⟩ u) L v rs := ⟨own_farK h.1 k h1 u, fun r hr => own_farK (h.2 r hr) k h2 u⟩
theorem PatI.farK {w W : World} {B L k g i : Nat} {t : TypeId} {cs : Array Value} {v : Value} {ys : List PatV} (h : PatI w B L k v ys W) (kb : Blk W g t cs) (h1 : 180 ≠ t) (h2 : 5 ≠ t) (h3 : 111 ≠ t) (u : Value) : PatI w B L k v ys (W.setCell ⟨g, i, none⟩ u) := ⟨own_farK h.row kb h3 u, h.sm, fun j r hj hr => (h.own j r hj hr).farK kb h1 h2 u, h.old⟩
theorem PatsF.farK {W : World} {L g i : Nat} {t : TypeId} {cs : Array Value} {v : Value} {ps : List PatV} (h : PatsF W L v ps) (k : Blk W g t cs) (h1 : 180 ≠ t) (h2 : 5 ≠ t) (h3 : 111 ≠ t) (u : Value) : PatsF (W.setCell ⟨g, i, none⟩ u) L v ps := ⟨own_farK h.1 k h3 u, fun p hp => (h.2 p hp).farK k h1 h2 u⟩
theorem own_keepO {W W' : World} {b n s : Nat} {t t' : TypeId} {v : Value} {xs : List Value} (h : W.ownsRow b t s v n xs) (hne : t ≠ t') (hk : ∀ (q : Nat) (cur : Array Value) (u : TypeId), W.heap[q]? = some (Obj.cells cur u (0, 0)) → u ≠ t' → W'.heap[q]? = W.heap[q]?) : W'.ownsRow b t s v n xs := row_keep h fun q hq => by
  obtain ⟨cur, hc⟩ := row_obj h hq
  exact hk q cur t hc hne
theorem PatsF.keepO {W W' : World} {L : Nat} {t' : TypeId} {v : Value} {ps : List PatV} (h : PatsF W L v ps) (h1 : 180 ≠ t') (h2 : 5 ≠ t') (h3 : 111 ≠ t') (hk : ∀ (q : Nat) (cur : Array Value) (u : TypeId), W.heap[q]? = some (Obj.cells cur u (0, 0)) → u ≠ t' → W'.heap[q]? = W.heap[q]?) : PatsF W' L v ps :=
  ⟨own_keepO h.1 h3 hk, fun p hp => ⟨own_keepO (h.2 p hp).1 h1 hk, fun r hr => own_keepO ((h.2 p hp).2 r hr) h2 hk⟩⟩
theorem RunsF.low {W : World} {L L' : Nat} {v : Value} {rs : List RunV} (h : RunsF W L v rs) (hL : L' ≤ L) : RunsF W L' v rs := ⟨own_low' h.1 hL, fun r hr => (h.2 r hr).low hL⟩
/-- What wal.own gives. -/
def OwnP (w : World) (x : RecV) (e : Ending) (w' : World) : Prop := ∃ y : RecV, e = .returned (recV y) ∧ y.kind = x.kind ∧ y.txn = x.txn ∧ RecSm y ∧ RecIn w' w.heap.size w'.heap.size y ∧ Below w.heap.size w w'
set_option maxHeartbeats 12800000 in
set_option maxRecDepth 100000 in
theorem own_any (x : RecV) (B : Nat) (w : World) (hs : RecSm x) (hB : B ≤ w.heap.size) (ha : RecOk w B x) :
    Calls Tryz.prog 50 #[recV x] w (OwnP w x) := by
  obtain ⟨hsP, hsPS, hsU⟩ := hs
  obtain ⟨⟨hsa, hok⟩, hu⟩ := ha
  have HCP := hide (fun W (hb : Below w.heap.size w W) => (show ∃ A c, x.pv = .slice A x.pats.length c ∧ Calls Tryz.prog 120 #[.slice A x.pats.length c] W (OwnRow W 111 3 x.pats.length (x.pats.flatMap PatV.cells)) from by
    obtain ⟨A, c, e, h1, h2, h3, h4⟩ := hsa
    exact ⟨A, c, e, cloneP_any A _ c _ B W (Nat.le_trans hB hb.size) (by omega) (h4.below hb hB) h3 (PatV.one hok)⟩))
  have HCU := hide (fun W (hb : Below w.heap.size w W) => (show ∃ A c, x.undo.cv = .slice A x.undo.cell.data.length c ∧ Calls Tryz.prog 108 #[.slice A x.undo.cell.data.length c] W (OwnRow W 5 1 x.undo.cell.data.length (x.undo.cell.data.map byteV)) from by
    obtain ⟨A, n, c, e, h1, h2, h3, h4, h5⟩ := hu
    subst h3
    exact ⟨A, c, e, cloneB_any A _ c _ B W (Nat.le_trans hB hb.size) (by have := hsU.2.2; omega) (h5.below hb hB) h4 (bytes_one _)⟩))
  have HSU := hide hsU
  have HSP := hide hsPS
  have HOK := hide hok
  obtain ⟨A, c, hpv, _⟩ := hsa
  obtain ⟨Au, nu, cu, hcv, _, _, hnu, _⟩ := hu
  subst hnu
  obtain ⟨kd, tx, pr, nx, ps, pv, un⟩ := x
  obtain ⟨yu1, yu2, yu3, yu4, ⟨d1, d2, d3, d4, d5⟩, yuv, yu7⟩ := un
  dsimp only at *
  subst hpv hcv
  obtain ⟨m, hm'⟩ : ∃ m, m = ps.length := ⟨_, rfl⟩
  obtain ⟨du, hdu'⟩ : ∃ du, du = d2.length := ⟨_, rfl⟩
  have hl6 : m ≤ 6 := by omega
  have HM := hide hm'
  have HDU := hide hdu'
  obtain ⟨Post, hPost⟩ : ∃ Post, Post = OwnP w ⟨kd, tx, pr, nx, ps, .slice A ps.length c, ⟨yu1, yu2, yu3, yu4, ⟨d1, d2, d3, d4, d5⟩, .slice Au d2.length cu, yu7⟩⟩ := ⟨_, rfl⟩
  rw [← hPost]
  have HPO := hide hPost
  unfold recV
  dsimp only
  rw [← hm'] at HCP ⊢
  rw [← hdu'] at HCU ⊢
  clear hPost hsP hsPS hsU hok hm' hdu'
  go_enter Tryz.func50, Tryz.ntmps50
  go_upto_region 1 with (fail)
  refine gen2 (R := fun W => Code.wp _ _ _ _ W) (fun W1 kx k2 hb1 hz1 => ?_)
  have p4 : W1.cell? ⟨w.heap.size, 4, none⟩ = some _ := kx.cell 4
  have KX := hide kx
  have K2 := hide k2
  clear kx k2
  go_wp2_with fail
  obtain ⟨A', c', e', hcp⟩ := HCP.out W1 hb1
  injection e' with e1 e2 e3
  subst e1 e3
  refine hcp.mono ?_
  rintro e w2 ⟨A2, c2, rfl, ho2, hb2⟩
  have hb2' := below_via hb1 hb2 hb1.size
  have HO2 := hide (own_low' ho2 hb1.size)
  have kx2 := Blk.via hb2 KX.out
  have f4 := kx2.frozen 4
  have l2 := kx2.lt
  have q4 : w2.cell? ⟨w.heap.size, 4, none⟩ = some _ := kx2.cell 4
  have K2' := hide (Blk.via hb2 K2.out)
  have KX2 := hide kx2
  clear hcp ho2 kx2 p4
  go_upto_region 2 with (fail)
  have hI0 : PatI w B w.heap.size 0 (.slice A2 m c2) ps (w2.setCell ⟨w.heap.size, 4, none⟩ (.slice A2 m c2)) :=
    ⟨own_farK (by rw [← HM.out]; exact HO2.out) KX2.out (by decide) _, HSP.out, fun j r hj => absurd hj (by omega), fun j r _ hr => HOK.out r (List.mem_of_getElem? hr)⟩
  have hx3 : Blk (w2.setCell ⟨w.heap.size, 4, none⟩ (.slice A2 m c2)) w.heap.size 41 #[.int .i64 kd, .int .i64 tx, .int .i64 pr, .int .i64 nx, .slice A2 m c2, .int .i64 yu1, .string yu2, .int .i64 yu3, .string yu4, .int .i64 d1, .slice Au du cu, .int .i64 d3, .int .i64 d4, .int .i64 d5, .int .i64 yu7] := KX2.out.set_ 4 _
  have h23 := K2'.out.far (p := ⟨w.heap.size, 4, none⟩) (by simp) (.slice A2 m c2)
  have hb3 : Below w.heap.size w (w2.setCell ⟨w.heap.size, 4, none⟩ (.slice A2 m c2)) := hb2'.setCell (p := ⟨w.heap.size, 4, none⟩) (Nat.le_refl _) _
  generalize w2.setCell ⟨w.heap.size, 4, none⟩ (.slice A2 m c2) = W3 at *
  clear f4 q4 l2 hb2 hb2'
  have q4 : W3.cell? ⟨w.heap.size, 4, none⟩ = some _ := hx3.cell 4
  have HI0 := hide hI0
  have HX3 := hide hx3
  have H23 := hide h23
  clear hI0 hx3 h23
  go_wp2
  clear q4
  go_loopw [15] (fun iv wr => ∃ (k : Nat) (ys : List PatV), k ≤ m ∧ iv = .int .i64 k ∧ ys.length = m ∧ PatI w B w.heap.size k (.slice A2 m c2) ys wr ∧ Blk wr w.heap.size 41 #[.int .i64 kd, .int .i64 tx, .int .i64 pr, .int .i64 nx, .slice A2 m c2, .int .i64 yu1, .string yu2, .int .i64 yu3, .string yu4, .int .i64 d1, .slice Au du cu, .int .i64 d3, .int .i64 d4, .int .i64 d5, .int .i64 yu7] ∧ (∃ z : Array Value, z.size = 15 ∧ Blk wr (w.heap.size + 1) 41 z) ∧ Below w.heap.size w wr) (fun iv _ => m - (intOf iv).toNat)
  case atStart => exact ⟨0, ps, Nat.zero_le _, rfl, HM.out.symm, HI0.out, HX3.out, ⟨_, rfl, H23.out⟩, hb3⟩
  case round =>
    obtain ⟨k, ys, hk, rfl, hyl, hI, hx, ⟨z, hz, h2⟩, hbw⟩ := hrel
    have hzb := hbw.size
    by_cases hlt : k < m
    · obtain ⟨p, hp⟩ : ∃ p, ys[k]? = some p := ⟨_, List.getElem?_eq_getElem (by omega)⟩
      have hg : ∃ g, A2 = some ⟨g, 0, none⟩ := by
        have h1 := hI.row
        rcases h1.2 with ⟨_, h2⟩ | ⟨g, cap, cur, h2, _⟩
        · omega
        · injection h2 with h2 _ _
          exact ⟨g, h2⟩
      obtain ⟨g, rfl⟩ := hg
      have hI' : PatI w B w.heap.size k (.slice (some ⟨g, 0, none⟩) ys.length c2) ys wr := by rw [hyl]; exact hI
      have cell := fun j (hj : j < 3) => (own_cell hI'.row (k * 3 + j) (by omega)).1.trans (flat_at PatV.cells 3 PatV.cells_length ys k j hj)
      simp only [hp, Option.bind_some] at cell
      have c0 : wr.cell? ⟨g, k * 3, none⟩ = some (.int .i64 p.page) := cell 0 (by omega)
      have c1 : wr.cell? ⟨g, k * 3 + 1, none⟩ = some (.bool p.fresh) := cell 1 (by omega)
      have c2' : wr.cell? ⟨g, k * 3 + 2, none⟩ = some p.rv := cell 2 (by omega)
      have hrp := hI.old k p (Nat.le_refl _) hp
      have hsp := hI.sm p (List.mem_of_getElem? hp)
      obtain ⟨⟨A3, c3, hrv, hn3, hm3, hnil3, hrd3⟩, hbs3⟩ := hrp
      rw [hrv] at c2'
      obtain ⟨q, hq⟩ : ∃ q, q = p.runs.length := ⟨_, rfl⟩
      rw [← hq] at c2'
      have HCR := hide (fun W (hb : Below w.heap.size w W) => (show Calls Tryz.prog 121 #[.slice A3 q c3] W (OwnRow W 180 2 q (p.runs.flatMap RunV.cells)) from by
        rw [hq]
        exact cloneR_any A3 _ c3 _ B W (Nat.le_trans hB hb.size) (by have := hsp.1; omega) (hrd3.below hb hB) hnil3 (RunV.one hbs3)))
      have HI := hide hI'
      have HP := hide hp
      have HSP' := hide hsp
      have HBS := hide hbs3
      have HQ := hide hq
      have hq60 : q ≤ 60 := by have := hsp.1; omega
      have HX := hide hx
      have H2 := hide h2
      have HYL := hide hyl
      have HZ := hide hz
      clear hI hI' cell hp hsp hbs3 hrd3 hq hx h2 hrv hn3 hm3 hnil3 hyl hz HI0 HX3 H23
      go_wp2_with fail
      refine gen1 (R := fun W => Calls Tryz.prog 121 _ W _) (fun W4 kb4 hb4 hz4 => ?_)
      have hbw4 := below_via hbw hb4 hzb
      have HI4 := hide (HI.out.via hb4)
      have HX4 := hide (Blk.via hb4 HX.out)
      have H24 := hide (Blk.via hb4 H2.out)
      refine (HCR.out W4 hbw4).mono ?_
      rintro e w5 ⟨A5, c5, rfl, ho5, hb5⟩
      have HR5 := hide (show RunI w B W4.heap.size 0 (.slice A5 q c5) p.runs w5 from ⟨by rw [← HQ.out]; exact ho5, HSP'.out.2, fun j r hj => absurd hj (by omega), fun j r _ hr => HBS.out r (List.mem_of_getElem? hr)⟩)
      have hz4' := hbw4.size
      have hbw5 := below_via hbw4 hb5 hz4'
      clear ho5 kb4 HI HX H2 hb4 c0 c1 c2'
      go_wp2
      go_loopw [25] (fun iv wi => ∃ (j : Nat) (rs : List RunV), j ≤ q ∧ iv = .int .i64 j ∧ rs.length = q ∧ RunI w B W4.heap.size j (.slice A5 q c5) rs wi ∧ Below W4.heap.size W4 wi) (fun iv _ => q - (intOf iv).toNat)
      case atStart => exact ⟨0, p.runs, Nat.zero_le _, rfl, HQ.out.symm, HR5.out, hb5⟩
      case round =>
        obtain ⟨j, rs, hj, rfl, hrl, hR, hbi⟩ := hrel
        have hzi := hbi.size
        have hbwi : Below w.heap.size w wr := below_via hbw4 hbi hz4'
        by_cases hlt2 : j < q
        · obtain ⟨r, hr⟩ : ∃ r, rs[j]? = some r := ⟨_, List.getElem?_eq_getElem (by omega)⟩
          have hg5 : ∃ g5, A5 = some ⟨g5, 0, none⟩ := by
            have h1 := hR.row
            rcases h1.2 with ⟨_, h2⟩ | ⟨g5, cap, cur, h2, _⟩
            · omega
            · injection h2 with h2 _ _
              exact ⟨g5, h2⟩
          obtain ⟨g5, rfl⟩ := hg5
          have hR' : RunI w B W4.heap.size j (.slice (some ⟨g5, 0, none⟩) rs.length c5) rs wr := by rw [hrl]; exact hR
          have cell := fun i (hi : i < 2) => (own_cell hR'.row (j * 2 + i) (by omega)).1.trans (flat_at RunV.cells 2 RunV.cells_length rs j i hi)
          simp only [hr, Option.bind_some] at cell
          have r0 : wr.cell? ⟨g5, j * 2, none⟩ = some (.int .i64 r.place) := cell 0 (by omega)
          have r1 : wr.cell? ⟨g5, j * 2 + 1, none⟩ = some r.dv := cell 1 (by omega)
          have hbr := hR.old j r (Nat.le_refl _) hr
          have hsr := hR.sm r (List.mem_of_getElem? hr)
          obtain ⟨A6, n6, c6, hdv, hn6, hm6, hnn6, hnil6, hrd6⟩ := hbr
          rw [hdv] at r1
          have HCB := hide (fun W (hb : Below w.heap.size w W) => (show Calls Tryz.prog 108 #[.slice A6 n6 c6] W (OwnRow W 5 1 n6 (r.data.map byteV)) from
            cloneB_any A6 _ c6 _ B W (Nat.le_trans hB hb.size) (by unfold RunSm at hsr; omega) (hrd6.below hb hB) hnil6 (bytes_one _)))
          have HR := hide hR'
          have HRR := hide hr
          have HN6 := hide hnn6
          have HRL := hide hrl
          clear hR hR' cell hr hsr hdv hn6 hm6 hnn6 hnil6 hrd6 hrl HR5
          go_wp2_with fail
          refine gen1 (R := fun W => Calls Tryz.prog 108 _ W _) (fun W7 kb7 hb7 hz7 => ?_)
          refine (HCB.out W7 (below_via hbwi hb7 hbwi.size)).mono ?_
          rintro e w8 ⟨A8, c8, rfl, ho8, hb8⟩
          have HR8 := hide ((HR.out.via hb7).via hb8)
          have hb48 : Below W4.heap.size W4 w8 := below_via (below_via hbi hb7 hzi) hb8 (by omega)
          have HO8 := hide (show OwnB w8 W4.heap.size (.slice A8 n6 c8) r.data from by
            unfold OwnB
            rw [← HN6.out]
            exact own_low' ho8 (by omega))
          have oc := own_cell HR8.out.row (j * 2 + 1) (by have := HRL.out; omega)
          have f1 := oc.2.1
          have lg := oc.2.2
          have e1 : w8.cell? ⟨g5, j * 2 + 1, none⟩ = some r.dv := oc.1.trans ((flat_at RunV.cells 2 RunV.cells_length rs j 1 (by omega)).trans (by rw [HRR.out]; rfl))
          have hg5L : W4.heap.size ≤ g5 := (World.ownsRow.lt HR8.out.row g5 rfl).1
          clear oc ho8 kb7 hb7 hb8 r0 r1
          go_wp2
          have HRL' := HRL.out
          have hst := HR8.out.step HRR.out HO8.out
          rw [List.length_set, HRL'] at hst
          go_roundw
          case rel => exact ⟨j + 1, rs.set j ⟨r.place, r.data, .slice A8 n6 c8⟩, by omega, by go_num, by rw [List.length_set, HRL'], hst, hb48.setCell (p := ⟨g5, j * 2 + 1, none⟩) hg5L _⟩
          case measure => simp [intOf]; omega
        · obtain rfl : j = q := by omega
          have hRF : RunsF wr w.heap.size (.slice A5 j c5) rs := (RunI.done (by rw [hrl]; exact hR)).low hz4'
          have hIw := HI4.out.via hbi
          have hXw := Blk.via hbi HX4.out
          have h2w := Blk.via hbi H24.out
          have q4 : wr.cell? ⟨w.heap.size, 4, none⟩ = some _ := hXw.cell 4
          have lx := hXw.lt
          have oc := own_cell hIw.row (k * 3 + 2) (by have := HYL.out; omega)
          have f1 := oc.2.1
          have lg := oc.2.2
          have e1 : wr.cell? ⟨g, k * 3 + 2, none⟩ = some p.rv := oc.1.trans ((flat_at PatV.cells 3 PatV.cells_length ys k 2 (by omega)).trans (by rw [HP.out]; rfl))
          have hsm2 : rs.length ≤ 60 ∧ ∀ x ∈ rs, RunSm x := ⟨by omega, hR.sm⟩
          have hst := hIw.step HP.out hRF hsm2
          rw [List.length_set, HYL.out] at hst
          have hne1 : w.heap.size ≠ g := by
            obtain ⟨cur, kg, _⟩ := own_blk hIw.row
            exact hXw.ne_ kg (by decide)
          have hne2 : w.heap.size + 1 ≠ g := by
            obtain ⟨cur, kg, _⟩ := own_blk hIw.row
            exact h2w.ne_ kg (by decide)
          have hgL := (World.ownsRow.lt hIw.row g rfl).1
          have hx9 := hXw.far (p := ⟨g, k * 3 + 2, none⟩) hne1 (.slice A5 j c5)
          have h29 := h2w.far (p := ⟨g, k * 3 + 2, none⟩) hne2 (.slice A5 j c5)
          have hb9 : Below w.heap.size w (wr.setCell ⟨g, k * 3 + 2, none⟩ (.slice A5 j c5)) := hbwi.setCell (p := ⟨g, k * 3 + 2, none⟩) hgL _
          have HST := hide hst
          have HX9 := hide hx9
          have H29 := hide h29
          have HB9 := hide hb9
          have HYL' := hide (show (ys.set k ⟨p.page, p.fresh, rs, .slice A5 j c5⟩).length = m by rw [List.length_set]; exact HYL.out)
          clear hst hx9 h29 hb9 hRF hIw hXw h2w oc hsm2 hR hrl HR5 hne1 hne2
          go_wp2
          go_roundw
          case rel => exact ⟨k + 1, _, by omega, by go_num, HYL'.out, HST.out, HX9.out, ⟨z, HZ.out, H29.out⟩, HB9.out⟩
          case measure => simp [intOf]; omega
    · obtain rfl : k = m := by omega
      have hPF : PatsF wr w.heap.size (.slice A2 k c2) ys := PatI.done (by rw [hyl]; exact hI)
      have q10 : wr.cell? ⟨w.heap.size, 10, none⟩ = some _ := hx.cell 10
      have HPF := hide hPF
      have HSM := hide (show RecSm ⟨kd, tx, pr, nx, ys, .slice A2 k c2, ⟨yu1, yu2, yu3, yu4, ⟨d1, d2, d3, d4, d5⟩, undef, yu7⟩⟩ from ⟨by show ys.length ≤ 6; omega, hI.sm, HSU.out⟩)
      have HX := hide hx
      have H2 := hide h2
      have HZ := hide hz
      have HYL := hide hyl
      clear hPF hI hx h2 hz hyl HI0 HX3 H23
      go_wp2_with fail
      obtain ⟨Au', cu', e', hcp⟩ := HCU.out wr hbw
      injection e' with e1 e2 e3
      subst e1 e3
      refine hcp.mono ?_
      rintro e w4 ⟨A4, c4, rfl, ho4, hb4⟩
      have hbw4 := below_via hbw hb4 hzb
      have HPF4 := hide (HPF.out.keep (fun q _ hq => hb4.block q hq))
      have HO4 := hide (own_low' ho4 hzb)
      have hx4 := Blk.via hb4 HX.out
      have f10 := hx4.frozen 10
      have c10 : w4.cell? ⟨w.heap.size, 10, none⟩ = some _ := hx4.cell 10
      have l4 := hx4.lt
      have HX4 := hide hx4
      have H24 := hide (Blk.via hb4 H2.out)
      clear hcp ho4 hx4 hb4 q10
      go_upto_region 14 with (fail)
      have hx5 : Blk (w4.setCell ⟨w.heap.size, 10, none⟩ (.slice A4 du c4)) w.heap.size 41 #[.int .i64 kd, .int .i64 tx, .int .i64 pr, .int .i64 nx, .slice A2 k c2, .int .i64 yu1, .string yu2, .int .i64 yu3, .string yu4, .int .i64 d1, .slice A4 du c4, .int .i64 d3, .int .i64 d4, .int .i64 d5, .int .i64 yu7] := HX4.out.set_ 10 _
      have h25 := H24.out.far (p := ⟨w.heap.size, 10, none⟩) (by simp) (.slice A4 du c4)
      have hb5 : Below w.heap.size w (w4.setCell ⟨w.heap.size, 10, none⟩ (.slice A4 du c4)) := hbw4.setCell (p := ⟨w.heap.size, 10, none⟩) (Nat.le_refl _) _
      have HPF5 := hide (HPF4.out.farK (i := 10) HX4.out (by decide) (by decide) (by decide) (.slice A4 du c4))
      have HO5 := hide (own_farK (i := 10) HO4.out HX4.out (by decide) (.slice A4 du c4))
      generalize w4.setCell ⟨w.heap.size, 10, none⟩ (.slice A4 du c4) = W5 at *
      clear f10 c10 l4 HX4 H24 HPF4 HO4
      obtain ⟨X, hX⟩ : ∃ X : Array Value, X = #[.int .i64 kd, .int .i64 tx, .int .i64 pr, .int .i64 nx, .slice A2 k c2, .int .i64 yu1, .string yu2, .int .i64 yu3, .string yu4, .int .i64 d1, .slice A4 du c4, .int .i64 d3, .int .i64 d4, .int .i64 d5, .int .i64 yu7] := ⟨_, rfl⟩
      have hii : (Tryz.prog.info? 41).map (·.size) = some X.size := by rw [hX]; kernel_rfl
      have h1c : X.all (·.oneCell') = true := by rw [hX]; simp [Value.oneCell']
      have hzX : z.size = X.size := by rw [HZ.out, hX]; rfl
      rw [← hX] at hx5
      have hK6 : Blk (W5.setRow (w.heap.size + 1) X) (w.heap.size + 1) 41 X := setRow_heap W5 (w.heap.size + 1) _ _ _ _ h25
      have tT := touch_setRow W5 (w.heap.size + 1) X
      have hb6 : Below w.heap.size w (W5.setRow (w.heap.size + 1) X) := tT.below hb5 (by omega)
      have hko : ∀ (q : Nat) (cur : Array Value) (u : TypeId), W5.heap[q]? = some (Obj.cells cur u (0, 0)) → u ≠ 41 → (W5.setRow (w.heap.size + 1) X).heap[q]? = W5.heap[q]? := fun q cur u hq hu => tT.block q (by
        rcases Nat.lt_trichotomy q (w.heap.size + 1) with h | h | h
        · exact .inl h
        · subst h
          exact absurd rfl ((show Blk W5 (w.heap.size + 1) u cur from hq).ne_ h25 hu)
        · exact .inr h)
      have HPF6 := hide (HPF5.out.keepO (by decide) (by decide) (by decide) hko)
      have HO6 := hide (own_keepO HO5.out (by decide) hko)
      have HX := hide hX
      have HII := hide hii
      have H1C := hide h1c
      have HZX := hide hzX
      have HX5 := hide hx5
      have H25 := hide h25
      have HK6 := hide hK6
      clear hX hii h1c hzX hx5 h25 hK6 tT hko HPF5 HO5
      go_wp2_with (first
        | (refine wpList_load_row rfl 41 (.tmp 1) rfl w.heap.size rfl 41 X (0, 0) _ HX5.out Tryz.underlying41 rfl HII.out ?_)
        | (refine wpList_store_row rfl 41 (.tmp 2) (.tmp 55) rfl (w.heap.size + 1) X rfl rfl 41 z H25.out HII.out HZX.out H1C.out ?_))
      refine bodyPost_ret (results_cell_row Tryz.results50 _ _ (w.heap.size + 1) 41 X (0, 0) _ rfl HK6.out Tryz.underlying41 rfl HII.out) rfl ?_
      rw [HPO.out]
      refine ⟨⟨kd, tx, pr, nx, ys, .slice A2 k c2, ⟨yu1, yu2, yu3, yu4, ⟨d1, d2, d3, d4, d5⟩, .slice A4 du c4, yu7⟩⟩, by rw [HX.out]; rfl, rfl, rfl, ⟨HSM.out.1, HSM.out.2.1, HSM.out.2.2⟩, recIn_of HPF6.out ?_, hb6⟩
      unfold OwnB
      rw [← HDU.out]
      exact HO6.out
end Go.Proofs.YtnanlaefehaifaaGreat
