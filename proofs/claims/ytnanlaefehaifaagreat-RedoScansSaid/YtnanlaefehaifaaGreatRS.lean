/-
  WALKS OF THE PROGRAM: rec.may, rec.Check.
-/
import Derived.Test.YtnanlaefehaifaaGreatRQ
namespace Go.Proofs.YtnanlaefehaifaaGreat
open Go.RowKit

def mayD (n least : Int) : Bool := decide (least ≤ n) && decide (n ≤ 281474976710656)
set_option maxRecDepth 100000 in
theorem may_any (n least : Int) (w : World) : Calls Tryz.prog 171 #[.int .i64 n, .int .i64 least] w fun e w' => e = .returned (.bool (mayD n least)) ∧ w' = w := by
  unfold mayD
  by_cases h : least ≤ n
  · have hb := hide (show decide (least ≤ n) = true by simp [h])
    go_enter Tryz.func171, Tryz.ntmps171
    go_wp2
    go_ret
    exact ⟨by rw [hb.out]; simp, rfl⟩
  · have hb := hide (show decide (least ≤ n) = false by simp [h])
    go_enter Tryz.func171, Tryz.ntmps171
    go_wp2
    go_ret
    exact ⟨by rw [hb.out]; rfl, rfl⟩
/-- A record as a value. -/
def recV (x : RecV) : Value := .agg #[.int .i64 x.kind, .int .i64 x.txn, .int .i64 x.prev, .int .i64 x.next, x.pv, .int .i64 x.undo.act, .string x.undo.key, .int .i64 x.undo.state, .string x.undo.ikey, .int .i64 x.undo.cell.kind, x.undo.cv, .int .i64 x.undo.cell.lo, .int .i64 x.undo.cell.hi, .int .i64 x.undo.cell.val, .int .i64 x.undo.n]
/-- A record that may be: what is wanted of it here. -/
def okR (x : RecV) : Prop := 1 ≤ x.kind ∧ x.kind ≤ 4 ∧ 1 ≤ x.txn ∧ x.txn ≤ 281474976710656 ∧ x.pats.length ≤ 4
/-- A record of the page's example. -/
def plainR (x : RecV) : Prop := (x.kind = 1 ∨ x.kind = 3) ∧ 1 ≤ x.txn ∧ x.txn ≤ 281474976710656 ∧ x.prev = 0 ∧ x.next = 0 ∧ x.pats.length = 0 ∧ undoZ x.undo = true
def RecP (w : World) (x : RecV) (e : Ending) (w' : World) : Prop := ((e = .returned (.int .i64 0) ∧ okR x) ∨ (e = .returned (.int .i64 1) ∧ ¬ plainR x)) ∧ Below w.heap.size w w'
set_option maxHeartbeats 12800000 in
set_option maxRecDepth 100000 in
theorem recCheck_any (x : RecV) (B : Nat) (w : World) (hs : RecSm x) (hB : B ≤ w.heap.size) (ha : RecOk w B x) :
    Calls Tryz.prog 112 #[recV x] w (RecP w x) := by
  have HM := hide (fun n least W => may_any n least W)
  obtain ⟨hsP, hsPS, hsU⟩ := hs
  obtain ⟨⟨hsa, hok⟩, hu⟩ := ha
  have HU := hide (fun W (hb : Below w.heap.size w W) => undoCheck_any x.undo B W (by have := hsU.1; omega) (by have := hsU.2.1; omega) (Nat.le_trans hB hb.size) (hu.below hb hB))
  have HUS := hide (fun W (hb : Below w.heap.size w W) => (show Calls Tryz.prog 174 #[undoV x.undo, .agg #[.int .i64 0, .string ⟨#[]⟩, .int .i64 0, .string ⟨#[]⟩, .int .i64 0, .slice none 0 0, .int .i64 0, .int .i64 0, .int .i64 0, .int .i64 0]] W (fun e w' => e = .returned (.bool (undoZ x.undo)) ∧ Below W.heap.size W w') from undoSame_any x.undo undo0 B W (Nat.le_trans hB hb.size) (hu.below hb hB) (bytes_none _ _)))
  have HPC := hide (fun (p : PatV) W (hp : p ∈ x.pats) (hb : Below w.heap.size w W) => patCheck_any p B W (hsPS p hp) (Nat.le_trans hB hb.size) ((hok p hp).below hb hB))
  have HSA := hide hsa
  have HOKP := hide hok
  obtain ⟨A, c, hpv, hc, hm, hnil, _⟩ := hsa
  obtain ⟨kd, tx, pr, nx, ps, pv, un⟩ := x
  dsimp only at *
  subst hpv
  obtain ⟨m, hm'⟩ : ∃ m, m = ps.length := ⟨_, rfl⟩
  have HML := hide hm'
  have HR := hide (show ∀ e w', (e = Ending.returned (.int .i64 1) → ¬ plainR ⟨kd, tx, pr, nx, ps, .slice A ps.length c, un⟩ → Below w.heap.size w w' → RecP w ⟨kd, tx, pr, nx, ps, .slice A ps.length c, un⟩ e w') from fun e w' h1 h2 h3 => ⟨.inr ⟨h1, h2⟩, h3⟩)
  have HR0 := hide (show ∀ e w', (e = Ending.returned (.int .i64 0) → okR ⟨kd, tx, pr, nx, ps, .slice A ps.length c, un⟩ → Below w.heap.size w w' → RecP w ⟨kd, tx, pr, nx, ps, .slice A ps.length c, un⟩ e w') from fun e w' h1 h2 h3 => ⟨.inl ⟨h1, h2⟩, h3⟩)
  have HPL := hide (show plainR ⟨kd, tx, pr, nx, ps, .slice A ps.length c, un⟩ ↔ ((kd = 1 ∨ kd = 3) ∧ 1 ≤ tx ∧ tx ≤ 281474976710656 ∧ pr = 0 ∧ nx = 0 ∧ m = 0 ∧ undoZ un = true) by rw [hm']; exact Iff.rfl)
  have HOKR := hide (show okR ⟨kd, tx, pr, nx, ps, .slice A ps.length c, un⟩ ↔ (1 ≤ kd ∧ kd ≤ 4 ∧ 1 ≤ tx ∧ tx ≤ 281474976710656 ∧ m ≤ 4) by rw [hm']; exact Iff.rfl)
  have hl6 : m ≤ 6 := by omega
  generalize hPost : RecP w _ = Post at *
  clear hPost hsU hu hok
  unfold recV
  dsimp only
  rw [← hm']
  clear hm' hsP hsPS hc hm hnil
  obtain ⟨yu1, yu2, yu3, yu4, ⟨d1, d2, d3, d4, d5⟩, yuv, yu7⟩ := un
  unfold undoV at *
  dsimp only at *
  go_enter Tryz.func112, Tryz.ntmps112
  have hb0 := fun o => (Below.refl w.heap.size w).alloc (Nat.le_refl _) o
  by_cases hk1 : kd < 1
  · go_wp2
    refine HR.out _ _ rfl (fun h => ?_) (hb0 _)
    have h := HPL.out.1 h
    omega
  by_cases hk4 : 4 < kd
  · go_wp2
    refine HR.out _ _ rfl (fun h => ?_) (hb0 _)
    have h := HPL.out.1 h
    omega
  have HK := hide (show 1 ≤ kd ∧ kd ≤ 4 by omega)
  cases m1 : mayD tx 1
  · go_wp2_with (go_at_call 171; refine (HM.out _ _ _).mono ?_; rintro e w' ⟨rfl, hw'⟩; obtain rfl := hw'.symm)
    refine HR.out _ _ rfl (fun h => ?_) (hb0 _)
    have h := HPL.out.1 h
    (unfold mayD at m1; simp at m1; omega)
  have HT := hide (show 1 ≤ tx ∧ tx ≤ 281474976710656 by
    unfold mayD at m1
    simp only [Bool.and_eq_true, decide_eq_true_eq] at m1
    exact m1)
  cases m2 : mayD pr 0
  · go_wp2_with (go_at_call 171; refine (HM.out _ _ _).mono ?_; rintro e w' ⟨rfl, hw'⟩; obtain rfl := hw'.symm)
    refine HR.out _ _ rfl (fun h => ?_) (hb0 _)
    have h := HPL.out.1 h
    (unfold mayD at m2; simp at m2; omega)
  cases m3 : mayD nx 0
  · go_wp2_with (go_at_call 171; refine (HM.out _ _ _).mono ?_; rintro e w' ⟨rfl, hw'⟩; obtain rfl := hw'.symm)
    refine HR.out _ _ rfl (fun h => ?_) (hb0 _)
    have h := HPL.out.1 h
    (unfold mayD at m3; simp at m3; omega)
  by_cases hm4 : 4 < m
  · go_wp2_with (go_at_call 171; refine (HM.out _ _ _).mono ?_; rintro e w' ⟨rfl, hw'⟩; obtain rfl := hw'.symm)
    refine HR.out _ _ rfl (fun h => ?_) (hb0 _)
    have h := HPL.out.1 h
    omega
  go_wp2_with (go_at_call 171; refine (HM.out _ _ _).mono ?_; rintro e w' ⟨rfl, hw'⟩; obtain rfl := hw'.symm)
  refine (HU.out _ (hb0 _)).mono ?_
  rintro e w2 ⟨rfl, hb2⟩
  have hb2' := below_via (hb0 _) hb2 (by simp)
  have k2 := Blk.via hb2 (Blk.new w 41 _)
  clear hb2
  cases hr : rightU ⟨yu1, yu2, yu3, yu4, ⟨d1, d2, d3, d4, d5⟩, yuv, yu7⟩
  · have HE := hide (show undoE ⟨yu1, yu2, yu3, yu4, ⟨d1, d2, d3, d4, d5⟩, yuv, yu7⟩ = 1 by unfold undoE; rw [hr]; rfl)
    have HZ := hide (fun h : undoZ ⟨yu1, yu2, yu3, yu4, ⟨d1, d2, d3, d4, d5⟩, yuv, yu7⟩ = true => show False by rw [(undoZ_right h).1] at hr; cases hr)
    clear hr
    rw [HE.out]
    go_wp2
    refine HR.out _ _ rfl (fun h => ?_) (hb2')
    have h := HPL.out.1 h
    exact HZ.out h.2.2.2.2.2.2
  · have HE := hide (show undoE ⟨yu1, yu2, yu3, yu4, ⟨d1, d2, d3, d4, d5⟩, yuv, yu7⟩ = 0 by unfold undoE; rw [hr]; rfl)
    clear hr
    rw [HE.out]
    have p4 : w2.cell? ⟨w.heap.size, 4, none⟩ = some _ := k2.cell 4
    have l2 := k2.lt
    have K2 := hide k2
    clear k2
    go_wp2
    clear p4
    go_loopw [44] (fun iv wr => ∃ k : Nat, k ≤ m ∧ iv = .int .i64 k ∧ Blk wr w.heap.size 41 #[.int .i64 kd, .int .i64 tx, .int .i64 pr, .int .i64 nx, .slice A m c, .int .i64 yu1, .string yu2, .int .i64 yu3, .string yu4, .int .i64 d1, yuv, .int .i64 d3, .int .i64 d4, .int .i64 d5, .int .i64 yu7] ∧ Below w.heap.size w wr) (fun iv _ => m - (intOf iv).toNat)
    case atStart => exact ⟨0, Nat.zero_le _, rfl, K2.out, hb2'⟩
    case round =>
      obtain ⟨k, hk, rfl, kb, hbw⟩ := hrel
      have hzb := hbw.size
      by_cases hlt : k < m
      · have hlt' : k < ps.length := by have := HML.out; omega
        obtain ⟨b, o, c', y, e0, hb, hx, _, _, hcell⟩ := SliceAt.at_ PatV.cells_length (by omega) (HSA.out.keep (w' := wr) (fun p hp => hbw.cell (by omega))) hlt'
        injection e0 with e1 e2 e3
        subst e1 e3
        have c0 : wr.cell? ⟨b, o + k * 3, none⟩ = some (.int .i64 y.page) := hcell 0 _ rfl
        have c1 : wr.cell? ⟨b, o + k * 3 + 1, none⟩ = some (.bool y.fresh) := hcell 1 _ rfl
        have c2 : wr.cell? ⟨b, o + k * 3 + 2, none⟩ = some y.rv := hcell 2 _ rfl
        have HY := hide (fun W (hb : Below w.heap.size w W) => (show Calls Tryz.prog 173 #[.agg #[.int .i64 y.page, .bool y.fresh, y.rv]] W (ErrP W) from HPC.out y W (List.mem_of_getElem? hx) hb))
        have K := hide kb
        obtain ⟨⟨A1, c1', hrv, _⟩, _⟩ := (by
          have := HOKP.out y (List.mem_of_getElem? hx)
          exact this : Runs w B y.rv y.runs)
        rw [hrv] at c2 HY
        clear hcell hx kb hrv
        go_wp2_with fail
        refine (HY.out _ (hbw.alloc hzb _)).mono ?_
        rintro e w3 ⟨rfl | rfl, hb3⟩
        · have k3 := Blk.via hb3 (K.out.alloc _)
          have hbw3 := below_via (hbw.alloc hzb _) hb3 (by simp; omega)
          have K3 := hide k3
          clear k3 hb3
          go_wp2
          go_roundw
          case rel => exact ⟨k + 1, by omega, by go_num, K3.out, hbw3⟩
          case measure => simp [intOf]; omega
        · have hbw3 := below_via (hbw.alloc hzb _) hb3 (by simp; omega)
          clear hb3
          go_wp2
          refine HR.out _ _ rfl (fun h => ?_) (hbw3)
          have h := HPL.out.1 h
          omega
      · obtain rfl : k = m := by omega
        have p0 : wr.cell? ⟨w.heap.size, 0, none⟩ = some _ := kb.cell 0
        have p3 : wr.cell? ⟨w.heap.size, 3, none⟩ = some _ := kb.cell 3
        have p4 : wr.cell? ⟨w.heap.size, 4, none⟩ = some _ := kb.cell 4
        have l0 := kb.lt
        have K := hide kb
        clear K2
        have h14 : kd = 1 ∨ kd = 2 ∨ kd = 3 ∨ kd = 4 := by have := HK.out; omega
        have p5 : wr.cell? ⟨w.heap.size, 5, none⟩ = some _ := kb.cell 5
        have p6 : wr.cell? ⟨w.heap.size, 6, none⟩ = some _ := kb.cell 6
        have p7 : wr.cell? ⟨w.heap.size, 7, none⟩ = some _ := kb.cell 7
        have p8 : wr.cell? ⟨w.heap.size, 8, none⟩ = some _ := kb.cell 8
        have p9 : wr.cell? ⟨w.heap.size, 9, none⟩ = some _ := kb.cell 9
        have p10 : wr.cell? ⟨w.heap.size, 10, none⟩ = some _ := kb.cell 10
        have p11 : wr.cell? ⟨w.heap.size, 11, none⟩ = some _ := kb.cell 11
        have p12 : wr.cell? ⟨w.heap.size, 12, none⟩ = some _ := kb.cell 12
        have p13 : wr.cell? ⟨w.heap.size, 13, none⟩ = some _ := kb.cell 13
        have p14 : wr.cell? ⟨w.heap.size, 14, none⟩ = some _ := kb.cell 14
        have HKM := hide (show k ≤ 4 by omega)
        have HUW := hide (HUS.out wr hbw)
        clear kb hk1 hk4 HUS HPC HU HM HSA HOKP hm4 m1 m2 m3
        cases hz : undoZ ⟨yu1, yu2, yu3, yu4, ⟨d1, d2, d3, d4, d5⟩, yuv, yu7⟩
        · rw [hz] at HUW HPL
          have HBW := hide hbw
          rcases h14 with rfl | rfl | rfl | rfl
          · by_cases hn : nx = 0
            · subst hn
              go_wp2
              exact HR0.out _ _ rfl (HOKR.out.2 ⟨by decide, by decide, HT.out.1, HT.out.2, HKM.out⟩) HBW.out
            · go_wp2
              refine HR.out _ _ rfl (fun h => ?_) (HBW.out)
              have h := HPL.out.1 h
              (exact hn h.2.2.2.2.1)
          · go_wp2_with fail
            refine HUW.out.mono ?_
            rintro e w4 ⟨rfl, hb4⟩
            have hbw4 := below_via HBW.out hb4 HBW.out.size
            have k4 := Blk.via hb4 K.out
            clear p0 p4
            have p0 : w4.cell? ⟨w.heap.size, 0, none⟩ = some _ := k4.cell 0
            have p4 : w4.cell? ⟨w.heap.size, 4, none⟩ = some _ := k4.cell 4
            clear k4 hb4
            go_wp2
            refine HR.out _ _ rfl (fun h => ?_) (hbw4)
            have h := HPL.out.1 h
            omega
          · by_cases hn : nx = 0
            · subst hn
              go_wp2_with fail
              refine HUW.out.mono ?_
              rintro e w4 ⟨rfl, hb4⟩
              have hbw4 := below_via HBW.out hb4 HBW.out.size
              have k4 := Blk.via hb4 K.out
              clear p0 p4
              have p0 : w4.cell? ⟨w.heap.size, 0, none⟩ = some _ := k4.cell 0
              have p4 : w4.cell? ⟨w.heap.size, 4, none⟩ = some _ := k4.cell 4
              clear k4 hb4
              go_wp2
              refine HR.out _ _ rfl (fun h => ?_) (hbw4)
              have h := HPL.out.1 h
              (exact absurd h.2.2.2.2.2.2 (by decide))
            · go_wp2
              refine HR.out _ _ rfl (fun h => ?_) (HBW.out)
              have h := HPL.out.1 h
              (exact hn h.2.2.2.2.1)
          · by_cases hn : nx = 0
            · subst hn
              go_wp2_with fail
              refine HUW.out.mono ?_
              rintro e w4 ⟨rfl, hb4⟩
              have hbw4 := below_via HBW.out hb4 HBW.out.size
              have k4 := Blk.via hb4 K.out
              clear p0 p4
              have p0 : w4.cell? ⟨w.heap.size, 0, none⟩ = some _ := k4.cell 0
              have p4 : w4.cell? ⟨w.heap.size, 4, none⟩ = some _ := k4.cell 4
              clear k4 hb4
              go_wp2
              refine HR.out _ _ rfl (fun h => ?_) (hbw4)
              have h := HPL.out.1 h
              omega
            · go_wp2
              refine HR.out _ _ rfl (fun h => ?_) (HBW.out)
              have h := HPL.out.1 h
              omega
        · rw [hz] at HUW HPL
          have HBW := hide hbw
          rcases h14 with rfl | rfl | rfl | rfl
          · by_cases hn : nx = 0
            · subst hn
              go_wp2
              exact HR0.out _ _ rfl (HOKR.out.2 ⟨by decide, by decide, HT.out.1, HT.out.2, HKM.out⟩) HBW.out
            · go_wp2
              refine HR.out _ _ rfl (fun h => ?_) (HBW.out)
              have h := HPL.out.1 h
              (exact hn h.2.2.2.2.1)
          · go_wp2_with fail
            refine HUW.out.mono ?_
            rintro e w4 ⟨rfl, hb4⟩
            have hbw4 := below_via HBW.out hb4 HBW.out.size
            have k4 := Blk.via hb4 K.out
            clear p0 p4
            have p0 : w4.cell? ⟨w.heap.size, 0, none⟩ = some _ := k4.cell 0
            have p4 : w4.cell? ⟨w.heap.size, 4, none⟩ = some _ := k4.cell 4
            clear k4 hb4
            go_wp2
            have HBW := hide hbw4
            exact HR0.out _ _ rfl (HOKR.out.2 ⟨by decide, by decide, HT.out.1, HT.out.2, HKM.out⟩) HBW.out
          · by_cases hn : nx = 0
            · subst hn
              by_cases hk0 : 0 < k
              · go_wp2_with fail
                refine HUW.out.mono ?_
                rintro e w4 ⟨rfl, hb4⟩
                have hbw4 := below_via HBW.out hb4 HBW.out.size
                have k4 := Blk.via hb4 K.out
                clear p0 p4
                have p0 : w4.cell? ⟨w.heap.size, 0, none⟩ = some _ := k4.cell 0
                have p4 : w4.cell? ⟨w.heap.size, 4, none⟩ = some _ := k4.cell 4
                clear k4 hb4
                go_wp2
                refine HR.out _ _ rfl (fun h => ?_) (hbw4)
                have h := HPL.out.1 h
                omega
              · go_wp2_with fail
                refine HUW.out.mono ?_
                rintro e w4 ⟨rfl, hb4⟩
                have hbw4 := below_via HBW.out hb4 HBW.out.size
                have k4 := Blk.via hb4 K.out
                clear p0 p4
                have p0 : w4.cell? ⟨w.heap.size, 0, none⟩ = some _ := k4.cell 0
                have p4 : w4.cell? ⟨w.heap.size, 4, none⟩ = some _ := k4.cell 4
                clear k4 hb4
                go_wp2
                have HBW := hide hbw4
                exact HR0.out _ _ rfl (HOKR.out.2 ⟨by decide, by decide, HT.out.1, HT.out.2, HKM.out⟩) HBW.out
            · go_wp2
              refine HR.out _ _ rfl (fun h => ?_) (HBW.out)
              have h := HPL.out.1 h
              (exact hn h.2.2.2.2.1)
          · by_cases hn : nx = 0
            · subst hn
              by_cases hk0 : 0 < k
              · go_wp2_with fail
                refine HUW.out.mono ?_
                rintro e w4 ⟨rfl, hb4⟩
                have hbw4 := below_via HBW.out hb4 HBW.out.size
                have k4 := Blk.via hb4 K.out
                clear p0 p4
                have p0 : w4.cell? ⟨w.heap.size, 0, none⟩ = some _ := k4.cell 0
                have p4 : w4.cell? ⟨w.heap.size, 4, none⟩ = some _ := k4.cell 4
                clear k4 hb4
                go_wp2
                refine HR.out _ _ rfl (fun h => ?_) (hbw4)
                have h := HPL.out.1 h
                omega
              · go_wp2_with fail
                refine HUW.out.mono ?_
                rintro e w4 ⟨rfl, hb4⟩
                have hbw4 := below_via HBW.out hb4 HBW.out.size
                have k4 := Blk.via hb4 K.out
                clear p0 p4
                have p0 : w4.cell? ⟨w.heap.size, 0, none⟩ = some _ := k4.cell 0
                have p4 : w4.cell? ⟨w.heap.size, 4, none⟩ = some _ := k4.cell 4
                clear k4 hb4
                go_wp2
                have HBW := hide hbw4
                exact HR0.out _ _ rfl (HOKR.out.2 ⟨by decide, by decide, HT.out.1, HT.out.2, HKM.out⟩) HBW.out
            · go_wp2
              refine HR.out _ _ rfl (fun h => ?_) (HBW.out)
              have h := HPL.out.1 h
              omega
end Go.Proofs.YtnanlaefehaifaaGreat
