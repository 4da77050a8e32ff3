/-
  WALK: waits.ring's closure.
-/
import Derived.Test.YtkbcenddhcnkeaaGI
import Derived.Deep.Cut
import Derived.Deep.RegionLaw
import Derived.Deep.DeepCutAuto
namespace Go.Proofs.Ytkbcenddhcnkeaa
open Go.RowKit Go.Maps Go.Deep

/-- What the search gives from a place's i-th edge on. -/
def srE (X : SrB) (f : Nat) (z : Int) (i : Nat) (path sn : List Int) : Option (List Int) × List Int := srch (tosOf (srtE X.es)) X.a f (toAt (srtE X.es) z i) path sn
def SrEnd (X : SrB) (st0 : List Stand) (R : Option (List Int) × List Int) (w' : World) : Prop :=
  match R.1 with
  | none => SrSt X st0 R.2 w'
  | some p => ∃ st', st'.map Prod.fst = p ∧ SrSt X st' R.2 w'
def SrPost (X : SrB) (st0 : List Stand) (R : Option (List Int) × List Int) (e : Ending) (w' : World) : Prop := e = .returned (.bool R.1.isSome) ∧ SrEnd X st0 R w'
/-- The contract of the search at one depth. -/
def SrC (X : SrB) (f : Nat) : Prop :=
  ∀ (L : Nat) (st0 : List Stand) (z : Int) (i : Nat) (sn : List Int) (w : World), SrSt X (st0 ++ [(z, i)]) sn w → i ≤ X.n → L + f ≤ 950 → Gone X.es X.a sn → X.es.length + 1 ≤ f + sn.length → st0.length + 1 ≤ sn.length →
    Calls Try.prog 26 (#[.int .i64 (L : Nat)] ++ X.args) w (SrPost X st0 (srE X f z i ((st0 ++ [(z, i)]).map Prod.fst) sn))
/-- At a round's head. -/
def SrRel (X : SrB) (f : Nat) (st0 : List Stand) (z : Int) (R : Option (List Int) × List Int) (g : Nat) (_ : Value) (wr : World) : Prop :=
  (∃ (i : Nat) (sn : List Int), g = X.n - i + 1 ∧ i ≤ X.n ∧ SrSt X (st0 ++ [(z, i)]) sn wr ∧ srE X f z i (st0.map Prod.fst ++ [z]) sn = R ∧ Gone X.es X.a sn ∧ X.es.length + 1 ≤ f + sn.length ∧ st0.length + 1 ≤ sn.length) ∨
  ∃ sn, g = 0 ∧ R = (none, sn) ∧ SrSt X st0 sn wr
theorem SrSt.len {X : SrB} {st : List Stand} {sn : List Int} {w : World} (h : SrSt X st sn w) : ∃ v, Blk w X.br 47 #[v] ∧ StRow X.w0.heap.size v st w ∧ ∃ A c, v = .slice A st.length c := by
  obtain ⟨v, k1, k2⟩ := h.kR
  obtain ⟨A, c, e, _⟩ := own_slice k2
  exact ⟨v, k1, k2, A, c, e⟩
/-- A world under a name. -/
theorem nameW {w : World} {R : World → Prop} (h : ∀ W, W = w → R W) : R w := h w rfl
theorem SrSt.tick' {X : SrB} {st0 : List Stand} {sn : List Int} {wr : World} {z : Int} {i g c m : Nat} (hm : st0.length = m) (h : SrSt X (st0 ++ [(z, i)]) sn wr) (k1 : Blk wr X.br 47 #[.slice (some ⟨g, 0, none⟩) (m + 1) c]) (k2 : StRow X.w0.heap.size (.slice (some ⟨g, 0, none⟩) (m + 1) c) (st0 ++ [(z, i)]) wr) (d : Nat) :
    SrSt X (st0 ++ [(z, i + 1)]) sn ((wr.drewN d).setCell ⟨g, m * 2 + 1, none⟩ (.int .i64 ((i : Int) + 1))) := by
  subst hm
  exact (h.drewN d).tick (k1.drewN d) k2 (i + 1)
theorem stC_one (x : Stand) : ∀ u ∈ stC x, u.oneCell' = true := by
  intro u hu
  simp only [stC, List.mem_cons, List.not_mem_nil, or_false] at hu
  rcases hu with rfl | rfl <;> rfl
theorem SrSt.push' {X : SrB} {st : List Stand} {sn : List Int} {w3 w4 : World} {x : Stand} {v v' : Value} {m : Nat} {o : Obj} (h : SrSt X st sn w3) (hX : X.Ok) (hm : st.length = m) (k1 : Blk w3 X.br 47 #[v]) (k2 : w3.ownsRow X.w0.heap.size 46 2 v m (st.flatMap stC))
    (hown : w4.ownsRow X.w0.heap.size 46 2 v' (m + 1) (st.flatMap stC ++ stC x)) (hg : (w3.alloc o).grownBy w4 v.ownBlock) : SrSt X (st ++ [x]) sn (w4.setCell ⟨X.br, 0, none⟩ v') := by
  subst hm
  exact (h.alloc o).push hX (k1.alloc o) (k2.alloc o) hown hg
set_option maxHeartbeats 6400000 in
set_option maxRecDepth 100000 in
theorem srch_step (X : SrB) (hX : X.Ok) (f : Nat) (IH : ∀ g, f = g + 1 → SrC X g) : SrC X f := by
  intro L st0 z i sn w hS hi hL hG hf hl
  generalize hR : srE X f z i ((st0 ++ [(z, i)]).map Prod.fst) sn = R
  have hR : srE X f z i (st0.map Prod.fst ++ [z]) sn = R := by rw [← hR, List.map_append]; rfl
  have hGl := hG.len
  have hXn := hX.hn
  have hEs : X.n = X.es.length := by rw [hX.he.1, srtE_len]
  obtain ⟨g, c, k1, k2, hg, hc, _⟩ := hS.row
  have kq := k1.cell 0
  have kl := k1.lt
  simp only [List.getElem?_toArray, List.getElem?_cons_zero] at kq
  have HS := hide hS
  have HR := hide hR
  have HG := hide hG
  have HE := hide hEs
  have hmb : st0.length ≤ 950 := by omega
  clear hS hR hG hEs k1 k2 hGl
  unfold SrB.args
  show Calls Try.prog 26 #[.int .i64 (L : Nat), .pointer (some ⟨X.br, 0, none⟩), .pointer (some ⟨X.bs, 0, none⟩), .pointer (some ⟨X.bf, 0, none⟩), .pointer (some ⟨X.bg, 0, none⟩), .pointer (some ⟨X.bq, 0, none⟩)] w _
  generalize hm : st0.length = m at *
  have HM := hide hm
  clear hm
  go_enter Try.func26, Try.ntmps26
  go_wp2
  go_loopg [9] (X.n - i + 1) (SrRel X f st0 z R)
  case atStart => exact .inl ⟨i, sn, rfl, hi, HS.out, HR.out, HG.out, hf, by rw [HM.out]; exact hl⟩
  case round =>
    rcases hrel with ⟨i, sn, rfl, hi, hS, hR, hG, hf, hl⟩ | ⟨sn, rfl, hR, hS⟩
    · obtain ⟨g, c, k1, k2, hg, hc, c0, c1, f1⟩ := hS.row
      rw [HM.out] at k1 k2 hc c0 c1 f1
      have kq := k1.cell 0
      have kl := k1.lt
      have kf := k1.frozen 0
      have ks := hS.kS.cell 0
      have ka := hS.kF.cell 0
      simp only [List.getElem?_toArray, List.getElem?_cons_zero] at kq ks ka
      have HS := hide hS
      have HR := hide hR
      have HG := hide hG
      have K1 := hide k1
      have K2 := hide k2
      have s0 : (0 : Int) ≤ m := by omega
      have s1 : (m : Int) < m + 1 := by omega
      rcases Nat.lt_or_ge i X.n with hin | hin
      · obtain ⟨b, o, ⟨p, t⟩, hA, hb, hkx, d0, d1⟩ := (hX.he.below hS.b hX.hB).at_ hin
        rw [hA] at ks
        have HKX := hide hkx
        have hd : decide (X.n ≤ i) = false := by simpa using hin
        have s2 : (0 : Int) ≤ i := by omega
        have s3 : (i : Int) < X.n := by omega
        clear hS hR hG k1 k2 hA hkx
        dsimp only at d0 d1
        by_cases hpz : p = z
        · subst hpz
          go_wp2
          go_quiet (fail)
          go_wp2
          go_quiet (fail)
          go_upto_region 8 with (fail)
          refine nameW (R := fun W => Code.wp _ _ _ _ W) (fun W1 hW1 => ?_)
          have hS1 : SrSt X (st0 ++ [(p, i + 1)]) sn W1 := hW1 ▸ HS.out.tick' HM.out K1.out K2.out _
          clear hW1 kq ks ka c0 c1 f1 d0 d1 HS K1 K2 kl kf hg hc
          have hn1 := toAt_next (p := p) HKX.out rfl
          have hwt : (Lit.int .i64 t).wf = true := hX.wf (p, t) (mem_srtE.1 (List.mem_of_getElem? HKX.out))
          have hEm : t ∈ X.es.map (·.2) := List.mem_map.2 ⟨(p, t), mem_srtE.1 (List.mem_of_getElem? HKX.out), rfl⟩
          have HN := hide hn1
          have HEM := hide hEm
          have HS1 := hide hS1
          have ka := hS1.kF.cell 0
          have kg := hS1.kG.cell 0
          have lg := hS1.kG.lt
          simp only [List.getElem?_toArray, List.getElem?_cons_zero] at ka kg
          obtain ⟨kk, hkk, hmap⟩ := hS1.kM
          have HMP := hide hmap
          have hkb : kk ≤ 1000 := by have := HG.out.len; have := HE.out; omega
          have hsb : sn.length ≤ 1000 := by have := HG.out.len; have := HE.out; omega
          have hkey : keyOf Try.prog 3 (.int .i64 t) = some (.int .i64 t) := keyOf_int_mk Try.underlying3 hwt
          clear hn1 hEm hS1 hmap
          by_cases hta : t = X.a
          · have HR2 := hide (show R = (some (st0.map Prod.fst ++ [p]), sn) by
              rw [← HR.out]
              unfold srE
              rw [HN.out, hta, srch_hit])
            go_wp2
            go_ret
            refine ⟨by rw [HR2.out]; rfl, ?_⟩
            rw [HR2.out]
            exact ⟨st0 ++ [(p, i + 1)], by simp, HS1.out⟩
          · by_cases hts : t ∈ sn
            · have hh : Maps.has (goneD sn) (.int .i64 t) = true := by rw [has_goneD]; exact decide_eq_true hts
              have HR2 := hide (show srE X f p (i + 1) (st0.map Prod.fst ++ [p]) sn = R by
                rw [← HR.out]
                unfold srE
                rw [HN.out, srch_skip hta hts])
              clear hts
              go_wp2_with (at_lookup; refine wpList_lookup_own_unit _ rfl _ _ 44 rfl 3 43 keyI Try.underlying44 (zeroU _) X.gm kk _ rfl HMP.out _ _ rfl hkey ?_)
              go_roundg (X.n - (i + 1) + 1)
              case measure => omega
              case rel => exact .inl ⟨i + 1, sn, rfl, hin, HS1.out.alloc _, HR2.out, HG.out, hf, hl⟩
            · have hh : Maps.has (goneD sn) (.int .i64 t) = false := by rw [has_goneD]; exact decide_eq_false hts
              have HTS := hide hts
              clear hts
              go_wp2_with (first
                | (at_lookup; refine wpList_lookup_own_unit _ rfl _ _ 44 rfl 3 43 keyI Try.underlying44 (zeroU _) X.gm kk _ rfl HMP.out _ _ rfl hkey ?_)
                | (at_mapUpdate; refine wpList_mapUpdate_own _ rfl _ _ _ 44 rfl 3 43 keyI Try.underlying44 (unitElem (H := Unit)) X.gm kk _ rfl (HMP.out.alloc _) (by unfold maxLen; omega) _ _ _ rfl rfl hkey _ [] unitElem_mk ?_; intro w2 hown2 hgrow2))
              have hS2 : SrSt X (st0 ++ [(p, i + 1)]) (sn ++ [t]) w2 := (HS1.out.alloc _).note hX (HMP.out.alloc _) hown2 hkk hgrow2
              clear hown2 hgrow2 ka kg lg
              obtain ⟨g2, c2, k1, k2, _, hc2, _⟩ := hS2.row
              rw [HM.out] at k1 k2 hc2
              have HS2 := hide hS2
              have K1 := hide k1
              have K2 := hide k2
              have ks := hS2.kS.cell 0
              have kr := k1.cell 0
              have ls := hS2.kS.lt
              have lr := k1.lt
              simp only [List.getElem?_toArray, List.getElem?_cons_zero] at ks kr
              have C1 := hide (fun W (hW : Below w2.heap.size w2 W) => (show W.cell? ⟨X.br, 0, none⟩ = some (.slice (some ⟨g2, 0, none⟩) (m + 1) c2) ∧ W.cell? ⟨X.bs, 0, none⟩ = some (.slice X.A X.n X.c) from ⟨(hW.cell (p := ⟨X.br, 0, none⟩) lr).trans kr, (hW.cell (p := ⟨X.bs, 0, none⟩) ls).trans ks⟩))
              have HF := hide (fun (W : World) (hW : Below w2.heap.size w2 W) => first_any X.A X.n X.c t (srtE X.es) X.w0.heap.size W (Nat.le_trans hS2.b.size hW.size) (by omega) (((hX.he.below hS2.b hX.hB).below hW (Nat.le_trans hX.hB hS2.b.size)).more hX.hB) (srtE_sorted _))
              have hO2 : w2.ownsRow X.w0.heap.size 46 2 (.slice (some ⟨g2, 0, none⟩) (m + 1) c2) (m + 1) ((st0 ++ [(p, i + 1)]).flatMap stC) := by
                have h := k2
                unfold StRow at h
                rwa [List.length_append, List.length_singleton, HM.out] at h
              have HO2 := hide hO2
              have hwz := hS2.b.size
              clear ks kr ls lr hS2 k1 k2 hO2
              have hfi : firstE (srtE X.es) t ≤ X.n := by rw [hX.he.1]; exact firstE_le _ _
              have HTF := hide (toAt_first (srtE_sorted X.es) t)
              generalize firstE (srtE X.es) t = fi at HF hfi HTF
              have HST := hide (stC_one (t, fi))
              have HML := hide (show (st0 ++ [(p, i + 1)]).length = m + 1 by rw [List.length_append, List.length_singleton, HM.out])
              obtain ⟨i0, hi0, hz0, hz1, hz2⟩ := info_parts info_stand
              have jb := (Below.refl w2.heap.size w2).drew
              go_wp2
              go_cut [86] from 79 to 86 (fun _ wx => SrSt X (st0 ++ [(p, i + 1)] ++ [(t, fi)]) (sn ++ [t]) wx)
              case first =>
                obtain ⟨e1, e2⟩ := C1.out _ jb
                go_region_law (first
                  | (go_simp; go_at_call 24; (with_reducible refine (HF.out _ jb).mono ?_); rintro e w3 ⟨rfl, hb3⟩; have jb3 := below_via jb hb3 jb.size; have jz3 := jb3.size; have own3 := own_via HO2.out jb3; have k3 := Blk.via jb3 K1.out; have e3 := (C1.out _ jb3).1; have l3 := k3.lt)
                  | (refine step_append_any _ (by rfl) (.tmp 79) (.tmp 85) _ (by rfl) X.w0.heap.size 46 i0 _ 2 16 Try.underlying47 hi0 hz0 hz1 hz2 rfl (by omega) (.slice (some ⟨g2, 0, none⟩) (m + 1) c2) (m + 1) _ (by rfl) (own3.alloc _) (w3.heap.size + 1) (some ⟨w3.heap.size, 0, none⟩) 1 1 (stC (t, fi)) (by rfl) (Reads.of_blk (n := 1) (size := 2) (Blk.new _ _ _) rfl) HST.out (by unfold maxLen; omega) (by omega) (by simp; omega) ?_; intro v4 w4 hown4 hg4 _; obtain ⟨A4, d4, hv4, _⟩ := own_slice hown4; subst hv4; have k4 := (k3.alloc _).keepRow (own3.alloc _) (by decide) hg4; have e4 := k4.cell 0; have f4 := k4.frozen 0; have l4 := k4.lt))
                all_goals go_wp2_with fail
                all_goals go_meet
                all_goals exact (HS2.out.via jb3).push' hX HML.out k3 own3 hown4 hg4
              case rest =>
                rename World => wx
                obtain ⟨gg, rfl⟩ := srch_room HG.out HTS.out HEM.out hf
                have hS6 : SrSt X (st0 ++ [(p, i + 1)] ++ [(t, fi)]) (sn ++ [t]) wx := hcut
                have kq6 := hS6.kQ.cell 0
                unfold SrB.args at kq6
                simp only [List.getElem?_toArray, List.getElem?_cons_zero] at kq6
                have HC := IH gg rfl (L + 1) (st0 ++ [(p, i + 1)]) t fi (sn ++ [t]) wx hS6 hfi (by omega) (HG.out.snoc HTS.out HEM.out) (by simp; omega) (by have := HM.out; rw [HML.out]; simp; omega)
                obtain ⟨r, q, hrr⟩ : ∃ r q, srE X gg t fi ((st0 ++ [(p, i + 1)] ++ [(t, fi)]).map Prod.fst) (sn ++ [t]) = (r, q) := ⟨_, _, rfl⟩
                rw [hrr] at HC
                have hrs : srch (tosOf (srtE X.es)) X.a gg (tosOf (srtE X.es) t) (st0.map Prod.fst ++ [p] ++ [t]) (sn ++ [t]) = (r, q) := by
                  rw [← hrr, srE, HTF.out]
                  simp
                have HC : Hid (Calls Try.prog 26 #[.int .i64 ((L : Int) + 1), .pointer (some ⟨X.br, 0, none⟩), .pointer (some ⟨X.bs, 0, none⟩), .pointer (some ⟨X.bf, 0, none⟩), .pointer (some ⟨X.bg, 0, none⟩), .pointer (some ⟨X.bq, 0, none⟩)] wx (SrPost X (st0 ++ [(p, i + 1)]) (r, q))) := hide HC
                have HRS := hide hrs
                have s5 : (L : Int) < 1000 := by omega
                clear hrr hrs hcut hS6
                go_wp2_with fail
                refine HC.out.mono ?_
                rintro e w6 ⟨rfl, hE⟩
                cases r with
                | none =>
                  have hE : SrSt X (st0 ++ [(p, i + 1)]) q w6 := hE
                  have HE6 := hide hE
                  have HR2 := hide (show srE X (gg + 1) p (i + 1) (st0.map Prod.fst ++ [p]) q = R by
                    rw [← HR.out]
                    unfold srE
                    rw [HN.out, srch_back hta HTS.out HRS.out])
                  obtain ⟨hGq, _, hlq, _, _⟩ := srch_none tos_mem _ _ _ _ _ (HG.out.snoc HTS.out HEM.out) (fun t h => List.mem_map.2 ⟨_, tos_mem _ _ h, rfl⟩) (by simp; omega) HRS.out
                  have HGQ := hide hGq
                  rw [List.length_append, List.length_singleton] at hlq
                  clear hE hGq
                  simp only [Option.isSome_none]
                  go_wp2
                  go_roundg (X.n - (i + 1) + 1)
                  case measure => omega
                  case rel => exact .inl ⟨i + 1, q, rfl, hin, HE6.out, HR2.out, HGQ.out, by omega, by omega⟩
                | some pp =>
                  have HE6 := hide hE
                  have HR2 := hide (show R = (some pp, q) by
                    rw [← HR.out]
                    unfold srE
                    rw [HN.out, srch_found hta HTS.out HRS.out])
                  clear hE
                  simp only [Option.isSome_some]
                  go_wp2
                  go_ret
                  refine ⟨by rw [HR2.out]; rfl, ?_⟩
                  rw [HR2.out]
                  exact HE6.out
        · have hd2 : decide (p = z) = false := by simpa using hpz
          have HR2 := hide (show R = (none, sn) by
            rw [← HR.out]
            unfold srE
            rw [toAt_stop HKX.out hpz, srch_nil])
          have HP := hide (HS.out.pop hX (by rw [HM.out]; exact K1.out) (by rw [HM.out]; exact K2.out))
          rw [HM.out] at HP
          go_wp2
          go_quiet (fail)
          go_wp2
          go_roundg 0
          case measure => omega
          case rel => exact .inr ⟨sn, rfl, HR2.out, HP.out.drewN _⟩
      · have hd : decide (X.n ≤ i) = true := by simpa using hin
        have HR2 := hide (show R = (none, sn) by
          rw [← HR.out]
          unfold srE
          rw [toAt_none (by rw [← hX.he.1]; exact hin), srch_nil])
        have HP := hide (HS.out.pop hX (by rw [HM.out]; exact K1.out) (by rw [HM.out]; exact K2.out))
        rw [HM.out] at HP
        clear hS hR hG k1 k2
        go_wp2
        go_quiet (fail)
        go_wp2
        go_roundg 0
        case measure => omega
        case rel => exact .inr ⟨sn, rfl, HR2.out, HP.out.drewN _⟩
    · obtain ⟨v, k1, _, A, c', rfl⟩ := hS.len
      rw [HM.out] at k1
      have kq := k1.cell 0
      simp only [List.getElem?_toArray, List.getElem?_cons_zero] at kq
      have HS := hide hS
      have HR := hide hR
      clear hS hR k1
      go_wp2
      go_ret
      refine ⟨by rw [HR.out]; rfl, ?_⟩
      rw [HR.out]
      exact HS.out
theorem srch_all (X : SrB) (hX : X.Ok) (f : Nat) : SrC X f := by
  induction f with
  | zero => exact srch_step X hX 0 (fun g h => absurd h (by omega))
  | succ f ih => exact srch_step X hX (f + 1) (fun g h => by
      injection h with h
      exact h ▸ ih)
end Go.Proofs.Ytkbcenddhcnkeaa
