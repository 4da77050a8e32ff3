/-
  Texts of this claim, joined: EE, EF, EC.
-/
import Derived.Test.YtnanlaefehaifaaGreatAu20
set_option maxHeartbeats 6400000
set_option maxRecDepth 100000
namespace Go.Proofs.YtnanlaefehaifaaGreat
open Go.RowKit Go.Maps Go.Shelf
theorem talC_set (t : TalD) : (∀ v, (talC t).setIfInBounds 1 (.int .i64 v) = talC ⟨t.a, v, t.c, t.d, t.e⟩) ∧ (∀ v, (talC t).setIfInBounds 2 (.int .i64 v) = talC ⟨t.a, t.b, v, t.d, t.e⟩) ∧ (∀ v, (talC t).setIfInBounds 3 (.int .i64 v) = talC ⟨t.a, t.b, t.c, v, t.e⟩) ∧ (∀ v, (talC t).setIfInBounds 4 (.int .i64 v) = talC ⟨t.a, t.b, t.c, t.d, v⟩) := ⟨fun _ => rfl, fun _ => rfl, fun _ => rfl, fun _ => rfl⟩
def talM (n : Nat) (L done all : List ItemD) : TalD := ⟨n, (tallyD (L ++ done) 1 : Nat), (tallyD (L ++ done) 2 : Nat), (tallyD (L ++ done) 3 : Nat), (tallyD (L ++ all) 4 : Nat)⟩
theorem talM_end (n : Nat) (L all : List ItemD) : talM n L (liveI all) all = talL (L ++ all) n := by
  unfold talM talL
  rw [tallyD_append, tallyD_append, tallyD_append, tallyD_live all (c := 1) (by decide), tallyD_live all (c := 2) (by decide), tallyD_live all (c := 3) (by decide), ← tallyD_append, ← tallyD_append, ← tallyD_append]
theorem talM_step {n : Nat} {L done all : List ItemD} {x : ItemD} {c : Nat} (hc : catD x = c) (h4 : c = 1 ∨ c = 2 ∨ c = 3) : (talC (talM n L done all)).setIfInBounds c (.int .i64 ((tallyD (L ++ done) c : Nat) + 1 : Int)) = talC (talM n L (done ++ [x]) all) := by
  unfold talM
  simp only [← List.append_assoc, tallyD_snoc, hc]
  rcases h4 with rfl | rfl | rfl <;> simp [talC]
theorem spots_at : ∀ (l : List SpotV) (i c : Nat) (_ : c < 9), (l.flatMap SpotV.cells)[i * 9 + c]? = (l[i]?).bind fun x => x.cells[c]?
  | [], i, c, _ => by simp
  | x :: l, 0, c, hc => by rw [List.flatMap_cons, Nat.zero_mul, Nat.zero_add, List.getElem?_append_left (show c < 9 from hc)]; rfl
  | x :: l, i + 1, c, hc => by
    rw [List.flatMap_cons, List.getElem?_append_right (show 9 ≤ (i + 1) * 9 + c by omega)]
    show (l.flatMap SpotV.cells)[(i + 1) * 9 + c - 9]? = _
    rw [show (i + 1) * 9 + c - 9 = i * 9 + c by omega, spots_at l i c hc]
    rfl
theorem info_str : (Tryz.prog.info? 9).map (fun i => (i.zero, i.size, i.bytes)) = some (some (.string ⟨#[]⟩), 1, 16) := by kernel_rfl
theorem rCount_any (A : Option Addr) (n c : Nat) (ps : List (List UInt8)) (x : ConfD) (b : Nat) (B : Nat) (w : World) (hB : B ≤ w.heap.size) (h : PgsR w B A n ps) (hb : x.b = b) (hb1 : 1 ≤ b) (hb16 : b ≤ 16) (hn1 : 1 ≤ n) (hn : n ≤ 800) :
    Calls Tryz.prog 29 #[.slice A n c, confV x, .int .i64 0] w fun e w' => e = .returned (rCnt ps n x.b b) ∧ Below w.heap.size w w' := by
  have HNP := hide h.1
  have HP := hide h
  have HPG := hide (fun (no : Nat) (h2 : no < n) p (hp : ps[no]? = some p) W (hW : Below w.heap.size w W) => rPage_any A n c ps no 0 p B W (Nat.le_trans hB hW.size) (h.below hW hB) h2 hp)
  have HWK := hide (fun (i : Nat) (hi : i ≤ 100000) W (hW : Below w.heap.size w W) => rWalk_any A n c ps i n B W (Nat.le_trans hB hW.size) (h.below hW hB) (Nat.le_refl _) (by omega) hi)
  have HIT := hide (fun hok (i : Nat) (hi : i ≤ 100000) W (hW : Below w.heap.size w W) => rItems_any A n c ps i n B W (Nat.le_trans hB hW.size) (h.below hW hB) (Nat.le_refl _) (by omega) hi hok)
  have HHD := hide (fun (s : ByteArray) (hs : s.size ≤ 1000) W => headR_any x s W hs (by omega) (by omega))
  have hxb := hb
  clear h
  obtain ⟨xb, xp, xf, xc, xl⟩ := x
  dsimp only at hxb
  subst hxb
  clear hb
  unfold confA at HHD
  unfold confV
  dsimp only at HHD ⊢
  obtain ⟨i0, hi, hz0, hz1, hz2⟩ := info_parts info_int
  have hmk := fun W => run_make_rowN (P := Tryz.prog) 30 3 i0 (.int .i64 0) Tryz.underlying30 hi hz0 .i64 .i64 n n (Nat.le_refl _) (by rw [hz2]; omega) (by omega) W
  rw [hz1] at hmk
  have hmk1 : ∀ W : World, (Instr.makeSlice 30 (.int .i64 (n : Nat)) (.int .i64 (n : Nat))).run Tryz.prog W = .ok (.slice (some ⟨W.heap.size, 0, none⟩) n n) (W.alloc (.cells (seenA n []) 3)) := fun W => by
    rw [hmk W, ← seenA_nil n]
    simp [Value.cells]
  clear hi hz0 hz1 hz2 hmk
  go_enter Tryz.func29, Tryz.ntmps29
  go_upto_region 1 with (fail)
  refine gen2 (R := fun W => Code.wp _ _ _ _ W) (fun W1 kc k6 hb1' hz1' => ?_)
  obtain ⟨gc, hgc⟩ : ∃ g, g = w.heap.size := ⟨_, rfl⟩
  obtain ⟨g6, hg6⟩ : ∃ g, g = w.heap.size + 1 := ⟨_, rfl⟩
  rw [← hgc] at kc
  rw [← hg6] at k6
  rw [← hg6, ← hgc]
  have KC1 := hide kc
  have K61 := hide k6
  have HB1 := hide hb1'
  clear kc k6 hb1'
  go_upto_region 2 with (fail)
  refine gen1 (R := fun W => Code.wp _ _ _ _ W) (fun W2 kt hb2 hz2 => ?_)
  obtain ⟨gt, hgt⟩ : ∃ g, g = W1.heap.size := ⟨_, rfl⟩
  rw [← hgt] at kt ⊢
  have KT2 := hide (show Blk W2 gt 72 (talC (talL [] n)) from kt)
  have KC2 := hide (Blk.via hb2 KC1.out)
  have K62 := hide (Blk.via hb2 K61.out)
  have HB2 := hide (HB1.out.trans (hb2.mono HB1.out.size))
  have h6l : w.heap.size ≤ g6 := by omega
  have htl : w.heap.size ≤ gt := by omega
  have h6t : g6 ≠ gt := by omega
  clear kt hb2 KC1 K61 HB1 hgc hg6 hgt
  go_wp2
  go_loopw [9] (fun i wr => ∃ no : Nat, 1 ≤ no ∧ no ≤ n ∧ i = .int .i64 no ∧ Hid (∀ q : Nat, 1 ≤ q → q < no → pageOk (ps.getD q []) q 0 = true) ∧ Hid (Blk wr gc 56 #[.int .i64 b, .int .i64 xp, .int .i64 xf, .int .i64 xc, .int .i64 xl]) ∧ Hid (Blk wr g6 72 (talC tal0)) ∧ Hid (Blk wr gt 72 (talC (talL [] n))) ∧ Hid (Below w.heap.size w wr)) (fun i _ => n - (intOf i).toNat)
  case atStart => exact ⟨1, by omega, hn1, rfl, hide (fun q h1 h2 => by omega), KC2, K62, KT2, HB2⟩
  case round =>
    obtain ⟨no, hno1, hnon, rfl, HPO, KC, K6, KT, HBW⟩ := hrel
    by_cases hlt : no < n
    · obtain ⟨p, hp⟩ : ∃ p, ps[no]? = some p := ⟨_, List.getElem?_eq_getElem (by have := HNP.out; omega)⟩
      have HGD := hide (show ps.getD no [] = p by rw [List.getD_eq_getElem?_getD, hp]; rfl)
      have HR := hide (HPG.out no hlt p hp wr HBW.out)
      have t1 : (no : Int) < n := by omega
      have t0 : (0 : Int) ≤ no := by omega
      clear hp
      go_wp2_with fail
      refine HR.out.mono ?_
      rintro e w2 ⟨rfl, hb2⟩
      have HB3 := hide (HBW.out.trans (hb2.mono HBW.out.size))
      have K63 := hide (Blk.via hb2 K6.out)
      have KC3 := hide (Blk.via hb2 KC.out)
      have KT3 := hide (Blk.via hb2 KT.out)
      clear hb2 HR
      cases hpo : pageOk p no 0 with
      | true =>
        have HPN := hide (show ∀ q : Nat, 1 ≤ q → q < no + 1 → pageOk (ps.getD q []) q 0 = true from fun q h1 h2 => by
          by_cases hq : q < no
          · exact HPO.out q h1 hq
          · obtain rfl : q = no := by omega
            rw [HGD.out]
            exact hpo)
        clear hpo
        go_wp2
        go_roundw
        case rel => exact ⟨no + 1, by omega, by omega, by go_num, HPN, KC3, K63, KT3, HB3⟩
        case measure => simp [intOf]; omega
      | false =>
        have HZ := hide (pagesL_no (ps := ps) (n := n) hno1 hlt (by rw [HGD.out]; exact hpo) (b : Int) b)
        clear hpo
        have r0 : w2.cell? ⟨g6, 0, none⟩ = some (.int .i64 0) := (K63).out.cell 0
        have r1 : w2.cell? ⟨g6, 1, none⟩ = some (.int .i64 0) := (K63).out.cell 1
        have r2 : w2.cell? ⟨g6, 2, none⟩ = some (.int .i64 0) := (K63).out.cell 2
        have r3 : w2.cell? ⟨g6, 3, none⟩ = some (.int .i64 0) := (K63).out.cell 3
        have r4 : w2.cell? ⟨g6, 4, none⟩ = some (.int .i64 0) := (K63).out.cell 4
        have rl := (K63).out.lt
        have f0 := (K63).out.frozen 0
        have f1 := (K63).out.frozen 1
        have f2 := (K63).out.frozen 2
        have f3 := (K63).out.frozen 3
        have f4 := (K63).out.frozen 4
        go_wp2
        have T := five_turn w2 g6 (.int .i64 0) (.int .i64 0) (.int .i64 0) (.int .i64 0) (.int .i64 0)
        have kp := five_blk (K63).out (.int .i64 0) (.int .i64 0) (.int .i64 0) (.int .i64 0) (.int .i64 0)
        refine bodyPost_ret (results_cell_tmp Tryz.results29 _ _ g6 _ _ rfl rfl (run_loadVar_row _ _ _ _ _ (0, 0) _ kp Tryz.underlying72 rfl info_tal)) rfl ?_
        exact ⟨by rw [HZ.out]; rfl, T.belowT (HB3).out (fun q e => by rw [e]; omega) ((HB3).out.size)⟩
    · obtain rfl : n = no := by omega
      have HRC := hide (pagesL_yes HPO.out (b : Int) b)
      have HOK := hide (slotsOf HNP.out HPO.out)
      have t1 : ¬ (n : Int) < n := by omega
      have hls : w.heap.size ≤ wr.heap.size := HBW.out.size
      have ha := (Below.refl wr.heap.size wr).alloc (Nat.le_refl _) (.cells (seenA n []) 3)
      have HC0 := hide (show CntS w n gc g6 gt wr.heap.size ⟨b, xp, xf, xc, xl⟩ [] [] (talL [] n) (.slice none 0 0) (wr.alloc (.cells (seenA n []) 3)) from
        ⟨HBW.out.trans (ha.mono hls), Blk.via ha KC.out, Blk.via ha K6.out, Blk.via ha KT.out, Blk.new _ _ _, World.ownsRow_nil _ _ _ _, h6t, h6l, htl, hls⟩)
      obtain ⟨gs, hgs⟩ : ∃ g, g = wr.heap.size := ⟨_, rfl⟩
      clear ha KC K6 KT HPO HPG
      go_upto_region 8 with (fail)
      rw [← hgs] at HC0 ⊢
      refine nameW (R := fun W => Code.wp _ _ _ _ W) (fun W7 hW7 => ?_)
      rw [← hW7] at HC0
      have hlg : w.heap.size ≤ gs := by omega
      clear hW7 hgs hls
      go_wp2
      go_loopw [11, 12] (fun kv i wr => ∃ (k : Nat) (st : List Nat × List ByteArray), 1 ≤ k ∧ k ≤ b + 1 ∧ i = .int .i64 k ∧ Hid (refD (headI b) (itL ps) (nxL ps) n b 1 ([], []) = refD (headI b) (itL ps) (nxL ps) n (b + 1 - k) k st) ∧ Hid (st.1.length ≤ 800 * (k - 1) ∧ st.2.length ≤ 5600 * (k - 1)) ∧ Hid (CntS w n gc g6 gt gs ⟨b, xp, xf, xc, xl⟩ st.1 st.2 (talL (st.1.flatMap (itL ps)) n) kv wr)) (fun _ i _ => b + 1 - (intOf i).toNat)
      case atStart => exact ⟨1, ([], []), by omega, by omega, rfl, hide rfl, hide ⟨by simp, by simp⟩, HC0⟩
      case round =>
        obtain ⟨k, ⟨pages, keys⟩, hk1, hkb, rfl, HRD, HLN, HC⟩ := hrel
        obtain ⟨Ak, ck, rfl, -, -, -, -, -⟩ := own_slice HC.out.ky
        dsimp only at *
        have c40 : wr.cell? ⟨gc, 0, none⟩ = some (.int .i64 b) := HC.out.kc.cell 0
        have cl := HC.out.kc.lt
        by_cases hlt2 : k ≤ b
        · have t2 : (k : Int) ≤ b := by omega
          have HR := hide (HWK.out k (by omega) wr HC.out.bel)
          go_wp2_with fail
          refine HR.out.mono ?_
          rintro e w2 ⟨A1, c1, rfl, how, hb2⟩
          have HC2 := hide (HC.out.via hb2)
          have HIT2 := hide (HIT.out HOK.out k (by omega))
          have HIN := hide (fun q (hq : q ∈ (walkP (nxL ps) n n k).1) => walkP_in hq)
          have HWL := hide (walkP_length (nxL ps) n n k)
          have HRN := hide (fun st => refD_no (hd := headI b) (it := itL ps) (nx := nxL ps) (u := n) (k := b - k) (i := k) (st := st))
          have HRY := hide (fun st => refD_yes (hd := headI b) (it := itL ps) (nx := nxL ps) (u := n) (k := b - k) (i := k) (st := st))
          have hz2 := hb2.size
          obtain ⟨r, hr⟩ : ∃ r, r = walkP (nxL ps) n n k := ⟨_, rfl⟩
          rw [← hr] at how HIT2 HIN HWL HRN HRY ⊢
          clear hr hb2 HR c40 cl
          obtain ⟨way, ok⟩ := r
          dsimp only at *
          cases ok with
          | false =>
            have HZ := hide (show rCnt ps n b b = zeroRet by
              rw [HRC.out, HRD.out, show b + 1 - k = b - k + 1 by omega, HRN.out _ rfl]
              rfl)
            have HE := hide HC2.out.k6
            have HBE := hide HC2.out.bel
            simp only [show errI false = 14 from rfl]
            clear how
            have r0 : w2.cell? ⟨g6, 0, none⟩ = some (.int .i64 0) := (HE).out.cell 0
            have r1 : w2.cell? ⟨g6, 1, none⟩ = some (.int .i64 0) := (HE).out.cell 1
            have r2 : w2.cell? ⟨g6, 2, none⟩ = some (.int .i64 0) := (HE).out.cell 2
            have r3 : w2.cell? ⟨g6, 3, none⟩ = some (.int .i64 0) := (HE).out.cell 3
            have r4 : w2.cell? ⟨g6, 4, none⟩ = some (.int .i64 0) := (HE).out.cell 4
            have rl := (HE).out.lt
            have f0 := (HE).out.frozen 0
            have f1 := (HE).out.frozen 1
            have f2 := (HE).out.frozen 2
            have f3 := (HE).out.frozen 3
            have f4 := (HE).out.frozen 4
            go_wp2
            have T := five_turn w2 g6 (.int .i64 0) (.int .i64 0) (.int .i64 0) (.int .i64 0) (.int .i64 0)
            have kp := five_blk (HE).out (.int .i64 0) (.int .i64 0) (.int .i64 0) (.int .i64 0) (.int .i64 0)
            refine bodyPost_ret (results_cell_tmp Tryz.results29 _ _ g6 _ _ rfl rfl (run_loadVar_row _ _ _ _ _ (0, 0) _ kp Tryz.underlying72 rfl info_tal)) rfl ?_
            exact ⟨by rw [HZ.out]; rfl, T.belowT (HBE).out (fun q e => by rw [e]; omega) ((HBE).out.size)⟩
          | true =>
            have HRY2 := hide (HRY.out (pages, keys) rfl)
            simp only [show errI true = 0 from rfl]
            obtain ⟨m, hm⟩ : ∃ m, m = way.length := ⟨_, rfl⟩
            rw [← hm] at how ⊢
            have hm800 : m ≤ 800 := by have := HWL.out; omega
            have HML := hide hm
            have HW2 := hide how
            have hgl : gs < wr.heap.size := HC.out.ks.lt
            obtain ⟨bw0, hbw0⟩ : ∃ q, q = wr.heap.size := ⟨_, rfl⟩
            rw [← hbw0] at HW2 hgl
            clear how hm HRN HRY HC hbw0 hz2
            go_wp2
            go_loopw [15] (fun i wr => ∃ j : Nat, j ≤ m ∧ i = .int .i64 j ∧ Hid (CntS w n gc g6 gt gs ⟨b, xp, xf, xc, xl⟩ (pages ++ way.take j) keys (talL (pages.flatMap (itL ps)) n) (.slice Ak keys.length ck) wr) ∧ Hid (wr.ownsRow bw0 3 1 (.slice A1 m c1) m (way.map natV))) (fun i _ => m - (intOf i).toNat)
            case atStart => exact ⟨0, Nat.zero_le _, rfl, hide (by rw [List.take_zero, List.append_nil]; exact HC2.out), HW2⟩
            case round =>
              obtain ⟨j, hj, rfl, HCj, HWj⟩ := hrel
              by_cases hjl : j < m
              · obtain ⟨q, hq⟩ : ∃ q, way[j]? = some q := ⟨_, List.getElem?_eq_getElem (by have := HML.out; omega)⟩
                have hin := HIN.out q (List.mem_of_getElem? hq)
                obtain ⟨bw, ow, rfl, hbw, hcw⟩ := (Reads.of_own HWj.out).plain (by omega) (by omega)
                have hfr := World.ownsRow.lt HWj.out bw rfl
                have d0 : wr.cell? ⟨bw, ow + j, none⟩ = some (.int .i64 q) := hcw j _ (by rw [List.getElem?_map, hq]; rfl)
                have d1 : wr.cell? ⟨gs, q, none⟩ = some (natV ((pages ++ way.take j).count q)) := (HCj.out.ks.cell q).trans (seenA_at _ hin.2)
                have f1 := HCj.out.ks.frozen q
                have l1 := HCj.out.ks.lt
                have hcl : (pages ++ way.take j).count q ≤ 20000 := by
                  refine Nat.le_trans List.count_le_length ?_
                  rw [List.length_append, List.length_take]
                  have := HLN.out.1
                  have := HML.out
                  omega
                have hCn := HCj.out.seen hin.2
                have hWn := row_keep HWj.out (W' := wr.setCell ⟨gs, q, none⟩ (natV ((pages ++ way.take j).count q + 1))) (fun q' hq' => Below.heap_setCell wr ⟨gs, q, none⟩ _ q' (by have := (World.ownsRow.lt HWj.out q' hq').1; show q' ≠ gs; omega))
                rw [show (pages ++ way.take j) ++ [q] = pages ++ way.take (j + 1) by
                  obtain ⟨q1, q2⟩ := List.getElem?_eq_some_iff.1 hq
                  rw [List.take_succ_eq_append_getElem q1, q2, List.append_assoc]] at hCn
                generalize (pages ++ way.take j).count q = cnt at *
                rw [show natV (cnt + 1) = .int .i64 ((cnt : Int) + 1) from rfl] at hCn hWn
                unfold natV at d1
                have HCn := hide hCn
                have HWn := hide hWn
                have s1 : (j : Int) < m := by omega
                have s2 : (0 : Int) ≤ j := by omega
                have s3 : (q : Int) < n := by omega
                have s4 : (0 : Int) ≤ q := by omega
                clear hCn hWn hq hcw HCj hin
                go_wp2
                go_roundw
                case rel => exact ⟨j + 1, by omega, by go_num, HCn, HWn⟩
                case measure => simp [intOf]; omega
              · obtain rfl : m = j := by omega
                have HC3 := hide (show CntS w n gc g6 gt gs ⟨b, xp, xf, xc, xl⟩ (pages ++ way) keys (talL (pages.flatMap (itL ps)) n) (.slice Ak keys.length ck) wr by have := HCj.out; rwa [HML.out, List.take_length] at this)
                have HI := hide (HIT2.out wr HC3.out.bel)
                have s1 : ¬ (m : Int) < m := by omega
                clear HCj HWj HC2 HW2
                go_wp2_with fail
                refine HI.out.mono ?_
                rintro e w3 ⟨A2, c2, ss, rfl, hsp, hss, hb3⟩
                dsimp only at hss ⊢
                have HC4 := hide (HC3.out.via hb3)
                have HSS := hide hss
                obtain ⟨items, hit⟩ : ∃ l, l = way.flatMap (itL ps) := ⟨_, rfl⟩
                obtain ⟨L, hL⟩ : ∃ l, l = pages.flatMap (itL ps) := ⟨_, rfl⟩
                have HIL := hide hit
                have HLL := hide hL
                rw [← hit] at HSS
                have hLl : L.length ≤ 89600 := by rw [hL, itL_flat]; have := HLN.out.1; omega
                obtain ⟨N, hN⟩ : ∃ N, N = ss.length := ⟨_, rfl⟩
                have HNL := hide hN
                have hlen : tallyD items 4 + N = 7 * m := by
                  have h1 := tallyD_empty items
                  have h2 : (liveI items).length = N := by rw [← HSS.out, List.length_map, hN]
                  have h3 : items.length = 7 * m := by rw [hit, itL_flat, ← HML.out]
                  omega
                rw [← hN] at hsp ⊢
                have HSP := hide hsp
                obtain ⟨bs0, hbs0⟩ : ∃ q, q = wr.heap.size := ⟨_, rfl⟩
                rw [← hbs0] at HSP
                have hte := tallyD_append L items 4
                have htl2 := tallyD_le L 4
                have hC5 := HC4.out.tal 4 (.int .i64 ((tallyD L 4 : Nat) + 7 * (m : Int) - (N : Int))) (t' := talM n L [] items) (by
                  rw [(talC_set _).2.2.2]
                  unfold talM talL
                  rw [List.append_nil, ← hL, show ((tallyD L 4 : Nat) : Int) + 7 * (m : Int) - (N : Int) = ((tallyD (L ++ items) 4 : Nat) : Int) by omega])
                have HC5 := hide hC5
                have HSP5 := hide (row_cell HSP.out HC4.out.kt (c := 4) (u := .int .i64 ((tallyD L 4 : Nat) + 7 * (m : Int) - (N : Int))) (by decide))
                have e4 : w3.cell? ⟨gt, 4, none⟩ = some (.int .i64 (tallyD L 4 : Nat)) := by have := HC4.out.kt.cell 4; rw [← hL] at this; exact this
                have f4 := HC4.out.kt.frozen 4
                have l4 := HC4.out.kt.lt
                clear hC5 hss hsp hb3 hbs0 hN hit hL hte HC3 HC4 HSP
                generalize tallyD L 4 = T4 at *
                go_wp2
                go_loopw [11, 18] (fun kv i wr => ∃ (j : Nat) (keys' : List ByteArray), j ≤ N ∧ i = .int .i64 j ∧ Hid (keysD (headI b) k (liveI items) keys = keysD (headI b) k ((liveI items).drop j) keys') ∧ Hid (keys'.length ≤ keys.length + j) ∧ Hid (CntS w n gc g6 gt gs ⟨b, xp, xf, xc, xl⟩ (pages ++ way) keys' (talM n L ((liveI items).take j) items) kv wr) ∧ Hid (wr.ownsRow bs0 161 9 (.slice A2 N c2) N (ss.flatMap SpotV.cells))) (fun _ i _ => N - (intOf i).toNat)
                case atStart => exact ⟨0, keys, Nat.zero_le _, rfl, hide rfl, hide (Nat.le_refl _), HC5, HSP5⟩
                case round =>
                  obtain ⟨j, keys', hj, rfl, HKD, HKL, HCj, HSj⟩ := hrel
                  obtain ⟨Ak', ck', rfl, -, -, -, -, -⟩ := own_slice HCj.out.ky
                  have hN6 : N ≤ 5600 := by omega
                  by_cases hjl : j < N
                  · obtain ⟨s, hs⟩ : ∃ s, ss[j]? = some s := ⟨_, List.getElem?_eq_getElem (by have := HNL.out; omega)⟩
                    have hx : (liveI items)[j]? = some s.x := by rw [← HSS.out, List.getElem?_map, hs]; rfl
                    have hx0 : s.x.st ≠ 0 := liveI_st (List.mem_of_getElem? hx)
                    have hkey : s.x.key.size ≤ 1000 := liveI_key (by rw [← HIL.out]; exact List.mem_of_getElem? hx)
                    obtain ⟨hx1, hx2⟩ := List.getElem?_eq_some_iff.1 hx
                    have hdr : (liveI items).drop j = s.x :: (liveI items).drop (j + 1) := by rw [List.drop_eq_getElem_cons hx1, hx2]
                    have htk : (liveI items).take (j + 1) = (liveI items).take j ++ [s.x] := by rw [List.take_succ_eq_append_getElem hx1, hx2]
                    obtain ⟨bs, os, rfl, hbs, hcs⟩ := (Reads.of_own HSj.out).plain (by omega) (by omega)
                    have hcs' : ∀ c u, c < 9 → s.cells[c]? = some u → wr.cell? ⟨bs, os + (j * 9 + c), none⟩ = some u := fun c u hc hu => hcs _ _ (by rw [spots_at _ _ _ hc, hs]; exact hu)
                    rw [hdr] at HKD
                    obtain ⟨sp, sk, ⟨xs, xk, ⟨y1, y2, y3, y4, y5⟩⟩, As, ns, cs⟩ := s
                    dsimp only at hx0 hkey HKD htk
                    have q2 : wr.cell? ⟨bs, os + (j * 9 + 2), none⟩ = some (.int .i64 xs) := hcs' 2 _ (by omega) rfl
                    have q3 : wr.cell? ⟨bs, os + (j * 9 + 3), none⟩ = some (.string xk) := hcs' 3 _ (by omega) rfl
                    have q4 : wr.cell? ⟨bs, os + (j * 9 + 4), none⟩ = some (.int .i64 y1) := hcs' 4 _ (by omega) rfl
                    have q5 : wr.cell? ⟨bs, os + (j * 9 + 5), none⟩ = some (.slice As ns cs) := hcs' 5 _ (by omega) rfl
                    have q6 : wr.cell? ⟨bs, os + (j * 9 + 6), none⟩ = some (.int .i64 y3) := hcs' 6 _ (by omega) rfl
                    have q7 : wr.cell? ⟨bs, os + (j * 9 + 7), none⟩ = some (.int .i64 y4) := hcs' 7 _ (by omega) rfl
                    have q8 : wr.cell? ⟨bs, os + (j * 9 + 8), none⟩ = some (.int .i64 y5) := hcs' 8 _ (by omega) rfl
                    simp only [← Nat.add_assoc] at q2 q3 q4 q5 q6 q7 q8
                    have s1 : (j : Int) < N := by omega
                    have s2 : (0 : Int) ≤ j := by omega
                    have HTK := hide htk
                    have HCL := hide (HLN.out)
                    clear hcs hcs' hs hx hx1 hx2 hdr htk e4 f4 l4
                    go_upto_region 25 with (fail)
                    refine gen1 (R := fun W => Code.wp _ _ _ _ W) (fun W5 ki hb5 hz5 => ?_)
                    obtain ⟨gi, hgi⟩ : ∃ g, g = wr.heap.size := ⟨_, rfl⟩
                    rw [← hgi] at ki ⊢
                    have HC6 := hide (HCj.out.via hb5)
                    have HS6 := hide (row_keep HSj.out (fun q hq => hb5.block q (World.ownsRow.lt HSj.out q hq).2))
                    have KI := hide ki
                    have HHS := hide (rHas_any Ak' keys'.length ck' keys' xk W5.heap.size W5 rfl (by have := HKL.out; have := HCL.out.2; omega) (Reads.of_own HC6.out.ky))
                    clear ki hb5 q2 q3 q4 q5 q6 q7 q8 hgi HCj HSj hbs
                    have p1 : W5.cell? ⟨gi, 1, none⟩ = some (.string xk) := KI.out.cell 1
                    have pl := KI.out.lt
                    have HK := hide (HHD.out xk hkey)
                    cases hh : hasK keys' xk with
                    | true =>
                      rw [hh] at HHS
                      have HZ := hide (show rCnt ps n b b = zeroRet by
                        rw [HRC.out, HRD.out, show b + 1 - k = b - k + 1 by omega, HRY2.out]
                        try dsimp only
                        rw [keysD_live, ← HIL.out, HKD.out, keysD_cons_no hx0 (.inl hh)]
                        rfl)
                      have HE := hide HC6.out.k6
                      have HBE := hide HC6.out.bel
                      clear hh
                      go_upto_region 26 with (go_at_call 86; refine HHS.out.mono ?_; rintro e w' ⟨rfl, hw'⟩; obtain rfl := hw'.symm)
                      have r0 : W5.cell? ⟨g6, 0, none⟩ = some (.int .i64 0) := (HE).out.cell 0
                      have r1 : W5.cell? ⟨g6, 1, none⟩ = some (.int .i64 0) := (HE).out.cell 1
                      have r2 : W5.cell? ⟨g6, 2, none⟩ = some (.int .i64 0) := (HE).out.cell 2
                      have r3 : W5.cell? ⟨g6, 3, none⟩ = some (.int .i64 0) := (HE).out.cell 3
                      have r4 : W5.cell? ⟨g6, 4, none⟩ = some (.int .i64 0) := (HE).out.cell 4
                      have rl := (HE).out.lt
                      have f0 := (HE).out.frozen 0
                      have f1 := (HE).out.frozen 1
                      have f2 := (HE).out.frozen 2
                      have f3 := (HE).out.frozen 3
                      have f4 := (HE).out.frozen 4
                      go_wp2
                      have T := five_turn W5 g6 (.int .i64 0) (.int .i64 0) (.int .i64 0) (.int .i64 0) (.int .i64 0)
                      have kp := five_blk (HE).out (.int .i64 0) (.int .i64 0) (.int .i64 0) (.int .i64 0) (.int .i64 0)
                      refine bodyPost_ret (results_cell_tmp Tryz.results29 _ _ g6 _ _ rfl rfl (run_loadVar_row _ _ _ _ _ (0, 0) _ kp Tryz.underlying72 rfl info_tal)) rfl ?_
                      exact ⟨by rw [HZ.out]; rfl, T.belowT (HBE).out (fun q e => by rw [e]; omega) ((HBE).out.size)⟩
                    | false =>
                      rw [hh] at HHS
                      have c0 : W5.cell? ⟨gc, 0, none⟩ = some (.int .i64 b) := HC6.out.kc.cell 0
                      have c1 : W5.cell? ⟨gc, 1, none⟩ = some (.int .i64 xp) := HC6.out.kc.cell 1
                      have c2 : W5.cell? ⟨gc, 2, none⟩ = some (.int .i64 xf) := HC6.out.kc.cell 2
                      have c3 : W5.cell? ⟨gc, 3, none⟩ = some (.int .i64 xc) := HC6.out.kc.cell 3
                      have c4 : W5.cell? ⟨gc, 4, none⟩ = some (.int .i64 xl) := HC6.out.kc.cell 4
                      have cl := HC6.out.kc.lt
                      by_cases hhd : headI b xk = (k : Int)
                      · have HHH := hide hhd
                        rw [hhd] at HK
                        have HKN := hide (show keysD (headI b) k (liveI items) keys = keysD (headI b) k ((liveI items).drop (j + 1)) (keys' ++ [xk]) by rw [HKD.out, keysD_cons_yes hx0 hh hhd])
                        clear hh hhd
                        go_upto_region 27 with (first
                          | (go_at_call 86; refine HHS.out.mono ?_; rintro e w' ⟨rfl, hw'⟩; obtain rfl := hw'.symm)
                          | (go_at_call 87; refine (HK.out _).mono ?_; rintro e W6 ⟨rfl, hb6⟩))
                        have HC7 := hide (HC6.out.via hb6)
                        have HS7 := hide (row_keep HS6.out (fun q hq => hb6.block q (World.ownsRow.lt HS6.out q hq).2))
                        have KI7 := hide (Blk.via hb6 KI.out)
                        clear hb6 c0 c1 c2 c3 c4 cl p1 pl HC6 HS6 KI HHS HK
                        have p1 : W6.cell? ⟨gi, 1, none⟩ = some (.string xk) := KI7.out.cell 1
                        have pl := KI7.out.lt
                        obtain ⟨i1, hi, hz0, hz1, hz2⟩ := info_parts info_str
                        have ha := (Below.refl W6.heap.size W6).alloc (Nat.le_refl _) (.cells #[.string xk] 9)
                        go_wp2_with (at_builtin; refine heldG ?_)
                        refine unheldG ?_
                        at_builtin
                        refine wpList_append_any _ rfl _ _ _ rfl w.heap.size 9 i1 _ 1 16 Tryz.underlying154 hi hz0 hz1 hz2 rfl (by omega) _ _ _ rfl (HC7.out.via ha).ky (W6.heap.size + 1) (some ⟨W6.heap.size, 0, none⟩) 1 1 [.string xk] rfl ?c2 ?c3 ?c4 ?c5 ?c6 ?_
                        case c2 => exact Reads.of_blk (size := 1) (n := 1) (Blk.new W6 9 #[.string xk]) rfl
                        case c3 => simp [Value.oneCell']
                        case c4 => have := HKL.out; have := HCL.out.2; unfold maxLen; omega
                        case c5 => have := HKL.out; have := HCL.out.2; omega
                        case c6 => exact (HC7.out.via ha).bel.size
                        intro v' W7 hown7 hg7 _
                        have HC8 := hide ((HC7.out.via ha).key hown7 hg7)
                        have HS8 := hide (row_other (row_keep HS7.out (fun q hq => ha.block q (World.ownsRow.lt HS7.out q hq).2)) (HC7.out.via ha).ky (by decide) hg7)
                        have KI8 := hide ((Blk.via ha KI7.out).grown hg7 (row_ne (HC7.out.via ha).ky (Blk.via ha KI7.out) (by decide)))
                        have HKL8 := hide (show (keys' ++ [xk]).length ≤ keys.length + (j + 1) by rw [List.length_append]; have := HKL.out; show _ + 1 ≤ _; omega)
                        clear ha hown7 hg7 p1 pl hi hz0 hz1 hz2 HC7 HS7 KI7
                        have i0 : W7.cell? ⟨gi, 0, none⟩ = some (.int .i64 xs) := KI8.out.cell 0
                        have i2 : W7.cell? ⟨gi, 2, none⟩ = some (.int .i64 y1) := KI8.out.cell 2
                        have il := KI8.out.lt
                        have gl := HC8.out.kt.lt
                        have hDl : (L ++ (liveI items).take j).length ≤ 100000 := by rw [List.length_append, List.length_take]; omega
                        by_cases hx2 : xs = 2
                        · have e1 : W7.cell? ⟨gt, 3, none⟩ = some (.int .i64 (tallyD (L ++ (liveI items).take j) 3 : Nat)) := HC8.out.kt.cell 3
                          have e2 := HC8.out.kt.frozen 3
                          have e3 := tallyD_le (L ++ (liveI items).take j) 3
                          have HCn := hide (HC8.out.tal 3 (.int .i64 ((tallyD (L ++ (liveI items).take j) 3 : Nat) + 1 : Int)) (t' := talM n L ((liveI items).take (j + 1)) items) (by
                            rw [HTK.out]
                            refine talM_step (c := 3) ?_ (by simp)
                            show (if xs = 0 then 4 else if xs = 2 then 3 else if y1 = 2 then 2 else 1) = 3
                            rw [if_neg hx0, if_pos hx2]))
                          have HSn := hide (row_cell HS8.out HC8.out.kt (c := 3) (u := .int .i64 ((tallyD (L ++ (liveI items).take j) 3 : Nat) + 1 : Int)) (by decide))
                          generalize tallyD (L ++ (liveI items).take j) 3 = T at *
                          go_wp2
                          go_roundw
                          case rel => exact ⟨j + 1, keys' ++ [xk], by omega, by go_num, HKN, HKL8, HCn, HSn⟩
                          case measure => simp [intOf]; omega
                        · by_cases hd2 : y1 = 2
                          · have e1 : W7.cell? ⟨gt, 2, none⟩ = some (.int .i64 (tallyD (L ++ (liveI items).take j) 2 : Nat)) := HC8.out.kt.cell 2
                            have e2 := HC8.out.kt.frozen 2
                            have e3 := tallyD_le (L ++ (liveI items).take j) 2
                            have HCn := hide (HC8.out.tal 2 (.int .i64 ((tallyD (L ++ (liveI items).take j) 2 : Nat) + 1 : Int)) (t' := talM n L ((liveI items).take (j + 1)) items) (by
                              rw [HTK.out]
                              refine talM_step (c := 2) ?_ (by simp)
                              show (if xs = 0 then 4 else if xs = 2 then 3 else if y1 = 2 then 2 else 1) = 2
                              rw [if_neg hx0, if_neg hx2, if_pos hd2]))
                            have HSn := hide (row_cell HS8.out HC8.out.kt (c := 2) (u := .int .i64 ((tallyD (L ++ (liveI items).take j) 2 : Nat) + 1 : Int)) (by decide))
                            generalize tallyD (L ++ (liveI items).take j) 2 = T at *
                            go_wp2
                            go_roundw
                            case rel => exact ⟨j + 1, keys' ++ [xk], by omega, by go_num, HKN, HKL8, HCn, HSn⟩
                            case measure => simp [intOf]; omega
                          · have e1 : W7.cell? ⟨gt, 1, none⟩ = some (.int .i64 (tallyD (L ++ (liveI items).take j) 1 : Nat)) := HC8.out.kt.cell 1
                            have e2 := HC8.out.kt.frozen 1
                            have e3 := tallyD_le (L ++ (liveI items).take j) 1
                            have HCn := hide (HC8.out.tal 1 (.int .i64 ((tallyD (L ++ (liveI items).take j) 1 : Nat) + 1 : Int)) (t' := talM n L ((liveI items).take (j + 1)) items) (by
                              rw [HTK.out]
                              refine talM_step (c := 1) ?_ (by simp)
                              show (if xs = 0 then 4 else if xs = 2 then 3 else if y1 = 2 then 2 else 1) = 1
                              rw [if_neg hx0, if_neg hx2, if_neg hd2]))
                            have HSn := hide (row_cell HS8.out HC8.out.kt (c := 1) (u := .int .i64 ((tallyD (L ++ (liveI items).take j) 1 : Nat) + 1 : Int)) (by decide))
                            generalize tallyD (L ++ (liveI items).take j) 1 = T at *
                            go_wp2
                            go_roundw
                            case rel => exact ⟨j + 1, keys' ++ [xk], by omega, by go_num, HKN, HKL8, HCn, HSn⟩
                            case measure => simp [intOf]; omega
                      · have HZ := hide (show rCnt ps n b b = zeroRet by
                          rw [HRC.out, HRD.out, show b + 1 - k = b - k + 1 by omega, HRY2.out]
                          try dsimp only
                          rw [keysD_live, ← HIL.out, HKD.out, keysD_cons_no hx0 (.inr hhd)]
                          rfl)
                        clear hh
                        generalize headI b xk = hv at *
                        go_upto_region 26 with (first
                          | (go_at_call 86; refine HHS.out.mono ?_; rintro e w' ⟨rfl, hw'⟩; obtain rfl := hw'.symm)
                          | (go_at_call 87; refine (HK.out _).mono ?_; rintro e W6 ⟨rfl, hb6⟩))
                        have HE := hide (HC6.out.via hb6).k6
                        have HBE := hide (HC6.out.via hb6).bel
                        clear hb6 c0 c1 c2 c3 c4 cl
                        have r0 : W6.cell? ⟨g6, 0, none⟩ = some (.int .i64 0) := (HE).out.cell 0
                        have r1 : W6.cell? ⟨g6, 1, none⟩ = some (.int .i64 0) := (HE).out.cell 1
                        have r2 : W6.cell? ⟨g6, 2, none⟩ = some (.int .i64 0) := (HE).out.cell 2
                        have r3 : W6.cell? ⟨g6, 3, none⟩ = some (.int .i64 0) := (HE).out.cell 3
                        have r4 : W6.cell? ⟨g6, 4, none⟩ = some (.int .i64 0) := (HE).out.cell 4
                        have rl := (HE).out.lt
                        have f0 := (HE).out.frozen 0
                        have f1 := (HE).out.frozen 1
                        have f2 := (HE).out.frozen 2
                        have f3 := (HE).out.frozen 3
                        have f4 := (HE).out.frozen 4
                        go_wp2
                        have T := five_turn W6 g6 (.int .i64 0) (.int .i64 0) (.int .i64 0) (.int .i64 0) (.int .i64 0)
                        have kp := five_blk (HE).out (.int .i64 0) (.int .i64 0) (.int .i64 0) (.int .i64 0) (.int .i64 0)
                        refine bodyPost_ret (results_cell_tmp Tryz.results29 _ _ g6 _ _ rfl rfl (run_loadVar_row _ _ _ _ _ (0, 0) _ kp Tryz.underlying72 rfl info_tal)) rfl ?_
                        exact ⟨by rw [HZ.out]; rfl, T.belowT (HBE).out (fun q e => by rw [e]; omega) ((HBE).out.size)⟩
                  · obtain rfl : N = j := by omega
                    have hll : (liveI items).length = N := by rw [← HSS.out, List.length_map, HNL.out]
                    have HR' := hide (show refD (headI b) (itL ps) (nxL ps) n b 1 ([], []) = refD (headI b) (itL ps) (nxL ps) n (b + 1 - (k + 1)) (k + 1) (pages ++ way, keys') by
                      rw [HRD.out, show b + 1 - k = b - k + 1 by omega, HRY2.out]
                      try dsimp only
                      rw [keysD_live, ← HIL.out, HKD.out, List.drop_of_length_le (by omega), show b + 1 - (k + 1) = b - k by omega]
                      rfl)
                    have HL' := hide (show (pages ++ way, keys').1.length ≤ 800 * (k + 1 - 1) ∧ (pages ++ way, keys').2.length ≤ 5600 * (k + 1 - 1) by
                      have h1 := HLN.out
                      have h2 := HKL.out
                      have h3 := HML.out
                      dsimp only
                      rw [List.length_append]
                      omega)
                    have hC9 := HCj.out
                    rw [List.take_of_length_le (by omega), talM_end, HLL.out, HIL.out, ← List.flatMap_append] at hC9
                    have HC9 := hide hC9
                    clear hC9 hll
                    have s1 : ¬ (N : Int) < N := by omega
                    go_wp2
                    go_roundw
                    case rel => exact ⟨k + 1, (pages ++ way, keys'), by omega, by omega, by go_num, HR', HL', HC9⟩
                    case measure => simp [intOf]; omega
        · obtain rfl : k = b + 1 := by omega
          have t2 : ¬ (((b + 1 : Nat) : Int) ≤ b) := by omega
          have HRC2 := hide (show rCnt ps n b b = rCnt2 ps n (some (pages, keys)) by
            rw [HRC.out, HRD.out, Nat.sub_self]
            rfl)
          have hpl : pages.length ≤ 12800 := by have := HLN.out.1; omega
          go_wp2
          go_loopw [20] (fun i wr' => ∃ no : Nat, 1 ≤ no ∧ no ≤ n ∧ i = .int .i64 no ∧ wr' = wr ∧ Hid (∀ q : Nat, 1 ≤ q → q < no → pages.count q = 1)) (fun i _ => n - (intOf i).toNat)
          case atStart => exact ⟨1, by omega, hn1, rfl, rfl, hide (fun q h1 h2 => by omega)⟩
          case round =>
            rename World => wr'
            obtain ⟨no, hno1, hnon, rfl, hwe, HCN⟩ := hrel
            subst hwe
            have d1 : wr'.cell? ⟨gs, no, none⟩ = _ := HC.out.ks.cell no
            have l1 := HC.out.ks.lt
            by_cases hlt : no < n
            · rw [seenA_at _ hlt] at d1
              unfold natV at d1
              have s1 : (no : Int) < n := by omega
              have s2 : (0 : Int) ≤ no := by omega
              by_cases hc1 : pages.count no = 1
              · have HCN' := hide (show ∀ q : Nat, 1 ≤ q → q < no + 1 → pages.count q = 1 from fun q h1 h2 => by
                  by_cases hq : q < no
                  · exact HCN.out q h1 hq
                  · obtain rfl : q = no := by omega
                    exact hc1)
                rw [hc1] at d1
                clear hc1
                go_wp2
                go_roundw
                case rel => exact ⟨no + 1, by omega, by omega, by go_num, by trivial, HCN'⟩
                case measure => simp [intOf]; omega
              · have HZ := hide (show rCnt ps n b b = zeroRet by
                  rw [HRC2.out]
                  unfold rCnt2
                  dsimp only
                  rw [if_neg]
                  intro h
                  rw [List.all_eq_true] at h
                  exact hc1 (by simpa using h no (mem_from1.2 ⟨hno1, hlt⟩)))
                have HE := hide HC.out.k6
                have HBE := hide HC.out.bel
                have hc1' : ¬ ((pages.count no : Nat) : Int) = 1 := by omega
                generalize pages.count no = cnt at *
                have r0 : wr'.cell? ⟨g6, 0, none⟩ = some (.int .i64 0) := (HE).out.cell 0
                have r1 : wr'.cell? ⟨g6, 1, none⟩ = some (.int .i64 0) := (HE).out.cell 1
                have r2 : wr'.cell? ⟨g6, 2, none⟩ = some (.int .i64 0) := (HE).out.cell 2
                have r3 : wr'.cell? ⟨g6, 3, none⟩ = some (.int .i64 0) := (HE).out.cell 3
                have r4 : wr'.cell? ⟨g6, 4, none⟩ = some (.int .i64 0) := (HE).out.cell 4
                have rl := (HE).out.lt
                have f0 := (HE).out.frozen 0
                have f1 := (HE).out.frozen 1
                have f2 := (HE).out.frozen 2
                have f3 := (HE).out.frozen 3
                have f4 := (HE).out.frozen 4
                go_wp2
                have T := five_turn wr' g6 (.int .i64 0) (.int .i64 0) (.int .i64 0) (.int .i64 0) (.int .i64 0)
                have kp := five_blk (HE).out (.int .i64 0) (.int .i64 0) (.int .i64 0) (.int .i64 0) (.int .i64 0)
                refine bodyPost_ret (results_cell_tmp Tryz.results29 _ _ g6 _ _ rfl rfl (run_loadVar_row _ _ _ _ _ (0, 0) _ kp Tryz.underlying72 rfl info_tal)) rfl ?_
                exact ⟨by rw [HZ.out]; rfl, T.belowT (HBE).out (fun q e => by rw [e]; omega) ((HBE).out.size)⟩
            · obtain rfl : n = no := by omega
              have s1 : ¬ (n : Int) < n := by omega
              have HZ := hide (show rCnt ps n b b = .tuple #[.agg (talC (talL (pages.flatMap (itL ps)) n)), .bool true] by
                rw [HRC2.out]
                unfold rCnt2
                dsimp only
                rw [if_pos]
                rw [List.all_eq_true]
                intro q hq
                simpa using HCN.out q (mem_from1.1 hq).1 (mem_from1.1 hq).2)
              clear d1 l1
              obtain ⟨tt, htt⟩ : ∃ tt, tt = talL (pages.flatMap (itL ps)) n := ⟨_, rfl⟩
              rw [← htt] at HZ HC
              clear htt
              have y0 : wr'.cell? ⟨gt, 0, none⟩ = some (.int .i64 tt.a) := HC.out.kt.cell 0
              have y1 : wr'.cell? ⟨gt, 1, none⟩ = some (.int .i64 tt.b) := HC.out.kt.cell 1
              have y2 : wr'.cell? ⟨gt, 2, none⟩ = some (.int .i64 tt.c) := HC.out.kt.cell 2
              have y3 : wr'.cell? ⟨gt, 3, none⟩ = some (.int .i64 tt.d) := HC.out.kt.cell 3
              have y4 : wr'.cell? ⟨gt, 4, none⟩ = some (.int .i64 tt.e) := HC.out.kt.cell 4
              have yl := HC.out.kt.lt
              have HE := hide HC.out.k6
              have HBE := hide HC.out.bel
              have r0 : wr'.cell? ⟨g6, 0, none⟩ = some (.int .i64 0) := HE.out.cell 0
              have r1 : wr'.cell? ⟨g6, 1, none⟩ = some (.int .i64 0) := HE.out.cell 1
              have r2 : wr'.cell? ⟨g6, 2, none⟩ = some (.int .i64 0) := HE.out.cell 2
              have r3 : wr'.cell? ⟨g6, 3, none⟩ = some (.int .i64 0) := HE.out.cell 3
              have r4 : wr'.cell? ⟨g6, 4, none⟩ = some (.int .i64 0) := HE.out.cell 4
              have rl := HE.out.lt
              have f0 := HE.out.frozen 0
              have f1 := HE.out.frozen 1
              have f2 := HE.out.frozen 2
              have f3 := HE.out.frozen 3
              have f4 := HE.out.frozen 4
              go_wp2
              have T := five_turn wr' g6 (.int .i64 tt.a) (.int .i64 tt.b) (.int .i64 tt.c) (.int .i64 tt.d) (.int .i64 tt.e)
              have kp := five_blk HE.out (.int .i64 tt.a) (.int .i64 tt.b) (.int .i64 tt.c) (.int .i64 tt.d) (.int .i64 tt.e)
              refine bodyPost_ret (results_cell_tmp Tryz.results29 _ _ g6 _ _ rfl rfl (run_loadVar_row _ _ _ _ _ (0, 0) _ kp Tryz.underlying72 rfl info_tal)) rfl ?_
              exact ⟨by rw [HZ.out]; rfl, T.belowT HBE.out (fun q e => by rw [e]; omega) HBE.out.size⟩
end Go.Proofs.YtnanlaefehaifaaGreat
namespace Go.Proofs.YtnanlaefehaifaaGreat
open Go.RowKit
theorem walkP_congr {nx nx' : Nat → Nat} {u : Nat} (h : ∀ no, 1 ≤ no → no < u → nx no = nx' no) : ∀ k no, walkP nx u k no = walkP nx' u k no := by
  intro k
  induction k with
  | zero => exact fun _ => rfl
  | succ k ih =>
    intro no
    unfold walkP
    by_cases hn : no < 1 ∨ u ≤ no
    · rw [if_pos hn, if_pos hn]
    · rw [if_neg hn, if_neg hn, h no (by omega) (by omega), ih]
theorem refD_congr {hd : ByteArray → Int} {it it' : Nat → List ItemD} {nx nx' : Nat → Nat} {u : Nat} (h : ∀ no, 1 ≤ no → no < u → nx no = nx' no ∧ it no = it' no) : ∀ k head st, refD hd it nx u k head st = refD hd it' nx' u k head st := by
  intro k
  induction k with
  | zero => exact fun _ _ => rfl
  | succ k ih =>
    intro head st
    unfold refD
    rw [walkP_congr (fun no h1 h2 => (h no h1 h2).1) u head]
    have e : (walkP nx' u u head).1.flatMap it = (walkP nx' u u head).1.flatMap it' := by
      have : ∀ l : List Nat, (∀ q ∈ l, 1 ≤ q ∧ q < u) → l.flatMap it = l.flatMap it' := by
        intro l
        induction l with
        | nil => exact fun _ => rfl
        | cons a r ihl =>
          intro hl
          rw [List.flatMap_cons, List.flatMap_cons, ihl (fun q hq => hl q (List.mem_cons_of_mem _ hq)), (h a (hl a List.mem_cons_self).1 (hl a List.mem_cons_self).2).2]
      exact this _ (fun q hq => walkP_in hq)
    rw [e]
    split
    · congr 1
      funext ks
      exact ih _ _
    · rfl
theorem from1_flat {it it' : Nat → List ItemD} {u : Nat} (h : ∀ no, 1 ≤ no → no < u → it no = it' no) : (from1 u).flatMap it = (from1 u).flatMap it' := by
  have : ∀ l : List Nat, (∀ q ∈ l, 1 ≤ q ∧ q < u) → l.flatMap it = l.flatMap it' := by
    intro l
    induction l with
    | nil => exact fun _ => rfl
    | cons a r ihl =>
      intro hl
      rw [List.flatMap_cons, List.flatMap_cons, ihl (fun q hq => hl q (List.mem_cons_of_mem _ hq)), h a (hl a List.mem_cons_self).1 (hl a List.mem_cons_self).2]
  exact this _ (fun q hq => mem_from1.1 hq)
def sealedL (ps : List (List UInt8)) (n : Nat) : Bool := (from1 n).all (fun no => rightP (ps.getD no []) no)
def rOk (ps : List (List UInt8)) (n : Nat) (xb : Int) (b : Nat) : Bool := pagesL ps n && okRf (headI xb) (itL ps) (nxL ps) b n
theorem rCnt_eq (ps : List (List UInt8)) (n : Nat) (xb : Int) (b : Nat) : (rOk ps n xb b = false ∧ rCnt ps n xb b = zeroRet) ∨ (rOk ps n xb b = true ∧ ∃ s, refD (headI xb) (itL ps) (nxL ps) n b 1 ([], []) = some s ∧ rCnt ps n xb b = .tuple #[.agg (talC (talL (s.1.flatMap (itL ps)) n)), .bool true]) := by
  unfold rOk rCnt
  cases hp : pagesL ps n with
  | false => exact .inl ⟨rfl, rfl⟩
  | true =>
    unfold okRf
    cases hr : refD (headI xb) (itL ps) (nxL ps) n b 1 ([], []) with
    | none => exact .inl ⟨rfl, rfl⟩
    | some s =>
      dsimp only
      rw [if_pos rfl]
      unfold rCnt2
      dsimp only
      cases ha : (from1 n).all (fun q => s.1.count q == 1) with
      | false => exact .inl ⟨rfl, by rw [if_neg (by decide)]⟩
      | true => exact .inr ⟨rfl, s, rfl, by rw [if_pos rfl]⟩
section
variable {s : StN} {ps : List (List UInt8)} {u B : Nat}
theorem nx_same (h : ∀ no, 1 ≤ no → no < u → s.pg no = ps.getD no []) : ∀ no, 1 ≤ no → no < u → nxI s no = nxL ps no ∧ itP s no = itL ps no := by
  intro no h1 h2
  constructor
  · unfold nxI nxL
    rw [h no h1 h2]
  · unfold itP itL
    rw [h no h1 h2]
theorem pages_same (h : ∀ no, 1 ≤ no → no < u → s.pg no = ps.getD no []) : pagesB s u = (sealedL ps u && pagesL ps u) := by
  unfold pagesB sealedL pagesL
  rw [Bool.eq_iff_iff]
  simp only [Bool.and_eq_true, List.all_eq_true]
  constructor
  · intro hh
    refine ⟨fun q hq => ?_, fun q hq => ?_⟩
    · have := hh q hq
      rw [auI_ref (mem_from1.1 hq).1 (mem_from1.1 hq).2, h q (mem_from1.1 hq).1 (mem_from1.1 hq).2, Bool.and_eq_true] at this
      exact this.1
    · have := hh q hq
      rw [auI_ref (mem_from1.1 hq).1 (mem_from1.1 hq).2, h q (mem_from1.1 hq).1 (mem_from1.1 hq).2, Bool.and_eq_true] at this
      exact this.2
  · rintro ⟨h1, h2⟩ q hq
    rw [auI_ref (mem_from1.1 hq).1 (mem_from1.1 hq).2, h q (mem_from1.1 hq).1 (mem_from1.1 hq).2, h1 q hq, h2 q hq]
    rfl
theorem check_same (h : ∀ no, 1 ≤ no → no < u → s.pg no = ps.getD no []) : checkB s u B = (rOk ps u s.x.b B && sealedL ps u) := by
  unfold checkB rOk
  rw [pages_same h, okD_eq]
  have e : okRf (headI s.x.b) (itP s) (nxI s) B u = okRf (headI s.x.b) (itL ps) (nxL ps) B u := by
    unfold okRf
    rw [refD_congr (nx_same h)]
  rw [e]
  cases sealedL ps u <;> cases pagesL ps u <;> cases okRf (headI s.x.b) (itL ps) (nxL ps) B u <;> rfl
theorem tal_same (h : ∀ no, 1 ≤ no → no < u → s.pg no = ps.getD no []) {t : List Nat × List ByteArray} (hr : refD (headI s.x.b) (itL ps) (nxL ps) u B 1 ([], []) = some t) (ho : rOk ps u s.x.b B = true) : talL (t.1.flatMap (itL ps)) u = talS s u := by
  unfold rOk at ho
  rw [Bool.and_eq_true] at ho
  unfold talS
  rw [from1_flat (fun no h1 h2 => (nx_same h no h1 h2).2)]
  unfold talL
  rw [tally_eq hr ho.2, tally_eq hr ho.2, tally_eq hr ho.2, tally_eq hr ho.2]
end
theorem auI_two {s : StN} {u no : Nat} (h1 : 1 ≤ no) (h2 : no < u) : auI s u no = 0 ∨ auI s u no = 14 := by
  unfold auI
  rw [if_neg (by omega)]
  split
  · exact .inl rfl
  · exact .inr rfl
end Go.Proofs.YtnanlaefehaifaaGreat
namespace Go.Proofs.YtnanlaefehaifaaGreat
open Go.RowKit
def putB (b : List UInt8) (at_ : Nat) (c : List UInt8) : List UInt8 := (b.take at_ ++ c) ++ b.drop (at_ + c.length)
theorem putB_length {b c : List UInt8} {at_ : Nat} (h : at_ + c.length ≤ b.length) : (putB b at_ c).length = b.length := by
  unfold putB
  rw [List.length_append, List.length_append, List.length_take, List.length_drop]
  omega
def noteC (x : ConfD) : List UInt8 := ((((([0] : List UInt8) ++ beB 1 x.b) ++ beB 2 x.p) ++ beB 1 x.f) ++ beB 1 x.c) ++ beB 2 x.l
theorem noteC_length (x : ConfD) : (noteC x).length = 8 := rfl
def newB (no : Int) : List UInt8 := putB (List.replicate 512 0) 12 (beB 2 no)
theorem newB_length (no : Int) : (newB no).length = 512 := by unfold newB; rw [putB_length (by rw [List.length_replicate, beB_length]; omega), List.length_replicate]
def confP (x : ConfD) : List UInt8 := putB (putB (newB 0) 14 (beB 2 (x.b + 1))) 16 (noteC x)
theorem confP_length (x : ConfD) : (confP x).length = 512 := by
  have h1 : (putB (newB 0) 14 (beB 2 (x.b + 1))).length = 512 := by rw [putB_length (by rw [newB_length, beB_length]; omega), newB_length]
  unfold confP
  rw [putB_length (by rw [h1, noteC_length]; omega), h1]
def firstB (x : ConfD) (u : Nat) : List UInt8 := putB (confP x) 14 [0, UInt8.ofNat u]
theorem firstB_length (x : ConfD) (u : Nat) : (firstB x u).length = 512 := by
  unfold firstB
  rw [putB_length (by rw [confP_length]; show 16 ≤ 512; omega), confP_length]
def restB (b u p1 p0 f c l1 l0 : UInt8) : List UInt8 := [0, 0, 0, 0, 0, 0, 0, 0, 0, 0, 0, u, 0, b, p1, p0, f, c, l1, l0] ++ List.replicate 488 0
theorem firstB_drop (x : ConfD) (u : Nat) : (firstB x u).drop 4 = restB (byteS x.b 0) (UInt8.ofNat u) (byteS x.p 8) (byteS x.p 0) (byteS x.f 0) (byteS x.c 0) (byteS x.l 8) (byteS x.l 0) := by kernel_rfl
theorem byteS_low (m : Nat) (_h : m < 65536) : (byteS (m : Int) 0).toNat = m % 256 := by
  unfold byteS
  rw [IntKind.wrap_u64, UInt8.toNat_ofNat']
  omega
theorem byteS_high (m : Nat) (_h : m < 65536) : (byteS (m : Int) 8).toNat = m / 256 := by
  unfold byteS
  rw [IntKind.wrap_u64, UInt8.toNat_ofNat']
  omega
theorem numI_1 (a : UInt8) : numI [a] = a.toNat := by
  have ha := a.toNat_lt
  have hn : numB [a] = a.toNat := by simp [numB]
  unfold numI
  rw [hn]
  unfold wrap64
  omega
theorem numI_2 (a b : UInt8) : numI [a, b] = 256 * a.toNat + b.toNat := by
  have ha := a.toNat_lt
  have hb := b.toNat_lt
  have hn : numB [a, b] = 256 * a.toNat + b.toNat := by simp [numB]
  unfold numI
  rw [hn]
  unfold wrap64
  omega
theorem numI_four (v : Nat) (hv : v < 4294967296) : numI (beB 4 (v : Int)) = (v : Int) := by
  have e : beB 4 (v : Int) = [byteS (v : Int) 24, byteS (v : Int) 16, byteS (v : Int) 8, byteS (v : Int) 0] := rfl
  rw [e]
  have hn : ∀ a b c d : UInt8, numB [a, b, c, d] = 256 * (256 * (256 * a.toNat + b.toNat) + c.toNat) + d.toNat := by intro a b c d; simp [numB]
  have h : numB [byteS (v : Int) 24, byteS (v : Int) 16, byteS (v : Int) 8, byteS (v : Int) 0] = v := by
    rw [hn]
    unfold byteS
    rw [IntKind.wrap_u64]
    simp only [UInt8.toNat_ofNat']
    omega
  unfold numI
  rw [h]
  unfold wrap64
  omega
theorem numI_oneI {n : Int} (h0 : 0 ≤ n) (h : n < 256) : numI [byteS n 0] = n := by
  obtain ⟨m, rfl⟩ := Int.eq_ofNat_of_zero_le h0
  rw [numI_1, byteS_low m (by omega)]
  omega
theorem numI_pair {n : Int} (h0 : 0 ≤ n) (h : n < 65536) : numI [byteS n 8, byteS n 0] = n := by
  obtain ⟨m, rfl⟩ := Int.eq_ofNat_of_zero_le h0
  rw [numI_2, byteS_low m (by omega), byteS_high m (by omega)]
  omega
section
variable (v : Int) (b u p1 p0 f c l1 l0 : UInt8)
theorem rest_no : cutB (beB 4 v ++ restB b u p1 p0 f c l1 l0) 12 2 = [0, 0] := rfl
theorem rest_next : cutB (beB 4 v ++ restB b u p1 p0 f c l1 l0) 14 2 = [0, u] := rfl
theorem rest_zero : (beB 4 v ++ restB b u p1 p0 f c l1 l0).getD 16 0 = 0 := rfl
theorem rest_b : cutB (beB 4 v ++ restB b u p1 p0 f c l1 l0) 17 1 = [b] := rfl
theorem rest_p : cutB (beB 4 v ++ restB b u p1 p0 f c l1 l0) 18 2 = [p1, p0] := rfl
theorem rest_f : cutB (beB 4 v ++ restB b u p1 p0 f c l1 l0) 20 1 = [f] := rfl
theorem rest_c : cutB (beB 4 v ++ restB b u p1 p0 f c l1 l0) 21 1 = [c] := rfl
theorem rest_l : cutB (beB 4 v ++ restB b u p1 p0 f c l1 l0) 22 2 = [l1, l0] := rfl
theorem rest_sum : cutB (beB 4 v ++ restB b u p1 p0 f c l1 l0) 0 4 = beB 4 v := rfl
theorem rest_pad : cutB (beB 4 v ++ restB b u p1 p0 f c l1 l0) 24 8 = List.replicate 8 0 := by kernel_rfl
theorem rest_end : (beB 4 v ++ restB b u p1 p0 f c l1 l0).drop 480 = List.replicate 32 0 := by kernel_rfl
theorem rest_slot0 : slotB (beB 4 v ++ restB b u p1 p0 f c l1 l0) 0 = List.replicate 64 0 := by kernel_rfl
theorem rest_slot1 : slotB (beB 4 v ++ restB b u p1 p0 f c l1 l0) 1 = List.replicate 64 0 := by kernel_rfl
theorem rest_slot2 : slotB (beB 4 v ++ restB b u p1 p0 f c l1 l0) 2 = List.replicate 64 0 := by kernel_rfl
theorem rest_slot3 : slotB (beB 4 v ++ restB b u p1 p0 f c l1 l0) 3 = List.replicate 64 0 := by kernel_rfl
theorem rest_slot4 : slotB (beB 4 v ++ restB b u p1 p0 f c l1 l0) 4 = List.replicate 64 0 := by kernel_rfl
theorem rest_slot5 : slotB (beB 4 v ++ restB b u p1 p0 f c l1 l0) 5 = List.replicate 64 0 := by kernel_rfl
theorem rest_slot6 : slotB (beB 4 v ++ restB b u p1 p0 f c l1 l0) 6 = List.replicate 64 0 := by kernel_rfl
theorem rest_slot (i : Nat) (hi : i < 7) : slotB (beB 4 v ++ restB b u p1 p0 f c l1 l0) i = List.replicate 64 0 := by
  have h : i = 0 ∨ i = 1 ∨ i = 2 ∨ i = 3 ∨ i = 4 ∨ i = 5 ∨ i = 6 := by omega
  rcases h with rfl | rfl | rfl | rfl | rfl | rfl | rfl
  · exact rest_slot0 v b u p1 p0 f c l1 l0
  · exact rest_slot1 v b u p1 p0 f c l1 l0
  · exact rest_slot2 v b u p1 p0 f c l1 l0
  · exact rest_slot3 v b u p1 p0 f c l1 l0
  · exact rest_slot4 v b u p1 p0 f c l1 l0
  · exact rest_slot5 v b u p1 p0 f c l1 l0
  · exact rest_slot6 v b u p1 p0 f c l1 l0
end
theorem slotG_nil : slotG (List.replicate 64 0) = some item0 := by
  unfold slotG
  rw [if_pos rfl]
theorem rightP_rest (b u p1 p0 f c l1 l0 : UInt8) (v : Nat) (hv : v < 4294967296) (hs : v = moreD 0 (restB b u p1 p0 f c l1 l0)) : rightP (beB 4 (v : Int) ++ restB b u p1 p0 f c l1 l0) 0 = true := by
  unfold rightP
  have e : (beB 4 (v : Int) ++ restB b u p1 p0 f c l1 l0).drop 4 = restB b u p1 p0 f c l1 l0 := List.drop_left' (beB_length 4 _)
  rw [rest_sum, e, numI_four v hv, rest_no, rest_pad, rest_end, ← hs, slotsOk_all 7 (fun i hi => by rw [rest_slot (v : Int) b u p1 p0 f c l1 l0 i hi, slotG_nil]; rfl), numI_2]
  simp
theorem first_right (x : ConfD) (u : Nat) : rightP (sealB (firstB x u)) 0 = true := by
  unfold sealB sumB
  rw [firstB_drop]
  exact rightP_rest _ _ _ _ _ _ _ _ _ (by rw [moreD_eq]; unfold moreR; omega) rfl
theorem first_meta (x : ConfD) (u : Nat) (hx : confOk x = true) (h1 : x.b < u) (h2 : (u : Int) ≤ x.p) (h3 : u < 256) : metaG (sealB (firstB x u)) = some (x, (u : Int)) := by
  unfold confOk at hx
  rw [decide_eq_true_iff] at hx
  obtain ⟨b, p, f, c, l⟩ := x
  dsimp only at hx h1 h2
  have hc : confB (sealB (firstB ⟨b, p, f, c, l⟩ u)) = ⟨b, p, f, c, l⟩ := by
    unfold sealB sumB confB
    rw [firstB_drop]
    rw [rest_b, rest_p, rest_f, rest_c, rest_l]
    dsimp only
    rw [numI_oneI (by omega) (by omega), numI_pair (by omega) (by omega), numI_oneI (by omega) (by omega), numI_oneI (by omega) (by omega), numI_pair (by omega) (by omega)]
  have hn : numI (cutB (sealB (firstB ⟨b, p, f, c, l⟩ u)) 14 2) = (u : Int) := by
    unfold sealB sumB
    rw [firstB_drop, rest_next, numI_2, UInt8.toNat_ofNat']
    have : (0 : UInt8).toNat = 0 := rfl
    omega
  have hno : numI (cutB (sealB (firstB ⟨b, p, f, c, l⟩ u)) 12 2) = 0 := by
    unfold sealB sumB
    rw [firstB_drop, rest_no, numI_2]
    rfl
  have hz : ((sealB (firstB ⟨b, p, f, c, l⟩ u)).getD 16 0).toNat = 0 := by
    unfold sealB sumB
    rw [firstB_drop, rest_zero]
    rfl
  unfold metaG
  rw [hc, hn, hno, hz]
  rw [if_pos]
  refine ⟨rfl, rfl, ?_, by dsimp only; omega, by dsimp only; omega⟩
  unfold confOk
  rw [decide_eq_true_iff]
  exact hx
end Go.Proofs.YtnanlaefehaifaaGreat
