/-
  THE LAW's WALK: moneyerlaw36.TraceTells returns true, whatever it is given.
-/
import Derived.Test.YteidmdnhkgcnoaaGreatTI
import Derived.Test.YteidmdnhkgcnoaaGreatTG
import Derived.Test.YteidmdnhkgcnoaaGreatWL
import Derived.Test.YteidmdnhkgcnoaaGreatWK
import Derived.Test.YteidmdnhkgcnoaaGreatMC
import Derived.Test.YteidmdnhkgcnoaaGreatWD
namespace Go.Proofs.YteidmdnhkgcnoaaGreat
open Go.RowKit

def dEv (x : EvV) : DidV := ⟨⟨0, x.d.op, x.d.err, x.d.cell⟩, x.dv, x.cv⟩
def cdOf (s : List PairD) (K : List DidD) : Int := if (replayD s K).2 < K.length then 14 else 0
def resOf (s : List PairD) (K : List DidD) : List PairD := if (replayD s K).2 < K.length then [] else (replayD s K).1
theorem resOf_len (s : List PairD) (K : List DidD) : (resOf s K).length ≤ s.length + K.length := by
  unfold resOf
  split
  · simp
  · exact (replayD_len K s).1
/-- What is told, in one form. -/
def UniPost (R : List PairD) (C : Int) (w : World) (e : Ending) (w' : World) : Prop := ∃ A c ys, e = .returned (.tuple #[.slice A R.length c, .int .i64 C]) ∧ ys.map PairV.d = R ∧ Pairs w' w'.heap.size A R.length ys ∧ Below w.heap.size w w'
theorem TrPost.uni {s : List PairD} {K : List DidD} {w w' : World} {e : Ending} (h : TrPost s K w e w') : UniPost (resOf s K) (cdOf s K) w e w' := by
  obtain ⟨⟨hlt, rfl⟩ | ⟨hlt, A, c, ys, rfl, hys, hP⟩, hb⟩ := h
  · have e1 : resOf s K = [] := by unfold resOf; rw [if_pos hlt]
    have e2 : cdOf s K = 14 := by unfold cdOf; rw [if_pos hlt]
    rw [e1, e2]
    exact ⟨none, 0, [], rfl, rfl, ⟨rfl, Reads.none_, fun x hx => by cases hx⟩, hb⟩
  · have e1 : resOf s K = (replayD s K).1 := by unfold resOf; rw [if_neg hlt]
    have e2 : cdOf s K = 0 := by unfold cdOf; rw [if_neg hlt]
    rw [e1, e2, ← hys]
    exact ⟨A, c, ys, by rw [List.length_map], rfl, by rw [List.length_map]; exact hP, hb⟩
theorem didT_len (xs : List EvV) (zs : List Int) : (didT xs zs).length ≤ xs.length := by
  unfold didT
  refine Nat.le_trans (List.length_filter_le _ _) ?_
  rw [List.length_map]
  exact List.length_filter_le _ _

set_option maxHeartbeats 8000000 in
set_option maxRecDepth 100000 in
theorem TraceTells_true (A D O L : Option Addr) (n c m d no oc nl lc : Nat) (ps : List PairV) (xs : List EvV) (zs : List Int) (ds : List DidV) (w : World) (hn : n ≤ 9223372036854775807) (hm : m ≤ 9223372036854775807) (hno : no ≤ 9223372036854775807) (hnl : nl ≤ 9223372036854775807) (hnc : n ≤ c) (h : Pairs w w.heap.size A n ps) (hE : Evs w w.heap.size D m xs) (ho : Ints w w.heap.size O no zs) (hD : Dids w w.heap.size L nl ds)
    (hks : ∀ x ∈ ps, x.d.key.size ≤ 9223372036854775807) (hW : WfS (ps.map PairV.d)) (hO : ∀ x ∈ xs, OpWf x.d.op) (hT : ∀ x ∈ xs, wfI x.d.txn) :
    Calls Tryz.prog 3 #[.slice A n c, .slice D m d, .slice O no oc, .slice L nl lc] w fun e w' => e = .returned (.bool true) ∧ Below w.heap.size w w' := by
  have HL := hide h.1
  have HLE := hide hE.1
  have HLD := hide hD.1
  have hms := fun W (hb : Below w.heap.size w W) => MuchState_any A n c ps w.heap.size W hn (h.below hb (Nat.le_refl _))
  cases hmuch : muchS ps
  · rw [hmuch] at hms
    have HMS := hide hms
    obtain ⟨hl60, hlen2⟩ := muchS_len hmuch
    clear hms hmuch
    have hn' : n ≤ 60 := by have := HL.out; omega
    have HRI := hide (fun W (hb : Below w.heap.size w W) => mRight_any A n c ps w.heap.size W hb.size (by omega) (h.below hb (Nat.le_refl _)) hks)
    have HLEN2 := hide hlen2
    have HMD := hide (fun W (hb : Below w.heap.size w W) => Much_any L nl lc ds w.heap.size W hb.size hnl (hD.below hb (Nat.le_refl _)))
    clear hlen2
    go_enter Tryz.func3, Tryz.ntmps3
    go_wp2_with (go_at_call 4; refine (HMS.out w (Below.refl _ _)).mono ?_; rintro e w1 ⟨rfl, hw1⟩; have hw2 := hw1.symm; clear hw1; subst hw2)
    refine (HRI.out _ (Below.refl _ _)).mono ?_
    rintro e w2 ⟨b, rfl, hr, hb2⟩
    cases b
    · go_wp2_with (go_at_call 7; refine (tlive_true _).mono ?_; rintro e w99 ⟨rfl, hb99⟩)
      go_ret
      exact ⟨rfl, below_via hb2 hb99 (Below.size hb2)⟩
    · have hR := hr rfl
      clear hr
      by_cases hm40 : m ≤ 40
      · by_cases hno20 : no ≤ 20
        · go_wp2_with fail
          refine (HMD.out _ hb2).mono ?_
          rintro e w5 ⟨rfl, hb5'⟩
          have hb5 := below_via hb2 hb5' hb2.size
          cases hmd : much ds
          · obtain ⟨hl40, hlenD⟩ := much_len hmd
            have HLEND := hide hlenD
            clear hmd hlenD
            have hnl40 : nl ≤ 40 := by have := HLD.out; omega
            go_wp2
            go_loopw [9] (fun i wr => ∃ k : Nat, k ≤ m ∧ i = .int .i64 k ∧ (∀ x ∈ xs.take k, much [dEv x] = false) ∧ Below w.heap.size w wr) (fun i _ => m - (intOf i).toNat)
            case atStart => exact ⟨0, Nat.zero_le _, rfl, by simp, hb5⟩
            case round =>
              obtain ⟨k, hk, rfl, hall, hbw⟩ := hrel
              have HALL := hide hall
              clear hall
              have hz := hbw.size
              by_cases hlt : k < m
              · have hEr := hE.below hbw (Nat.le_refl _)
                obtain ⟨b, o, x, rfl, hb, hkx, hok, _⟩ := hEr.at_ hlt
                have HK := hide hkx
                have hrow := fun W (hb : Below wr.heap.size wr W) => (hEr.below hb hz).row hkx
                obtain ⟨dd, dv, cv⟩ := x
                have hokd : DidOk wr w.heap.size (dEv ⟨dd, dv, cv⟩) := hok
                obtain ⟨⟨A1, n1, m1, e1, p1⟩, ⟨A2, n2, m2, e2, p2⟩⟩ := hok
                dsimp only at e1 e2
                subst e1 e2
                clear p1 p2 hkx
                have q0 := fun (t : In (Below wr.heap.size wr)) => (hrow t.w t.h).2.2.2.1
                have q1 := fun (t : In (Below wr.heap.size wr)) => (hrow t.w t.h).2.2.2.2.1
                have q2 := fun (t : In (Below wr.heap.size wr)) => (hrow t.w t.h).2.2.2.2.2.1
                have q3 := fun (t : In (Below wr.heap.size wr)) => (hrow t.w t.h).2.2.2.2.2.2.1
                have q4 := fun (t : In (Below wr.heap.size wr)) => (hrow t.w t.h).2.2.2.2.2.2.2.1
                have q5 := fun (t : In (Below wr.heap.size wr)) => (hrow t.w t.h).2.2.2.2.2.2.2.2.1
                have q6 := fun (t : In (Below wr.heap.size wr)) => (hrow t.w t.h).2.2.2.2.2.2.2.2.2.1
                have q7 := fun (t : In (Below wr.heap.size wr)) => (hrow t.w t.h).2.2.2.2.2.2.2.2.2.2.1
                have q8 := fun (t : In (Below wr.heap.size wr)) => (hrow t.w t.h).2.2.2.2.2.2.2.2.2.2.2.1
                have q9 := fun (t : In (Below wr.heap.size wr)) => (hrow t.w t.h).2.2.2.2.2.2.2.2.2.2.2.2.1
                have q10 := fun (t : In (Below wr.heap.size wr)) => (hrow t.w t.h).2.2.2.2.2.2.2.2.2.2.2.2.2.1
                have q11 := fun (t : In (Below wr.heap.size wr)) => (hrow t.w t.h).2.2.2.2.2.2.2.2.2.2.2.2.2.2
                dsimp only at q0 q1 q2 q3 q4 q5 q6 q7 q8 q9 q10 q11
                clear hrow hEr
                have s1 : (k : Int) < m := by omega
                have s2 : (0 : Int) ≤ k := by omega
                have HMU := hide (fun (W : World) g (kb : Blk W g 40 (DidV.cells (dEv ⟨dd, .slice A1 n1 m1, .slice A2 n2 m2⟩)).toArray) (hb : Below wr.heap.size wr W) (cc : Nat) =>
                  Much_any (some ⟨g, 0, none⟩) 1 cc [dEv ⟨dd, .slice A1 n1 m1, .slice A2 n2 m2⟩] W.heap.size W (Nat.le_refl _) (by omega) ⟨rfl, by simpa using (Reads.of_blk (n := 1) (size := 13) kb rfl).more (by have := kb.lt; omega), fun y hy => by obtain rfl := List.mem_singleton.1 hy; exact (hokd.below hb hz).more (by have := hb.size; omega)⟩)
                go_wp2
                refine wp_region_in_tail (C := (Below wr.heap.size wr)) 11 (by kernel_rfl) (by kernel_rfl) (Below.refl _ _).drew ?_
                simp only [List.take_succ_cons, List.take_zero, List.drop_succ_cons, List.drop_zero]
                repeat (first | go_big_quiet_step ((fail)) | quiet_step ((fail)))
                refine wpQuiet_nil ?_
                intro _ hw'
                obtain ⟨t, hw''⟩ := hw'
                subst hw''
                have hbt := t.h
                generalize t.w = wt at hbt ⊢
                clear t q0 q1 q2 q3 q4 q5 q6 q7 q8 q9 q10 q11
                go_wp2_with fail
                have hbt0 := below_via hbw hbt hz
                have hba : Below wr.heap.size wr (wt.alloc (.cells (DidV.cells (dEv ⟨dd, .slice A1 n1 m1, .slice A2 n2 m2⟩)).toArray 40)) := hbt.alloc hbt.size _
                refine (HMU.out _ wt.heap.size (Blk.new wt 40 _) hba 1).mono ?_
                rintro e w3 ⟨rfl, hb3⟩
                have hb03 := below_via (below_via hbw hba hz) hb3 (by have := hba.size; have := hbw.size; omega)
                clear hbt hba
                cases hmu : much [dEv ⟨dd, .slice A1 n1 m1, .slice A2 n2 m2⟩]
                · have HM := hide hmu
                  clear hmu
                  go_wp2
                  go_roundw
                  case rel =>
                    refine ⟨k + 1, by omega, by go_num, fun y hy => ?_, hb03⟩
                    rw [take_snoc1 HK.out, List.mem_append, List.mem_singleton] at hy
                    rcases hy with hy | rfl
                    · exact HALL.out y hy
                    · exact HM.out
                  case measure => simp [intOf]; omega
                · clear hmu
                  go_wp2_with (go_at_call 7; refine (tlive_true _).mono ?_; rintro e w99 ⟨rfl, hb99⟩)
                  go_ret
                  exact ⟨rfl, below_via hb03 hb99 (Below.size hb03)⟩
              · obtain rfl : k = m := by omega
                have hall := HALL.out
                rw [List.take_of_length_le (by have := HLE.out; omega)] at hall
                have hX : ∀ x ∈ xs, OpWf x.d.op ∧ x.d.op.data.length ≤ 1000000 ∧ x.d.cell.data.length ≤ 1000000 ∧ wfI x.d.txn := fun x hx => by
                  have h1 := (much_len (hall x hx)).2 (dEv x) (List.mem_singleton.2 rfl)
                  exact ⟨hO x hx, h1.1, h1.2, hT x hx⟩
                have hX1 : ∀ x ∈ xs, OpWf x.d.op := fun x hx => (hX x hx).1
                have H1 := hide (fun W (hb : Below w.heap.size w W) => (Final_any A n c ps D k d xs W (by omega) (by omega) ((h.below hb (Nat.le_refl _)).more hb.size) HLEN2.out ((hE.below hb (Nat.le_refl _)).more hb.size) hR hW hX).mono fun e w' hp => hp.uni)
                have H2 := hide (fun W (hb : Below w.heap.size w W) => (rFinal_any A n c ps D k d xs W (by omega) hnc (by omega) ((h.below hb (Nat.le_refl _)).more hb.size) ((hE.below hb (Nat.le_refl _)).more hb.size) hR hW hX1).mono fun e w' hp => hp.uni)
                have H3 := hide (fun W (hb : Below w.heap.size w W) => (Subset_any A n c ps D O k d no oc xs zs W (by omega) (by omega) (by omega) ((h.below hb (Nat.le_refl _)).more hb.size) HLEN2.out ((hE.below hb (Nat.le_refl _)).more hb.size) ((ho.below hb (Nat.le_refl _)).more hb.size) hR hW hX).mono fun e w' hp => hp.uni)
                have H4 := hide (fun W (hb : Below w.heap.size w W) => (rSubset_any A n c ps D O k d no oc xs zs W (by omega) hnc (by omega) (by omega) ((h.below hb (Nat.le_refl _)).more hb.size) ((hE.below hb (Nat.le_refl _)).more hb.size) ((ho.below hb (Nat.le_refl _)).more hb.size) hR hW hX1).mono fun e w' hp => hp.uni)
                have HK1 := hide (fun W (hb : Below w.heap.size w W) => Kept_any D k d xs W (by omega) ((hE.below hb (Nat.le_refl _)).more hb.size) hT)
                have HK2 := hide (fun W (hb : Below w.heap.size w W) => rKept_any D k d xs w.heap.size W hb.size (by omega) (hE.below hb (Nat.le_refl _)))
                have HW1 := hide (fun W (hb : Below w.heap.size w W) => Without_any L O nl lc no oc ds zs W (by omega) (by omega) ((hD.below hb (Nat.le_refl _)).more hb.size) ((ho.below hb (Nat.le_refl _)).more hb.size) HLEND.out)
                have HW2 := hide (fun W (hb : Below w.heap.size w W) => rWithout_any L O nl lc no oc ds zs w.heap.size W hb.size (by omega) (by omega) (hD.below hb (Nat.le_refl _)) (ho.below hb (Nat.le_refl _)))
                have hkl : (keptL (storiesD (xs.map EvV.d))).length ≤ 1000 := by
                  have h1 := storiesD_len (xs.map EvV.d)
                  have h2 := keptL_len (storiesD (xs.map EvV.d)) (storiesD (xs.map EvV.d)).length
                  rw [List.take_length] at h2
                  rw [List.length_map] at h1
                  have := HLE.out
                  omega
                have hr1 : (resOf (ps.map PairV.d) (finalK xs)).length ≤ 1000 := by
                  have h1 := resOf_len (ps.map PairV.d) (finalK xs)
                  have h2 := didT_len xs (keptL (storiesD (xs.map EvV.d)))
                  have h3 := HLE.out
                  have h4 := HL.out
                  unfold finalK at *
                  rw [List.length_map] at h1
                  omega
                have hr2 : (resOf (ps.map PairV.d) (subK xs zs)).length ≤ 1000 := by
                  have h1 := resOf_len (ps.map PairV.d) (subK xs zs)
                  have h2 := didT_len xs (subL zs (storiesD (xs.map EvV.d)))
                  have h3 := HLE.out
                  have h4 := HL.out
                  unfold subK at *
                  rw [List.length_map] at h1
                  omega
                have hwl : (woV zs ds).length ≤ 1000 := Nat.le_trans (List.length_filter_le _ _) (by have := HLD.out; omega)
                have hwe : woL zs ds = (woV zs ds).map DidV.d := rfl
                have HWE := hide hwe
                clear hall hX hX1 hwe hO hT hR hW hks h hE ho hD
                generalize resOf (ps.map PairV.d) (finalK xs) = R1 at *
                generalize cdOf (ps.map PairV.d) (finalK xs) = C1 at *
                generalize resOf (ps.map PairV.d) (subK xs zs) = R2 at *
                generalize cdOf (ps.map PairV.d) (subK xs zs) = C2 at *
                generalize keptL (storiesD (xs.map EvV.d)) = KL at *
                generalize woL zs ds = WL at *
                generalize woV zs ds = WV at *
                go_wp2_with fail
                refine (H1.out _ hbw).mono ?_
                rintro e w11 ⟨A1, c1, y1, rfl, he1, hP1, hb11⟩
                have hc11 := below_via hbw hb11 hz
                have HE1 := hide he1
                clear he1
                go_wp2_with fail
                refine (H2.out _ hc11).mono ?_
                rintro e w12 ⟨A2, c2, y2, rfl, he2, hP2, hb12⟩
                have hc12 := below_via hc11 hb12 hc11.size
                have HE2 := hide he2
                clear he2
                go_wp2_with fail
                refine (H3.out _ hc12).mono ?_
                rintro e w13 ⟨A3, c3, y3, rfl, he3, hP3, hb13⟩
                have hc13 := below_via hc12 hb13 hc12.size
                have HE3 := hide he3
                clear he3
                go_wp2_with fail
                refine (H4.out _ hc13).mono ?_
                rintro e w14 ⟨A4, c4, y4, rfl, he4, hP4, hb14⟩
                have hc14 := below_via hc13 hb14 hc13.size
                have HE4 := hide he4
                clear he4 H1 H2 H3 H4
                have b114 := below_via (below_via hb12 hb13 hb12.size) hb14 (Nat.le_trans hb12.size hb13.size)
                have b214 := below_via hb13 hb14 hb13.size
                have HS1 := hide (mSame_true A1 A2 R1.length c1 c2 y1 y2 w14.heap.size w14 (Nat.le_refl _) (by omega) ((hP1.below b114 (Nat.le_refl _)).more b114.size) ((hP2.below b214 (Nat.le_refl _)).more b214.size) (HE1.out.trans HE2.out.symm))
                have HS2 := hide (fun W (hb : Below w14.heap.size w14 W) => mSame_true A3 A4 R2.length c3 c4 y3 y4 w14.heap.size W hb.size (by omega) (((hP3.below hb14 (Nat.le_refl _)).more hb14.size).below hb (Nat.le_refl _)) (hP4.below hb (Nat.le_refl _)) (HE3.out.trans HE4.out.symm))
                clear hP1 hP2 hP3 hP4
                go_wp2_with (first
                  | (go_at_call 13; (with_reducible refine (tcode_any _ _).mono ?_); rintro e w17 ⟨rfl, hw3⟩; subst hw3)
                  | (go_at_call 12; (with_reducible refine HS1.out.mono ?_); rintro e w15 ⟨rfl, hb15⟩; have hc15 := below_via hc14 hb15 hc14.size)
                  | (go_at_call 12; (with_reducible refine (HS2.out _ hb15).mono ?_); rintro e w16 ⟨rfl, hb16⟩; have hc16 := below_via hc15 hb16 hc15.size))
                refine (HK1.out _ hc16).mono ?_
                rintro e w17 ⟨A7, c7, rfl, hk7, hb17⟩
                have hc17 := below_via hc16 hb17 hc16.size
                go_wp2_with fail
                refine (HK2.out _ hc17).mono ?_
                rintro e w18 ⟨A8, c8, rfl, hk8, hb18⟩
                have hc18 := below_via hc17 hb18 hc17.size
                have HSL := hide (SameList_true A7 A8 KL.length c7 c8 KL w18.heap.size w18 (by omega) ((hk7.below hb18 (Nat.le_refl _)).more hb18.size) hk8 (Nat.le_refl _))
                clear hk7 hk8
                go_wp2_with fail
                refine HSL.out.mono ?_
                rintro e w19 ⟨rfl, hb19⟩
                have hc19 := below_via hc18 hb19 hc18.size
                go_wp2_with fail
                refine (HW1.out _ hc19).mono ?_
                rintro e w20 ⟨v9, done, rfl, hrow, hdd, hb20⟩
                have hc20 := below_via hc19 hb20 hc19.size
                obtain ⟨A9, c9, rfl, _, _, _, hR9, _⟩ := own_slice hrow.1
                have hdl : done.length = WV.length := by
                  have h1 := congrArg List.length hdd
                  rw [HWE.out, List.length_map, List.length_map] at h1
                  exact h1
                have hD9 : Dids w20 w20.heap.size A9 done.length done := ⟨rfl, hR9, fun y hy => ⟨(hrow.2 y hy).1.bytes, (hrow.2 y hy).2.bytes⟩⟩
                have HDE := hide (hdd.trans HWE.out)
                rw [hdl] at hD9 ⊢
                clear hdd hrow hR9 hdl
                go_wp2_with fail
                refine (HW2.out _ hc20).mono ?_
                rintro e w21 ⟨A10, c10, rfl, _, hD10, hb21⟩
                have hc21 := below_via hc20 hb21 hc20.size
                have HSD := hide (SameDid_true A9 A10 WV.length c9 c10 done WV w21.heap.size w21 (Nat.le_refl _) (by omega) ((hD9.below hb21 (Nat.le_refl _)).more hb21.size) hD10 HDE.out)
                clear hD9 hD10
                go_wp2_with fail
                refine HSD.out.mono ?_
                rintro e w22 ⟨rfl, hb22⟩
                have hc22 := below_via hc21 hb22 hc21.size
                go_wp2_with (go_at_call 7; refine (tlive_true _).mono ?_; rintro e w99 ⟨rfl, hb99⟩)
                go_ret
                exact ⟨rfl, below_via hc22 hb99 (Below.size hc22)⟩
          · clear hmd
            go_wp2_with (go_at_call 7; refine (tlive_true _).mono ?_; rintro e w99 ⟨rfl, hb99⟩)
            go_ret
            exact ⟨rfl, below_via hb5 hb99 (Below.size hb5)⟩
        · go_wp2_with (go_at_call 7; refine (tlive_true _).mono ?_; rintro e w99 ⟨rfl, hb99⟩)
          go_ret
          exact ⟨rfl, below_via hb2 hb99 (Below.size hb2)⟩
      · go_wp2_with (go_at_call 7; refine (tlive_true _).mono ?_; rintro e w99 ⟨rfl, hb99⟩)
        go_ret
        exact ⟨rfl, below_via hb2 hb99 (Below.size hb2)⟩
  · rw [hmuch] at hms
    have HMS := hide hms
    clear hms hmuch
    go_enter Tryz.func3, Tryz.ntmps3
    go_wp2_with (first
      | (go_at_call 4; refine (HMS.out _ (Below.refl _ _)).mono ?_; rintro e w1 ⟨rfl, hw1⟩; have hw2 := hw1.symm; clear hw1; subst hw2)
      | (go_at_call 7; refine (tlive_true _).mono ?_; rintro e w2 ⟨rfl, hb2⟩))
    go_ret
    exact ⟨rfl, hb2⟩
end Go.Proofs.YteidmdnhkgcnoaaGreat
