/-
  THE LAW's WALK: moneyerlaw34.SerialChecks returns true, whatever it is given.
-/
import Derived.Test.YtkhpkclkjklccaaGreatDoorHH
import Derived.Test.YtkhpkclkjklccaaGreatDoorWK
import Derived.Test.YtkhpkclkjklccaaGreatDoorWL
import Derived.Test.YtkhpkclkjklccaaGreatDoorQin
namespace Go.Proofs.YtkhpkclkjklccaaGreatDoor
open Go.RowKit

def dEv (x : EvV) : DidV := ⟨⟨0, x.d.op, x.d.err, x.d.cell⟩, x.dv, x.cv⟩

set_option maxHeartbeats 4000000 in
set_option maxRecDepth 100000 in
theorem SerialChecks_true (A D : Option Addr) (n c m d : Nat) (ps : List PairV) (xs : List EvV) (w : World) (hn : n ≤ 9223372036854775807) (hm : m ≤ 9223372036854775807) (hnc : n ≤ c) (h : Pairs w w.heap.size A n ps) (hE : Evs w w.heap.size D m xs) (hks : ∀ x ∈ ps, x.d.key.size ≤ 9223372036854775807) (hW : WfS (ps.map PairV.d)) (hO : ∀ x ∈ xs, OpWf x.d.op) (hT : ∀ x ∈ xs, wfI x.d.txn) (ht : Tab w) (hg : 0 < w.heap.size) :
    Calls Tryz.prog 3 #[.slice A n c, .slice D m d] w fun e w' => e = .returned (.bool true) ∧ Below w.heap.size w w' := by
  have HL := hide h.1
  have HLE := hide hE.1
  have HE := hide hE
  have hms := fun W (hb : Below w.heap.size w W) => MuchState_any A n c ps w.heap.size W hn (h.below hb (Nat.le_refl _))
  cases hmuch : muchS ps
  · rw [hmuch] at hms
    have HMS := hide hms
    obtain ⟨hl60, hlen2⟩ := muchS_len hmuch
    clear hms hmuch
    have hn' : n ≤ 60 := by have := HL.out; omega
    have HRI := hide (fun W (hb : Below w.heap.size w W) => mRight_any A n c ps w.heap.size W hb.size (by omega) (h.below hb (Nat.le_refl _)) hks)
    have HLEN2 := hide hlen2
    clear hlen2
    go_enter Tryz.func3, Tryz.ntmps3
    go_wp2_with (go_at_call 4; refine (HMS.out w (Below.refl _ _)).mono ?_; rintro e w1 ⟨rfl, hw1⟩; have hw2 := hw1.symm; clear hw1; subst hw2)
    refine (HRI.out _ (Below.refl _ _)).mono ?_
    rintro e w2 ⟨b, rfl, hr, hb2⟩
    cases b
    · go_wp2_with (go_at_call 6; refine (live_true _ (ht.below hb2 hg) (by have := Below.size hb2; omega)).mono ?_; rintro e w9 ⟨rfl, hb9⟩)
      go_ret
      exact ⟨rfl, below_via hb2 hb9 (Below.size hb2)⟩
    · have hR := hr rfl
      clear hr
      by_cases hm40 : m ≤ 40
      · go_wp2
        go_loopw [5] (fun i wr => ∃ k : Nat, k ≤ m ∧ i = .int .i64 k ∧ (∀ x ∈ xs.take k, much [dEv x] = false) ∧ Below w.heap.size w wr) (fun i _ => m - (intOf i).toNat)
        case atStart => exact ⟨0, Nat.zero_le _, rfl, by simp, hb2⟩
        case round =>
          obtain ⟨k, hk, rfl, hall, hbw⟩ := hrel
          have HALL := hide hall
          clear hall
          have hz := hbw.size
          by_cases hlt : k < m
          · have hEr := hE.below hbw (Nat.le_refl _)
            obtain ⟨b, o, x, rfl, hb, hkx, hok, _⟩ := hEr.at_ hlt
            have HK := hide hkx
            have hrow := fun W (hb : Below wr.heap.size wr W) => (hEr.below hb hz).row hkx
            obtain ⟨dd, dv, cv⟩ := x
            have hokd : DidOk wr w.heap.size (dEv ⟨dd, dv, cv⟩) := hok
            obtain ⟨⟨A1, n1, m1, e1, p1⟩, ⟨A2, n2, m2, e2, p2⟩⟩ := hok
            dsimp only at e1 e2
            subst e1 e2
            clear p1 p2 hkx
            have q0 := fun (t : In (Below wr.heap.size wr)) => (hrow t.w t.h).2.2.2.1
            have q1 := fun (t : In (Below wr.heap.size wr)) => (hrow t.w t.h).2.2.2.2.1
            have q2 := fun (t : In (Below wr.heap.size wr)) => (hrow t.w t.h).2.2.2.2.2.1
            have q3 := fun (t : In (Below wr.heap.size wr)) => (hrow t.w t.h).2.2.2.2.2.2.1
            have q4 := fun (t : In (Below wr.heap.size wr)) => (hrow t.w t.h).2.2.2.2.2.2.2.1
            have q5 := fun (t : In (Below wr.heap.size wr)) => (hrow t.w t.h).2.2.2.2.2.2.2.2.1
            have q6 := fun (t : In (Below wr.heap.size wr)) => (hrow t.w t.h).2.2.2.2.2.2.2.2.2.1
            have q7 := fun (t : In (Below wr.heap.size wr)) => (hrow t.w t.h).2.2.2.2.2.2.2.2.2.2.1
            have q8 := fun (t : In (Below wr.heap.size wr)) => (hrow t.w t.h).2.2.2.2.2.2.2.2.2.2.2.1
            have q9 := fun (t : In (Below wr.heap.size wr)) => (hrow t.w t.h).2.2.2.2.2.2.2.2.2.2.2.2.1
            have q10 := fun (t : In (Below wr.heap.size wr)) => (hrow t.w t.h).2.2.2.2.2.2.2.2.2.2.2.2.2.1
            have q11 := fun (t : In (Below wr.heap.size wr)) => (hrow t.w t.h).2.2.2.2.2.2.2.2.2.2.2.2.2.2
            dsimp only at q0 q1 q2 q3 q4 q5 q6 q7 q8 q9 q10 q11
            clear hrow hEr
            have s1 : (k : Int) < m := by omega
            have s2 : (0 : Int) ≤ k := by omega
            have HMU := hide (fun (W : World) g (kb : Blk W g 38 (DidV.cells (dEv ⟨dd, .slice A1 n1 m1, .slice A2 n2 m2⟩)).toArray) (hb : Below wr.heap.size wr W) (cc : Nat) =>
              Much_any (some ⟨g, 0, none⟩) 1 cc [dEv ⟨dd, .slice A1 n1 m1, .slice A2 n2 m2⟩] W.heap.size W (Nat.le_refl _) (by omega) ⟨rfl, by simpa using (Reads.of_blk (n := 1) (size := 13) kb rfl).more (by have := kb.lt; omega), fun y hy => by obtain rfl := List.mem_singleton.1 hy; exact (hokd.below hb hz).more (by have := hb.size; omega)⟩)
            go_wp2
            refine wp_region_in_tail (C := (Below wr.heap.size wr)) 11 (by kernel_rfl) (by kernel_rfl) (Below.refl _ _).drew ?_
            simp only [List.take_succ_cons, List.take_zero, List.drop_succ_cons, List.drop_zero]
            repeat (first | go_big_quiet_step ((fail)) | quiet_step ((fail)))
            refine wpQuiet_nil ?_
            intro _ hw'
            obtain ⟨t, hw''⟩ := hw'
            subst hw''
            have hbt := t.h
            generalize t.w = wt at hbt ⊢
            clear t q0 q1 q2 q3 q4 q5 q6 q7 q8 q9 q10 q11
            go_wp2_with fail
            have hbt0 := below_via hbw hbt hz
            have hba : Below wr.heap.size wr (wt.alloc (.cells (DidV.cells (dEv ⟨dd, .slice A1 n1 m1, .slice A2 n2 m2⟩)).toArray 38)) := hbt.alloc hbt.size _
            refine (HMU.out _ wt.heap.size (Blk.new wt 38 _) hba 1).mono ?_
            rintro e w3 ⟨rfl, hb3⟩
            have hb03 := below_via (below_via hbw hba hz) hb3 (by have := hba.size; have := hbw.size; omega)
            clear hbt hba
            cases hmu : much [dEv ⟨dd, .slice A1 n1 m1, .slice A2 n2 m2⟩]
            · have HM := hide hmu
              clear hmu
              go_wp2
              go_roundw
              case rel =>
                refine ⟨k + 1, by omega, by go_num, fun y hy => ?_, hb03⟩
                rw [take_snoc1 HK.out, List.mem_append, List.mem_singleton] at hy
                rcases hy with hy | rfl
                · exact HALL.out y hy
                · exact HM.out
              case measure => simp [intOf]; omega
            · clear hmu
              go_wp2_with (go_at_call 6; refine (live_true _ (ht.below hb03 hg) (by have := Below.size hb03; omega)).mono ?_; rintro e w9 ⟨rfl, hb9⟩)
              go_ret
              exact ⟨rfl, below_via hb03 hb9 (Below.size hb03)⟩
          · obtain rfl : k = m := by omega
            have hall := HALL.out
            rw [List.take_of_length_le (by have := HLE.out; omega)] at hall
            have hX : ∀ x ∈ xs, OpWf x.d.op ∧ x.d.op.data.length ≤ 1000000 ∧ x.d.cell.data.length ≤ 1000000 ∧ wfI x.d.txn := fun x hx => by
              have h1 := (much_len (hall x hx)).2 (dEv x) (List.mem_singleton.2 rfl)
              exact ⟨hO x hx, h1.1, h1.2, hT x hx⟩
            have HS := hide (sCheck_any A n c ps D k d xs w.heap.size wr hz (by omega) (by omega) (h.below hbw (Nat.le_refl _)) HLEN2.out (hE.below hbw (Nat.le_refl _)) hR hW hX (ht.below hbw hg) (by omega))
            have HR := hide (fun W (hb : Below w.heap.size w W) => rCheck_any A n c ps D k d xs w.heap.size W hb.size (by omega) hnc (by omega) (h.below hb (Nat.le_refl _)) (hE.below hb (Nat.le_refl _)) hR hW (fun x hx => (hX x hx).1))
            have HC1 := hide (fun W (hb : Below w.heap.size w W) => sCommitted_any D k d xs w.heap.size W hb.size (by omega) (hE.below hb (Nat.le_refl _)))
            have HC2 := hide (fun W (hb : Below w.heap.size w W) => rCommitted_any D k d xs w.heap.size W hb.size (by omega) (hE.below hb (Nat.le_refl _)))
            have hcl : (comL xs).length ≤ 1000 := Nat.le_trans (comL_len xs) (by have := HLE.out; omega)
            unfold ChkPost at HS HR
            clear hall hX hR
            generalize checkD (ps.map PairV.d) (didD xs) (comL xs) = N at *
            obtain ⟨N1, N2⟩ := N
            dsimp only at HS HR
            go_wp2_with fail
            refine HS.out.mono ?_
            rintro e w3 ⟨rfl, hb3⟩
            have hb03 := below_via hbw hb3 hz
            go_wp2_with fail
            refine (HR.out _ hb03).mono ?_
            rintro e w4 ⟨rfl, hb4⟩
            have hb04 := below_via hb03 hb4 hb03.size
            go_wp2_with (go_at_call 10; refine (code_any _ _).mono ?_; rintro e w5 ⟨rfl, hw1⟩; have hw2 := hw1.symm; clear hw1; subst hw2)
            refine (HC1.out _ hb04).mono ?_
            rintro e w5 ⟨A5, c5, rfl, hz5, hb5⟩
            have hb05 := below_via hb04 hb5 hb04.size
            go_wp2_with fail
            refine (HC2.out _ hb05).mono ?_
            rintro e w6 ⟨A6, c6, rfl, hz6, hb6⟩
            have hb06 := below_via hb05 hb6 hb05.size
            have HSL := hide (SameList_true A5 A6 (comL xs).length c5 c6 (comL xs) w6.heap.size w6 (by omega) ((hz5.below hb6 (Nat.le_refl _)).more hb6.size) hz6 (Nat.le_refl _))
            clear hz5 hz6
            go_wp2_with fail
            refine HSL.out.mono ?_
            rintro e w7 ⟨rfl, hb7⟩
            have hb07 := below_via hb06 hb7 hb06.size
            go_wp2_with (go_at_call 6; refine (live_true _ (ht.below hb07 hg) (by have := Below.size hb07; omega)).mono ?_; rintro e w9 ⟨rfl, hb9⟩)
            go_ret
            exact ⟨rfl, below_via hb07 hb9 (Below.size hb07)⟩
      · go_wp2_with (go_at_call 6; refine (live_true _ (ht.below hb2 hg) (by have := Below.size hb2; omega)).mono ?_; rintro e w9 ⟨rfl, hb9⟩)
        go_ret
        exact ⟨rfl, below_via hb2 hb9 (Below.size hb2)⟩
  · rw [hmuch] at hms
    have HMS := hide hms
    clear hms hmuch
    go_enter Tryz.func3, Tryz.ntmps3
    go_wp2_with (first
      | (go_at_call 4; refine (HMS.out w (Below.refl _ _)).mono ?_; rintro e w1 ⟨rfl, hw1⟩; have hw2 := hw1.symm; clear hw1; subst hw2)
      | (go_at_call 6; refine (live_true _ ht hg).mono ?_; rintro e w2 ⟨rfl, hb2⟩))
    go_ret
    exact ⟨rfl, hb2⟩
end Go.Proofs.YtkhpkclkjklccaaGreatDoor
