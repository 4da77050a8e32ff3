/-
  Texts of this claim, joined: ED, EH, EK, EI.
-/
import Derived.Test.YtnanlaefehaifaaGreatAu21
set_option maxHeartbeats 6400000
set_option maxRecDepth 100000
namespace Go.Proofs.YtnanlaefehaifaaGreat
open Go.RowKit Go.Maps
theorem rPut_any (A : Option Addr) (N c at_ : Nat) (bs : List UInt8) (A2 : Option Addr) (m c2 : Nat) (cs : List UInt8) (B : Nat) (w : World) (hB : B ≤ w.heap.size) (hN : N = bs.length) (hNc : N ≤ c) (hcm : c ≤ maxLen) (hN2 : N ≤ 100000) (hm : m = cs.length) (hat : at_ + m < N)
    (hr : Reads w B 1 A N (bs.map byteV)) (hr2 : Reads w B 1 A2 m (cs.map byteV)) :
    Calls Tryz.prog 20 #[.slice A N c, .int .i64 (at_ : Nat), .slice A2 m c2] w fun e w' => ∃ A' c', e = .returned (.slice A' N c') ∧ OwnB w' w.heap.size (.slice A' N c') (putB bs at_ cs) ∧ Below w.heap.size w w' := by
  obtain ⟨b, o, rfl, _, _⟩ := hr.plain (by omega) (by omega)
  have hrt := hr.take (k := at_) (by omega)
  have hrd := hr.cut (k := at_ + m) (cap := c) (by omega) (by omega)
  rw [if_neg (by omega), Option.map_some, add_plain, Nat.mul_one] at hrd
  rw [Nat.mul_one] at hrt
  have HT := hide (show Reads w B 1 (some ⟨b, o, none⟩) at_ ((bs.take at_).map byteV) by rw [List.map_take]; exact hrt)
  have HD := hide (show Reads w B 1 (some ⟨b, o + (at_ + m), none⟩) (N - (at_ + m)) ((bs.drop (at_ + m)).map byteV) by rw [List.map_drop]; exact hrd)
  have HR2 := hide hr2
  have HTL := hide (show at_ = (bs.take at_).length by rw [List.length_take]; omega)
  have HDL := hide (show N - (at_ + m) = (bs.drop (at_ + m)).length by rw [List.length_drop]; omega)
  have HM := hide hm
  have HPB := hide (show putB bs at_ cs = (bs.take at_ ++ cs) ++ bs.drop (at_ + m) by unfold putB; rw [hm])
  have g1 : (at_ : Int) ≤ c := by omega
  have g2 : (0 : Int) ≤ at_ := by omega
  have g3 : ((at_ : Int) + (m : Int)) ≤ N := by omega
  have g4 : ¬ (c = at_ + m) := by omega
  have g5 : ¬ (c ≤ at_ + m) := by omega
  unfold maxLen at hcm
  clear hr hr2 hrt hrd hm hN
  rw [HPB.out]
  go_enter Tryz.func20, Tryz.ntmps20
  go_wp2_with (at_builtin; refine heldG ?_)
  refine unheldG ?_
  at_builtin
  have ha : Below w.heap.size w (w.alloc (.cells #[] 5)) := (Below.refl _ _).alloc (Nat.le_refl _) _
  have ho0 : OwnB (w.alloc (.cells #[] 5)) w.heap.size (.slice (some ⟨w.heap.size, 0, none⟩) 0 0) [] := own_new (cur := []) (Blk.new w 5 #[]) (Nat.le_refl _) rfl (Nat.le_refl _) (by unfold maxLen; omega) rfl rfl
  refine wpList_app rfl _ _ rfl w.heap.size _ 0 _ [] rfl ho0 rfl B _ at_ _ (bs.take at_) rfl (HT.out.below ha hB) HTL.out (by omega) w ha ha.size ?_
  intro A4 c4 W4 ho4 hb4 hg4
  rw [Nat.zero_add] at ho4 ⊢
  have HO4 := hide ho4
  have HB4 := hide hb4
  clear ho4 hb4 hg4 ha ho0
  go_wp2_with (at_builtin; refine heldG ?_)
  refine unheldG ?_
  at_builtin
  refine wpList_app rfl _ _ rfl w.heap.size _ at_ _ _ rfl HO4.out (by rw [List.nil_append]; exact HTL.out) B _ m _ cs rfl (HR2.out.below HB4.out hB) HM.out (by omega) w HB4.out HB4.out.size ?_
  intro A5 c5 W5 ho5 hb5 hg5
  have HO5 := hide ho5
  have HB5 := hide hb5
  clear ho5 hb5 hg5
  go_wp2_with (at_builtin; refine heldG ?_)
  refine unheldG ?_
  at_builtin
  refine wpList_app rfl _ _ rfl w.heap.size _ (at_ + m) _ _ rfl HO5.out (by rw [List.nil_append, List.length_append, ← HTL.out, ← HM.out]) B _ (N - (at_ + m)) _ (bs.drop (at_ + m)) rfl (HD.out.below HB5.out hB) HDL.out (by omega) w HB5.out HB5.out.size ?_
  intro A6 c6 W6 ho6 hb6 hg6
  rw [show at_ + m + (N - (at_ + m)) = N by omega] at ho6 ⊢
  rw [List.nil_append] at ho6
  have HO6 := hide ho6
  have HB6 := hide hb6
  clear ho6 hb6 hg6
  go_wp2
  go_ret
  exact ⟨A6, c6, rfl, HO6.out, HB6.out⟩
theorem own_rd {W : World} {B m : Nat} {A : Option Addr} {c : Nat} {bs : List UInt8} (h : OwnB W B (.slice A m c) bs) (hm : m = bs.length) : Reads W W.heap.size 1 A m (bs.map byteV) ∧ m ≤ c ∧ c ≤ maxLen := by
  unfold OwnB at h
  rw [← hm] at h
  obtain ⟨A', c', e, h1, h2, _⟩ := own_slice h
  injection e with e1 _ e2
  subst e1 e2
  exact ⟨Reads.of_own h, h1, h2⟩
theorem rNew_any (no : Int) (w : World) : Calls Tryz.prog 60 #[.int .i64 no] w fun e w' => ∃ A' c', e = .returned (.slice A' 512 c') ∧ OwnB w' w.heap.size (.slice A' 512 c') (newB no) ∧ Below w.heap.size w w' := by
  go_enter Tryz.func60, Tryz.ntmps60
  go_wp2_with fail
  refine (zeros_any 512 (by omega) w).mono ?_
  rintro e w1 ⟨⟨A1, c1, rfl, ho1⟩, hb1⟩
  have HO1 := hide ho1
  have HB1 := hide hb1
  clear ho1 hb1
  go_wp2_with fail
  refine (bytesR_any 2 no (by omega) w1).mono ?_
  rintro e w2 ⟨⟨A2, c2, rfl, ho2⟩, hb2⟩
  obtain ⟨r1, n1, m1⟩ := own_rd (HO1.out.via hb2) (by rw [List.length_replicate])
  obtain ⟨r2, _, _⟩ := own_rd ho2 (by rw [beB_length])
  have HP := hide (show Calls Tryz.prog 20 #[.slice A1 512 c1, .int .i64 12, .slice A2 2 c2] w2 _ from rPut_any A1 512 c1 12 _ A2 2 c2 _ w2.heap.size w2 (Nat.le_refl _) (by rw [List.length_replicate]) n1 m1 (by omega) (by rw [beB_length]) (by omega) r1 r2)
  have HB2 := hide (HB1.out.trans (hb2.mono HB1.out.size))
  clear ho2 hb2 r1 n1 m1 r2
  go_wp2_with fail
  refine HP.out.mono ?_
  rintro e w3 ⟨A3, c3, rfl, ho3, hb3⟩
  have HO3 := hide (ho3.low HB2.out.size)
  have HB3 := hide (HB2.out.trans (hb3.mono HB2.out.size))
  clear ho3 hb3 HP
  go_wp2
  go_ret
  exact ⟨A3, c3, rfl, HO3.out, HB3.out⟩
theorem note_any (x : ConfD) (w : World) : Calls Tryz.prog 62 #[confV x] w fun e w' => ∃ A' c', e = .returned (.slice A' 8 c') ∧ OwnB w' w.heap.size (.slice A' 8 c') (noteC x) ∧ Below w.heap.size w w' := by
  obtain ⟨xb, xp, xf, xc, xl⟩ := x
  unfold confV
  dsimp only
  go_enter Tryz.func62, Tryz.ntmps62
  go_upto_region 1 with (fail)
  refine gen1 (R := fun W => Code.wp _ _ _ _ W) (fun W1 k1 hb1 hz1 => ?_)
  have K1 := hide k1
  have HB1 := hide hb1
  have c0 : W1.cell? ⟨w.heap.size, 0, none⟩ = some (.int .i64 xb) := k1.cell 0
  have lc := k1.lt
  clear k1 hb1
  go_wp2_with (first
    | (go_at_call 61; refine (bytesR_any 1 xb (by omega) _).mono ?_; rintro e Wa ⟨⟨Aa, ca, rfl, hoa⟩, hba⟩)
    | (at_builtin; refine heldG ?_))
  refine unheldG ?_
  at_builtin
  have ha1 : Below W1.heap.size W1 (W1.alloc (.cells #[.int .u8 0] 5)) := (Below.refl _ _).alloc (Nat.le_refl _) _
  have hba' : Below W1.heap.size W1 Wa := ha1.trans (hba.mono ha1.size)
  have ho1 : OwnB Wa w.heap.size (.slice (some ⟨W1.heap.size, 0, none⟩) 1 1) [0] := OwnB.via (one_own (x := 0) (Blk.new W1 5 #[.int .u8 0]) HB1.out.size) hba
  have hla : Below w.heap.size w Wa := HB1.out.trans (hba'.mono HB1.out.size)
  refine wpList_app rfl _ _ rfl w.heap.size _ 1 _ [0] rfl ho1 rfl Wa.heap.size Aa 1 ca (beB 1 xb) rfl (own_rd hoa (by rw [beB_length])).1 (by rw [beB_length]) (by omega) w hla hla.size ?_
  intro An cn Wn hon hbn hgn
  have hkn := (Blk.via hba' K1.out).keepB ho1 (by decide) hgn
  clear hla hoa hba hba' ha1 hgn c0 lc
  have HK2 := hide hkn
  have HO2 := hide hon
  have HB2 := hide hbn
  clear hkn hon hbn ho1
  have c0 : Wn.cell? ⟨w.heap.size, 1, none⟩ = some (.int .i64 (xp)) := (HK2).out.cell 1
  have lc := (HK2).out.lt
  go_wp2_with (first
    | (go_at_call 61; refine (bytesR_any 2 (xp) (by omega) _).mono ?_; rintro e Wa ⟨⟨Aa, ca, rfl, hoa⟩, hba⟩)
    | (at_builtin; refine heldG ?_))
  refine unheldG ?_
  at_builtin
  have hla : Below w.heap.size w Wa := (HB2).out.trans (hba.mono (HB2).out.size)
  refine wpList_app rfl _ _ rfl w.heap.size _ 2 _ _ rfl ((HO2).out.via hba) (by simp [beB_length]) Wa.heap.size Aa 2 ca (beB 2 (xp)) rfl (own_rd hoa (by rw [beB_length])).1 (by rw [beB_length]) (by omega) w hla hla.size ?_
  intro An cn Wn hon hbn hgn
  have hkn := (Blk.via hba (HK2).out).keepB ((HO2).out.via hba) (by decide) hgn
  clear hla hoa hba hgn c0 lc
  have HK3 := hide hkn
  have HO3 := hide hon
  have HB3 := hide hbn
  clear hkn hon hbn
  have c0 : Wn.cell? ⟨w.heap.size, 2, none⟩ = some (.int .i64 (xf)) := (HK3).out.cell 2
  have lc := (HK3).out.lt
  go_wp2_with (first
    | (go_at_call 61; refine (bytesR_any 1 (xf) (by omega) _).mono ?_; rintro e Wa ⟨⟨Aa, ca, rfl, hoa⟩, hba⟩)
    | (at_builtin; refine heldG ?_))
  refine unheldG ?_
  at_builtin
  have hla : Below w.heap.size w Wa := (HB3).out.trans (hba.mono (HB3).out.size)
  refine wpList_app rfl _ _ rfl w.heap.size _ 4 _ _ rfl ((HO3).out.via hba) (by simp [beB_length]) Wa.heap.size Aa 1 ca (beB 1 (xf)) rfl (own_rd hoa (by rw [beB_length])).1 (by rw [beB_length]) (by omega) w hla hla.size ?_
  intro An cn Wn hon hbn hgn
  have hkn := (Blk.via hba (HK3).out).keepB ((HO3).out.via hba) (by decide) hgn
  clear hla hoa hba hgn c0 lc
  have HK4 := hide hkn
  have HO4 := hide hon
  have HB4 := hide hbn
  clear hkn hon hbn
  have c0 : Wn.cell? ⟨w.heap.size, 3, none⟩ = some (.int .i64 (xc)) := (HK4).out.cell 3
  have lc := (HK4).out.lt
  go_wp2_with (first
    | (go_at_call 61; refine (bytesR_any 1 (xc) (by omega) _).mono ?_; rintro e Wa ⟨⟨Aa, ca, rfl, hoa⟩, hba⟩)
    | (at_builtin; refine heldG ?_))
  refine unheldG ?_
  at_builtin
  have hla : Below w.heap.size w Wa := (HB4).out.trans (hba.mono (HB4).out.size)
  refine wpList_app rfl _ _ rfl w.heap.size _ 5 _ _ rfl ((HO4).out.via hba) (by simp [beB_length]) Wa.heap.size Aa 1 ca (beB 1 (xc)) rfl (own_rd hoa (by rw [beB_length])).1 (by rw [beB_length]) (by omega) w hla hla.size ?_
  intro An cn Wn hon hbn hgn
  have hkn := (Blk.via hba (HK4).out).keepB ((HO4).out.via hba) (by decide) hgn
  clear hla hoa hba hgn c0 lc
  have HK5 := hide hkn
  have HO5 := hide hon
  have HB5 := hide hbn
  clear hkn hon hbn
  have c0 : Wn.cell? ⟨w.heap.size, 4, none⟩ = some (.int .i64 (xl)) := (HK5).out.cell 4
  have lc := (HK5).out.lt
  go_wp2_with (first
    | (go_at_call 61; refine (bytesR_any 2 (xl) (by omega) _).mono ?_; rintro e Wa ⟨⟨Aa, ca, rfl, hoa⟩, hba⟩)
    | (at_builtin; refine heldG ?_))
  refine unheldG ?_
  at_builtin
  have hla : Below w.heap.size w Wa := (HB5).out.trans (hba.mono (HB5).out.size)
  refine wpList_app rfl _ _ rfl w.heap.size _ 6 _ _ rfl ((HO5).out.via hba) (by simp [beB_length]) Wa.heap.size Aa 2 ca (beB 2 (xl)) rfl (own_rd hoa (by rw [beB_length])).1 (by rw [beB_length]) (by omega) w hla hla.size ?_
  intro An cn Wn hon hbn hgn
  have hkn := (Blk.via hba (HK5).out).keepB ((HO5).out.via hba) (by decide) hgn
  clear hla hoa hba hgn c0 lc
  have HO6 := hide hon
  have HB6 := hide hbn
  clear hkn hon hbn
  go_wp2
  go_ret
  exact ⟨An, cn, rfl, HO6.out, HB6.out⟩
theorem confNew_any (x : ConfD) (h0 : 1 ≤ x.b) (h1 : x.b ≤ 16) (w : World) : Calls Tryz.prog 21 #[confV x] w fun e w' => ∃ A' c', e = .returned (.slice A' 512 c') ∧ OwnB w' w.heap.size (.slice A' 512 c') (confP x) ∧ Below w.heap.size w w' := by
  have HNT := hide (fun W => note_any x W)
  have HNI := hide (show (Tryz.prog.info? 56).map (·.size) = some 5 from info_confK)
  have HL1 := hide (show (putB (newB 0) 14 (beB 2 (x.b + 1))).length = 512 by rw [putB_length (by rw [newB_length, beB_length]; omega), newB_length])
  have HCP := hide (show confP x = putB (putB (newB 0) 14 (beB 2 (x.b + 1))) 16 (noteC x) from rfl)
  obtain ⟨xb, xp, xf, xc, xl⟩ := x
  unfold confV at *
  dsimp only at *
  go_enter Tryz.func21, Tryz.ntmps21
  go_upto_region 1 with (fail)
  refine gen1 (R := fun W => Code.wp _ _ _ _ W) (fun W1 k1 hb1 hz1 => ?_)
  have HKC := hide k1
  have HB1 := hide hb1
  clear k1 hb1
  refine wp_region_inv [fun v W => ∃ A c, v = .slice A 512 c ∧ OwnB W W1.heap.size (.slice A 512 c) (newB 0), fun v _ => v = .pointer (some ⟨w.heap.size, 0, none⟩), fun v _ => v = .int .i64 xb, fun v _ => v = .int .i64 (xb + 1), fun v W => ∃ A c, v = .slice A 2 c ∧ OwnB W W1.heap.size (.slice A 2 c) (beB 2 (xb + 1)), fun v W => ∃ A c, v = .slice A 512 c ∧ OwnB W W1.heap.size (.slice A 512 c) (putB (newB 0) 14 (beB 2 (xb + 1))), fun v W => ∃ A c, v = .slice A 512 c ∧ OwnB W W1.heap.size (.slice A 512 c) (putB (newB 0) 14 (beB 2 (xb + 1)))] (by kernel_rfl) (by kernel_rfl) (by kernel_rfl) ?st ?steps ?fin
  case st =>
    intro i v W W' hWW h
    match i with
    | 1 | 2 | 3 => exact h
    | 0 => obtain ⟨A, c, h1, h2⟩ := h; exact ⟨A, c, h1, h2.via hWW⟩
    | 4 => obtain ⟨A, c, h1, h2⟩ := h; exact ⟨A, c, h1, h2.via hWW⟩
    | 5 => obtain ⟨A, c, h1, h2⟩ := h; exact ⟨A, c, h1, h2.via hWW⟩
    | 6 => obtain ⟨A, c, h1, h2⟩ := h; exact ⟨A, c, h1, h2.via hWW⟩
    | (i + 7) => exact h
  case steps =>
    simp only [stepsI]
    refine ⟨?_, ?_, ?_, ?_, ?_, ?_, ?_, trivial⟩
    · intro f W hbW hdp
      simp only [fS, Nat.reduceAdd]
      go_wp2_with fail
      refine (rNew_any 0 W).mono ?_
      rintro e w' ⟨A, c, rfl, ho, hb⟩
      go_wp2
      exact ⟨rfl, _, rfl, ⟨A, c, rfl, ho.low hbW.size⟩, hb⟩
    · intro f W hbW hdp
      simp only [fS, Nat.reduceAdd]
      go_wp2
      exact ⟨rfl, _, rfl, rfl, Below.refl _ _⟩
    · intro f W hbW hdp
      have e1 : f 1 = .pointer (some ⟨w.heap.size, 0, none⟩) := hdp ⟨1, .data⟩ (mfl (by simp) rfl)
      have q0 : W.cell? ⟨w.heap.size, 0, none⟩ = some (.int .i64 xb) := (Blk.via hbW HKC.out).cell 0
      simp only [fS, Nat.reduceAdd, e1]
      go_wp2
      exact ⟨rfl, _, rfl, rfl, Below.refl _ _⟩
    · intro f W hbW hdp
      have e2 : f 2 = .int .i64 xb := hdp ⟨2, .data⟩ (mfl (by simp) rfl)
      simp only [fS, Nat.reduceAdd, e2]
      go_wp2
      exact ⟨rfl, _, rfl, rfl, Below.refl _ _⟩
    · intro f W hbW hdp
      have e3 : f 3 = .int .i64 (xb + 1) := hdp ⟨3, .data⟩ (mfl (by simp) rfl)
      simp only [fS, Nat.reduceAdd, e3]
      go_wp2_with fail
      refine (bytesR_any 2 (xb + 1) (by omega) W).mono ?_
      rintro e w' ⟨⟨A, c, rfl, ho⟩, hb⟩
      go_wp2
      exact ⟨rfl, _, rfl, ⟨A, c, rfl, ho.low hbW.size⟩, hb⟩
    · intro f W hbW hdp
      have e0 : ∃ A c, (f 0) = .slice A 512 c ∧ OwnB W W1.heap.size (.slice A 512 c) (newB 0) := hdp ⟨0, .data⟩ (mfl (by simp) rfl)
      have e4 : ∃ A c, (f 4) = .slice A 2 c ∧ OwnB W W1.heap.size (.slice A 2 c) (beB 2 (xb + 1)) := hdp ⟨4, .data⟩ (mfl (by simp) rfl)
      simp only [fS, Nat.reduceAdd]
      obtain ⟨A1, c1, e0', o1⟩ := e0
      obtain ⟨A2, c2, e4', o2⟩ := e4
      simp only [e0', e4']
      obtain ⟨r1, n1, m1⟩ := own_rd o1 (by rw [newB_length])
      obtain ⟨r2, _, _⟩ := own_rd o2 (by rw [beB_length])
      have HP := hide (show Calls Tryz.prog 20 #[.slice A1 512 c1, .int .i64 14, .slice A2 2 c2] W _ from rPut_any A1 512 c1 14 _ A2 2 c2 _ W.heap.size W (Nat.le_refl _) (by rw [newB_length]) n1 m1 (by omega) (by rw [beB_length]) (by omega) r1 r2)
      go_wp2_with fail
      refine HP.out.mono ?_
      rintro e w' ⟨A, c, rfl, ho, hb⟩
      go_wp2
      exact ⟨rfl, _, rfl, ⟨A, c, rfl, ho.low hbW.size⟩, hb⟩
    · intro f W hbW hdp
      have e5 : ∃ A c, (f 5) = .slice A 512 c ∧ OwnB W W1.heap.size (.slice A 512 c) (putB (newB 0) 14 (beB 2 (xb + 1))) := hdp ⟨5, .data⟩ (mfl (by simp) rfl)
      simp only [fS, Nat.reduceAdd]
      obtain ⟨A1, c1, e5', o1⟩ := e5
      simp only [e5']
      go_wp2
      exact ⟨rfl, _, rfl, ⟨A1, c1, rfl, o1⟩, Below.refl _ _⟩
  case fin =>
    intro f W hbW hA
    have a6 : ∃ A c, (f 6) = .slice A 512 c ∧ OwnB W W1.heap.size (.slice A 512 c) (putB (newB 0) 14 (beB 2 (xb + 1))) := hA 6 (by simp)
    show wpList Tryz.prog #[] (Exit.then _ _) [] _ _
    simp only [fS, Nat.reduceAdd]
    clear hA
    obtain ⟨A1, c1, e6', o1⟩ := a6
    simp only [e6']
    have HO1 := hide o1
    have HBW := hide hbW
    have kc := Blk.via hbW HKC.out
    have q0 : W.cell? ⟨w.heap.size, 0, none⟩ = some (.int .i64 xb) := kc.cell 0
    have q1 : W.cell? ⟨w.heap.size, 1, none⟩ = some (.int .i64 xp) := kc.cell 1
    have q2 : W.cell? ⟨w.heap.size, 2, none⟩ = some (.int .i64 xf) := kc.cell 2
    have q3 : W.cell? ⟨w.heap.size, 3, none⟩ = some (.int .i64 xc) := kc.cell 3
    have q4 : W.cell? ⟨w.heap.size, 4, none⟩ = some (.int .i64 xl) := kc.cell 4
    have ql := kc.lt
    have hzW := hbW.size
    clear e6' o1 hbW kc
    go_wp2_with fail
    refine (HNT.out W).mono ?_
    rintro e W2 ⟨A2, c2, rfl, ho2, hb2⟩
    obtain ⟨r1, n1, m1⟩ := own_rd (HO1.out.via hb2) (by rw [HL1.out])
    obtain ⟨r2, _, _⟩ := own_rd ho2 (by rw [noteC_length])
    have HP := hide (show Calls Tryz.prog 20 #[.slice A1 512 c1, .int .i64 16, .slice A2 8 c2] W2 _ from rPut_any A1 512 c1 16 _ A2 8 c2 _ W2.heap.size W2 (Nat.le_refl _) (by rw [HL1.out]) n1 m1 (by omega) (by rw [noteC_length]) (by omega) r1 r2)
    have HB2 := hide (HB1.out.trans ((HBW.out.trans (hb2.mono HBW.out.size)).mono HB1.out.size))
    clear ho2 hb2 r1 n1 m1 r2 q0 q1 q2 q3 q4 ql
    go_wp2_with fail
    refine HP.out.mono ?_
    rintro e W3 ⟨A3, c3, rfl, ho3, hb3⟩
    have HO3 := hide (ho3.low HB2.out.size)
    have HB3 := hide (HB2.out.trans (hb3.mono HB2.out.size))
    clear ho3 hb3 HP
    go_wp2
    go_ret
    exact ⟨A3, c3, rfl, HO3.out, HB3.out⟩
end Go.Proofs.YtnanlaefehaifaaGreat
namespace Go.Proofs.YtnanlaefehaifaaGreat
open Go.RowKit Go.Maps
def AllS (W : World) (L : Nat) (v : Value) (ps : List (List UInt8)) : Prop := ∃ vs : List Value, W.ownsRow L 33 1 v ps.length vs ∧ ∀ (i : Nat) (p : List UInt8), ps[i]? = some p → p.length = 512 ∧ ∃ (A' : Option Addr) (c' : Nat), vs[i]? = some (.slice A' 512 c') ∧ OwnB W L (.slice A' 512 c') p
theorem AllS.len {W : World} {L : Nat} {v : Value} {ps : List (List UInt8)} (h : AllS W L v ps) : ∃ (A : Option Addr) (c : Nat), v = .slice A ps.length c := by
  obtain ⟨vs, h1, _⟩ := h
  obtain ⟨A, c, h3, _⟩ := own_slice h1
  exact ⟨A, c, h3⟩
theorem AllS.keep {W W' : World} {L : Nat} {v : Value} {ps : List (List UInt8)} (h : AllS W L v ps) (hk : ∀ q t cur, L ≤ q → Blk W q t cur → t = 5 ∨ t = 33 → Blk W' q t cur) : AllS W' L v ps := by
  obtain ⟨vs, h1, h2⟩ := h
  refine ⟨vs, row_keep h1 fun q hq => ?_, fun i p hp => ?_⟩
  · obtain ⟨cur, e⟩ := row_obj h1 hq
    exact (show W'.heap[q]? = _ from hk q _ _ (World.ownsRow.lt h1 q hq).1 e (.inr rfl)).trans e.symm
  · obtain ⟨g1, A', c', g2, g3⟩ := h2 i p hp
    refine ⟨g1, A', c', g2, row_keep g3 fun q hq => ?_⟩
    obtain ⟨cur, e⟩ := row_obj g3 hq
    exact (show W'.heap[q]? = _ from hk q _ _ (World.ownsRow.lt g3 q hq).1 e (.inl rfl)).trans e.symm
theorem AllS.via {W W' : World} {L : Nat} {v : Value} {ps : List (List UInt8)} (h : AllS W L v ps) (hb : Below W.heap.size W W') : AllS W' L v ps := h.keep fun _ _ _ _ k _ => Blk.via hb k
theorem DevS.other {w : World} {d g m n : Nat} {fs : Bool} {fuse : Int} {lv : Value} {stale head sure : Int} {safe : List (List UInt8)} {k : Nat} {mf : Int → Option Value} {wr : Nat → List (List UInt8)} (h : DevS w d g m n fs fuse lv stale head sure safe k mf wr) {q : Nat} {t : TypeId} {cur : Array Value} (k' : Blk w q t cur) (h1 : t ≠ 107) (h2 : t ≠ 63) : ¬ DevB d g m mf q := by
  obtain ⟨o, kd⟩ := h.kd
  rintro (e | e | e | ⟨i, e⟩)
  · exact k'.ne_ kd h1 e
  · exact k'.ne_ h.kg h2 e
  · exact h.hm.ne k' e
  · obtain ⟨cur2, e2⟩ := row_obj (h.fw i) e
    exact k'.ne_ (show Blk w q 63 cur2 from e2) h2 rfl
theorem AllS.dev {W W' : World} {L : Nat} {v : Value} {ps : List (List UInt8)} (h : AllS W L v ps) {d g m n : Nat} {fs : Bool} {fuse : Int} {lv : Value} {stale head sure : Int} {safe : List (List UInt8)} {k : Nat} {mf : Int → Option Value} {wr : Nat → List (List UInt8)} (hd : DevS W d g m n fs fuse lv stale head sure safe k mf wr) (T : Turn (DevB d g m mf) W W') : AllS W' L v ps :=
  h.keep fun q t cur _ k' ht => T.blk k' (hd.other k' (by rcases ht with rfl | rfl <;> decide) (by rcases ht with rfl | rfl <;> decide))
theorem AllS.pgs {W : World} {L : Nat} {A : Option Addr} {n c : Nat} {ps : List (List UInt8)} (h : AllS W L (.slice A n c) ps) (hn : n = ps.length) : PgsR W W.heap.size A n ps := by
  obtain ⟨vs, h1, h2⟩ := h
  subst hn
  refine ⟨rfl, fun p hp => ?_, vs, Reads.of_own h1, fun i p hp => ?_⟩
  · obtain ⟨i, hi⟩ := List.getElem?_of_mem hp
    exact (h2 i p hi).1
  · obtain ⟨g1, A', c', g2, g3⟩ := h2 i p hp
    obtain ⟨r1, r2, r3⟩ := own_rd g3 g1.symm
    exact ⟨A', c', g2, r2, r3, r1⟩
theorem AllS.snoc {W W' : World} {L : Nat} {v v' : Value} {ps : List (List UInt8)} {p : List UInt8} {A' : Option Addr} {c' : Nat} {vs : List Value} (h1 : W.ownsRow L 33 1 v ps.length vs) (h2 : ∀ (i : Nat) (p : List UInt8), ps[i]? = some p → p.length = 512 ∧ ∃ (A' : Option Addr) (c' : Nat), vs[i]? = some (.slice A' 512 c') ∧ OwnB W L (.slice A' 512 c') p)
    (hl : p.length = 512) (hp : OwnB W L (.slice A' 512 c') p) (ho : W'.ownsRow L 33 1 v' (ps.length + 1) (vs ++ [.slice A' 512 c'])) (hg : W.grownBy W' v.ownBlock) : AllS W' L v' (ps ++ [p]) ∧ OwnB W' L (.slice A' 512 c') p := by
  have hby : ∀ {x : Value} {bs : List UInt8}, OwnB W L x bs → OwnB W' L x bs := fun hb => row_keep hb fun q hq => hg.block q (World.ownsRow.lt hb q hq).2 (fun e => by
    obtain ⟨cur, e1⟩ := row_obj hb hq
    exact row_ne h1 (show Blk W q 5 cur from e1) (by decide) e)
  have hvl : vs.length = ps.length := by have := h1.1; simpa using this
  refine ⟨⟨_, by rw [List.length_append]; exact ho, fun i q hq => ?_⟩, hby hp⟩
  by_cases hi : i < ps.length
  · rw [List.getElem?_append_left hi] at hq
    obtain ⟨g1, A2, c2, g2, g3⟩ := h2 i q hq
    exact ⟨g1, A2, c2, by rw [List.getElem?_append_left (by omega)]; exact g2, hby g3⟩
  · have hil : i < (ps ++ [p]).length := (List.getElem?_eq_some_iff.1 hq).1
    rw [List.length_append, List.length_singleton] at hil
    obtain rfl : i = ps.length := by omega
    rw [List.getElem?_append_right (Nat.le_refl _), Nat.sub_self] at hq
    injection hq with hq
    subst hq
    exact ⟨hl, A', c', by rw [List.getElem?_append_right (by omega), hvl, Nat.sub_self]; rfl, hby hp⟩
theorem AllS.one {W : World} {L g : Nat} {A : Option Addr} {c : Nat} {p : List UInt8} (k : Blk W g 33 #[.slice A 512 c]) (hg : L ≤ g) (hl : p.length = 512) (hp : OwnB W L (.slice A 512 c) p) : AllS W L (.slice (some ⟨g, 0, none⟩) 1 1) [p] := by
  refine ⟨[.slice A 512 c], own_new (cur := [.slice A 512 c]) k hg rfl (Nat.le_refl _) (by unfold maxLen; omega) rfl rfl, fun i q hq => ?_⟩
  have hi := (List.getElem?_eq_some_iff.1 hq).1
  rw [List.length_singleton] at hi
  obtain rfl : i = 0 := by omega
  injection hq with hq
  subst hq
  exact ⟨hl, A, c, rfl, hp⟩
def wrF (first : List UInt8) (ql : List (List UInt8)) (i : Nat) : Nat → List (List UInt8) := fun no => if no = 0 then [first] else if no ≤ i then [ql.getD (no - 1) []] else []
theorem wrF_next (first : List UInt8) (ql : List (List UInt8)) (i : Nat) : (fun no => if no = i + 1 then wrF first ql i (i + 1) ++ [ql.getD i []] else wrF first ql i no) = wrF first ql (i + 1) := by
  funext no
  unfold wrF
  by_cases h : no = i + 1
  · subst h
    rw [if_pos rfl, if_neg (by omega), if_neg (by omega), if_neg (by omega), if_pos (Nat.le_refl _)]
    rfl
  · rw [if_neg h]
    by_cases h0 : no = 0
    · rw [if_pos h0, if_pos h0]
    · rw [if_neg h0, if_neg h0]
      by_cases h1 : no ≤ i
      · rw [if_pos h1, if_pos (by omega)]
      · rw [if_neg h1, if_neg (by omega)]
theorem wrF_len (first : List UInt8) (ql : List (List UInt8)) (i no : Nat) : (wrF first ql i no).length ≤ 1 := by
  unfold wrF
  split
  · exact Nat.le_refl _
  · split
    · exact Nat.le_refl _
    · exact Nat.zero_le _
theorem wrF_pg (safe : List (List UInt8)) (first : List UInt8) (ql : List (List UInt8)) (i no : Nat) (h : 1 ≤ no) (hi : no ≤ i) : pgOf safe (wrF first ql i) no = ql.getD (no - 1) [] := by
  have e : wrF first ql i no = [ql.getD (no - 1) []] := by unfold wrF; rw [if_neg (by omega), if_pos hi]
  unfold pgOf
  rw [e]
  rfl
theorem PoolC.none {W : World} {p d l n : Nat} {f : Int} {pg : Nat → List UInt8} (k : Blk W p 209 (poolC d l f (.slice none 0 0))) (hf : 0 ≤ f) : PoolC W p d l f n pg [] :=
  ⟨⟨⟨_, k, World.ownsRow_nil _ _ _ _⟩, fun x hx => by cases hx⟩, hf, fun x hx => by cases hx⟩
theorem StoreI.opened {W : World} {b d g m n l ml p t : Nat} {x : ConfD} {safe : List (List UInt8)} {k : Nat} {mf : Int → Option Value} {wr : Nat → List (List UInt8)} (hP : PartsS W b d x l ml p t) (hD : DevS W d g m n false 0 nilS 0 0 0 safe k mf wr) (hf : 0 ≤ x.f) :
    StoreI ⟨b, d, g, m, n, p, l, x, 0, safe, k, mf, wr⟩ W := by
  obtain ⟨k1, k2, k3, kb⟩ := hP.kb
  exact ⟨hD, ⟨[], PoolC.none hP.kp hf⟩, ⟨k1, k2, k3, t, kb⟩, ⟨_, _, _, _, _, hP.kl⟩⟩
end Go.Proofs.YtnanlaefehaifaaGreat
namespace Go.Proofs.YtnanlaefehaifaaGreat
open Go.RowKit
theorem eqF_self {P : Program} (d : Nat) (xs : Array Value) (w : World) : ∀ fs : List Field, (∀ f ∈ fs, f.name ≠ "_" ∧ P.underlying f.type = some (.int .i64) ∧ ∃ v : Int, xs[f.offset]? = some (.int .i64 v)) → (Op.eqFields (d + 1) xs xs fs).run P w = .ok true w
  | [], _ => rfl
  | f :: fs, h => by
    obtain ⟨h1, h2, v, h3⟩ := h f List.mem_cons_self
    have hp : P.plainKey f.type = true := by unfold Program.plainKey; rw [h2]
    have ih := eqF_self d xs w fs (fun g hg => h g (List.mem_cons_of_mem _ hg))
    unfold Op.eqFields
    rw [if_pos h1]
    simp only [Sem.run_bind, run_part_plain w hp h3, run_equalIn_int w d f.type .i64 .i64 _ _ h2, Result.andThen_ok]
    simpa using ih
theorem tal_fields : (Tryz.prog.fieldsOf 72).toList.all (fun f => f.name != "_" && (f.type == 3 && Nat.blt f.offset 5)) = true := by kernel_rfl
theorem tal_under : Tryz.prog.underlying 72 = some (.struct (Tryz.prog.fieldsOf 72)) := by kernel_rfl
theorem run_eqTal (a b c d e : Int) (w : World) : (Op.equalIn 10000 72 (.agg #[.int .i64 a, .int .i64 b, .int .i64 c, .int .i64 d, .int .i64 e]) (.agg #[.int .i64 a, .int .i64 b, .int .i64 c, .int .i64 d, .int .i64 e])).run Tryz.prog w = .ok true w := by
  have h := run_equalIn_struct (P := Tryz.prog) w 9999 72 #[.int .i64 a, .int .i64 b, .int .i64 c, .int .i64 d, .int .i64 e] #[.int .i64 a, .int .i64 b, .int .i64 c, .int .i64 d, .int .i64 e] tal_under (by kernel_rfl)
  rw [show (10000 : Nat) = 9999 + 1 from rfl, h]
  refine eqF_self 9998 _ w _ (fun f hf => ?_)
  have hu := Tryz.underlying3
  have hq := List.all_eq_true.1 tal_fields f hf
  simp only [Bool.and_eq_true, bne_iff_ne, ne_eq, beq_iff_eq, Nat.blt_eq] at hq
  obtain ⟨h1, h2, h3⟩ := hq
  refine ⟨h1, by rw [h2]; exact hu, ?_⟩
  generalize f.offset = o at h3 ⊢
  have ho : o = 0 ∨ o = 1 ∨ o = 2 ∨ o = 3 ∨ o = 4 := by omega
  rcases ho with rfl | rfl | rfl | rfl | rfl
  · exact ⟨a, rfl⟩
  · exact ⟨b, rfl⟩
  · exact ⟨c, rfl⟩
  · exact ⟨d, rfl⟩
  · exact ⟨e, rfl⟩
end Go.Proofs.YtnanlaefehaifaaGreat
namespace Go.Proofs.YtnanlaefehaifaaGreat
open Go.RowKit Go.Maps Go.Shelf
theorem code38_any (x : Int) (w : World) : Calls Tryz.prog 27 #[.int .i64 x] w fun e w' => e = .returned (.int .i64 x) ∧ w' = w := by
  go_enter Tryz.func27, Tryz.ntmps27
  go_wp2
  go_ret
  exact ⟨rfl, rfl⟩
def sealI (ql : List (List UInt8)) (i : Nat) : Bool := (List.range i).all (fun j => rightP (ql.getD j []) ((j : Nat) + 1 : Int))
theorem sealI_next (ql : List (List UInt8)) (i : Nat) : sealI ql (i + 1) = (sealI ql i && rightP (ql.getD i []) ((i : Nat) + 1 : Int)) := by
  unfold sealI
  rw [List.range_succ, List.all_append]
  simp
theorem sealI_all (first : List UInt8) (ql : List (List UInt8)) (m : Nat) : sealI ql m = sealedL (first :: ql) (m + 1) := by
  unfold sealI sealedL from1
  rw [List.all_map]
  rfl
theorem info_arrU : (Tryz.prog.info? 33).map (fun i => (i.zero, i.size, i.bytes)) = some (some (.slice none 0 0), 1, 24) := by kernel_rfl
theorem auditTells_any (hlive : ∀ W, Calls Tryz.prog 19 #[] W fun e w' => e = .returned (.bool true) ∧ Below W.heap.size W w') (x : ConfD) (A : Option Addr) (m c : Nat) (pl : List (List UInt8)) (no : Int) (B : Nat) (w : World) (hB : B ≤ w.heap.size) (hm : m = pl.length) (hl : ∀ p ∈ pl, p.length = 512) (hr : Reads w B 512 A m (pl.flatMap (fun p => p.map byteV))) :
    Calls Tryz.prog 4 #[confV x, .slice A m c, .int .i64 no] w fun e w' => e = .returned (.bool true) ∧ Below w.heap.size w w' := by
  have HLV := hide hlive
  have HRC := hide (fun W => rightConf_any x W)
  have HR := hide hr
  have HML := hide hm
  have HPL := hide hl
  clear hlive hr hm hl
  obtain ⟨xb, xp, xf, xc, xl⟩ := x
  unfold confV at *
  dsimp only at *
  go_enter Tryz.func4, Tryz.ntmps4
  go_upto_region 1 with (fail)
  refine gen1 (R := fun W => Code.wp _ _ _ _ W) (fun W1 kc hb1 hz1 => ?_)
  obtain ⟨gc, hgc⟩ : ∃ g, g = w.heap.size := ⟨_, rfl⟩
  rw [← hgc] at kc ⊢
  have KC := hide kc
  have HB1 := hide hb1
  have q0 : W1.cell? ⟨gc, 0, none⟩ = some (.int .i64 xb) := kc.cell 0
  have q1 : W1.cell? ⟨gc, 1, none⟩ = some (.int .i64 xp) := kc.cell 1
  have q2 : W1.cell? ⟨gc, 2, none⟩ = some (.int .i64 xf) := kc.cell 2
  have q3 : W1.cell? ⟨gc, 3, none⟩ = some (.int .i64 xc) := kc.cell 3
  have q4 : W1.cell? ⟨gc, 4, none⟩ = some (.int .i64 xl) := kc.cell 4
  have ql := kc.lt
  clear kc hb1 hgc
  cases hok : confOk ⟨xb, xp, xf, xc, xl⟩ with
  | false =>
    rw [hok] at HRC
    clear hok
    go_wp2_with (first
      | (go_at_call 18; refine (HRC.out _).mono ?_; rintro e Wr ⟨rfl, hbr⟩; have q0 := (Blk.via hbr KC.out).cell 0; have q1 := (Blk.via hbr KC.out).cell 1; have ql := (Blk.via hbr KC.out).lt)
      | (go_at_call 19; refine (HLV.out _).mono ?_; rintro e Wl ⟨rfl, hbl⟩))
    go_ret
    exact ⟨rfl, HB1.out.trans ((hbr.trans (hbl.mono hbr.size)).mono HB1.out.size)⟩
  | true =>
    rw [hok] at HRC
    have hcf := of_decide_eq_true (show decide _ = true from hok)
    have HOK := hide hok
    clear hok
    by_cases h30 : 30 < xp
    · clear hcf
      go_wp2_with (first
        | (go_at_call 18; refine (HRC.out _).mono ?_; rintro e Wr ⟨rfl, hbr⟩; have q0 := (Blk.via hbr KC.out).cell 0; have q1 := (Blk.via hbr KC.out).cell 1; have ql := (Blk.via hbr KC.out).lt)
        | (go_at_call 19; refine (HLV.out _).mono ?_; rintro e Wl ⟨rfl, hbl⟩))
      go_ret
      exact ⟨rfl, HB1.out.trans ((hbr.trans (hbl.mono hbr.size)).mono HB1.out.size)⟩
    by_cases hlb : (m : Int) < xb
    · clear hcf
      go_wp2_with (first
        | (go_at_call 18; refine (HRC.out _).mono ?_; rintro e Wr ⟨rfl, hbr⟩; have q0 := (Blk.via hbr KC.out).cell 0; have q1 := (Blk.via hbr KC.out).cell 1; have ql := (Blk.via hbr KC.out).lt)
        | (go_at_call 19; refine (HLV.out _).mono ?_; rintro e Wl ⟨rfl, hbl⟩))
      go_ret
      exact ⟨rfl, HB1.out.trans ((hbr.trans (hbl.mono hbr.size)).mono HB1.out.size)⟩
    by_cases hge : xp ≤ (m : Int)
    · clear hcf
      go_wp2_with (first
        | (go_at_call 18; refine (HRC.out _).mono ?_; rintro e Wr ⟨rfl, hbr⟩; have q0 := (Blk.via hbr KC.out).cell 0; have q1 := (Blk.via hbr KC.out).cell 1; have ql := (Blk.via hbr KC.out).lt)
        | (go_at_call 19; refine (HLV.out _).mono ?_; rintro e Wl ⟨rfl, hbl⟩))
      go_ret
      exact ⟨rfl, HB1.out.trans ((hbr.trans (hbl.mono hbr.size)).mono HB1.out.size)⟩
    obtain ⟨n, rfl⟩ : ∃ n : Nat, xp = n := ⟨xp.toNat, by dsimp only at hcf; omega⟩
    obtain ⟨b, rfl⟩ : ∃ b : Nat, xb = b := ⟨xb.toNat, by dsimp only at hcf; omega⟩
    have hn30 : n ≤ 30 := by omega
    have hbm : b ≤ m := by omega
    have hmn : m < n := by omega
    have hb1' : 1 ≤ b := by dsimp only at hcf; omega
    have hb16 : b ≤ 16 := by dsimp only at hcf; omega
    have hf4 : 0 ≤ xf := by dsimp only at hcf; omega
    have HCN := hide (fun W => confNew_any ⟨b, n, xf, xc, xl⟩ (by dsimp only; omega) (by dsimp only; omega) W)
    have HCF := hide hcf
    clear hcf
    unfold confV at HCN
    dsimp only at HCN
    go_upto_region 3 with (go_at_call 18; refine (HRC.out _).mono ?_; rintro e Wr ⟨rfl, hbr⟩; have q0 := (Blk.via hbr KC.out).cell 0; have q1 := (Blk.via hbr KC.out).cell 1; have ql := (Blk.via hbr KC.out).lt)
    have KC2 := hide (Blk.via hbr KC.out)
    have HB2 := hide (HB1.out.trans (hbr.mono HB1.out.size))
    clear q0 q1 q2 q3 q4 ql hbr KC HB1 h30 hlb hge
    have q1 : Wr.cell? ⟨gc, 1, none⟩ = some (.int .i64 n) := KC2.out.cell 1
    have ql := KC2.out.lt
    go_wp2_with fail
    refine (devNewN_any n (by omega) (by omega) Wr).mono ?_
    rintro e W2 ⟨d, g, mm, rfl, kd, kg, hmf, hd, hg, hmm, hb2⟩
    have hz2 := HB2.out.size
    have HS2 := hide (DevS.fresh kd kg hmf)
    have HDL := hide (show ∀ q, DevB d g mm (fun _ => none) q → w.heap.size ≤ q from by
      rintro q (h | h | h | ⟨i, h⟩)
      · omega
      · omega
      · omega
      · cases h)
    have KC3 := hide (Blk.via hb2 KC2.out)
    have HB3 := hide (HB2.out.trans (hb2.mono HB2.out.size))
    clear kd kg hmf hd hg hmm hb2 q1 ql KC2 HB2 hz2
    have q0 : W2.cell? ⟨gc, 0, none⟩ = some (.int .i64 b) := KC3.out.cell 0
    have q1 : W2.cell? ⟨gc, 1, none⟩ = some (.int .i64 n) := KC3.out.cell 1
    have q2 : W2.cell? ⟨gc, 2, none⟩ = some (.int .i64 xf) := KC3.out.cell 2
    have q3 : W2.cell? ⟨gc, 3, none⟩ = some (.int .i64 xc) := KC3.out.cell 3
    have q4 : W2.cell? ⟨gc, 4, none⟩ = some (.int .i64 xl) := KC3.out.cell 4
    have ql := KC3.out.lt
    have s1 : (0 : Int) ≤ (m : Int) + 1 := by omega
    have s2 : (m : Int) + 1 < 256 := by omega
    go_wp2_with fail
    refine (HCN.out W2).mono ?_
    rintro e W3 ⟨A3, c3, rfl, ho3, hb3⟩
    have HO3 := hide ho3
    have HB4 := hide (HB3.out.trans (hb3.mono HB3.out.size))
    have HS3 := hide (HS2.out.via hb3)
    have KC4 := hide (Blk.via hb3 KC3.out)
    have hz3 := HB3.out.size
    clear ho3 hb3 q0 q1 q2 q3 q4 ql KC3 HB3 HS2
    go_wp2_with fail
    refine gen1 (R := fun W => Calls Tryz.prog 20 _ W _) (fun W4 kS hb4 hz4 => ?_)
    have ho4 : OwnB W4 W3.heap.size (.slice (some ⟨W3.heap.size, 0, none⟩) 2 2) [0, UInt8.ofNat (m + 1)] := two_own (by rw [show (byteV (UInt8.ofNat (m + 1)) : Value) = .int .u8 ((m : Int) + 1) by have := byteV_ofNat (show m + 1 < 256 by omega); rw [← this]; push_cast; rfl]; exact kS) (Nat.le_refl _)
    obtain ⟨r1, n1, m1⟩ := own_rd (HO3.out.via hb4) (by rw [confP_length])
    obtain ⟨r2, _, _⟩ := own_rd ho4 rfl
    refine (show Calls Tryz.prog 20 #[.slice A3 512 c3, .int .i64 14, .slice (some ⟨W3.heap.size, 0, none⟩) 2 2] W4 _ from rPut_any A3 512 c3 14 _ _ 2 2 _ W4.heap.size W4 (Nat.le_refl _) (by rw [confP_length]) n1 m1 (by omega) rfl (by omega) r1 r2).mono ?_
    rintro e W5 ⟨A5, c5, rfl, ho5, hb5⟩
    have hbb := hb4.trans (hb5.mono hb4.size)
    have hz5 := HB4.out.size
    have HB5 := hide (HB4.out.trans (hbb.mono HB4.out.size))
    have HO5 := hide (show OwnB W5 w.heap.size (.slice A5 512 c5) (firstB ⟨b, n, xf, xc, xl⟩ (m + 1)) from ho5.low (by omega))
    have HS5 := hide (HS3.out.via hbb)
    have KC5 := hide (Blk.via hbb KC4.out)
    have HFL := hide (firstB_length ⟨b, n, xf, xc, xl⟩ (m + 1))
    clear ho4 r1 n1 m1 r2 ho5 hb4 hb5 hbb kS HO3 HB4 HS3 KC4 s1 s2
    have HFR := hide (first_right ⟨b, n, xf, xc, xl⟩ (m + 1))
    have HFM := hide (first_meta ⟨b, n, xf, xc, xl⟩ (m + 1) HOK.out (by dsimp only; omega) (by dsimp only; omega) (by omega))
    obtain ⟨first, hfirst⟩ : ∃ l, l = firstB ⟨b, n, xf, xc, xl⟩ (m + 1) := ⟨_, rfl⟩
    rw [← hfirst] at HO5 HFL HFR HFM
    clear hfirst
    obtain ⟨r1, n1, m1⟩ := own_rd HO5.out HFL.out.symm
    have HSL := hide (sealR_any A5 c5 first W5.heap.size W5 (Nat.le_refl _) n1 HFL.out r1)
    clear r1 n1 m1
    go_wp2_with fail
    refine HSL.out.mono ?_
    rintro e W6 ⟨A6, c6, rfl, ho6, hb6⟩
    have hsl := sealB_length HFL.out
    obtain ⟨r1, n1, m1⟩ := own_rd ho6 hsl.symm
    have HAR := hide (arrayR_any A6 c6 (sealB first) W6.heap.size W6 (Nat.le_refl _) hsl r1)
    have HB6 := hide (HB5.out.trans (hb6.mono HB5.out.size))
    have HO6 := hide (HO5.out.via hb6)
    have HS6 := hide (HS5.out.via hb6)
    have KC6 := hide (Blk.via hb6 KC5.out)
    clear r1 n1 m1 ho6 hb6 HSL HB5 HO5 HS5 KC5
    go_wp2_with fail
    refine HAR.out.mono ?_
    rintro e W7 ⟨rfl, hb7⟩
    have HB7 := hide (HB6.out.trans (hb7.mono HB6.out.size))
    have HO7 := hide (HO6.out.via hb7)
    have HS7 := hide (HS6.out.via hb7)
    have KC7 := hide (Blk.via hb7 KC6.out)
    have HWR := hide (show Calls Tryz.prog 22 #[.pointer (some ⟨d, 0, none⟩), .int .i64 0, pgV (sealB first)] W7 _ from devWrite_any W7 d g mm n _ 0 0 0 _ 0 _ _ 0 (sealB first) 0 HS7.out (by omega) (by omega) (by omega) (by simp) hsl)
    clear hb7 HAR HB6 HO6 HS6 KC6
    go_wp2_with fail
    refine HWR.out.mono ?_
    rintro e W8 ⟨rfl, v8, hs8, ht8, hloc8⟩
    have hz7 := HB7.out.size
    have HDL8 := hide (fun q (hq : DevB d g mm (fun q => if q = ((0 : Nat) : Int) then some v8 else none) q) => (show w.heap.size ≤ q from by
      rcases WroteP.blocks hloc8 q hq with h | h
      · exact HDL.out q h
      · omega))
    have HB8 := hide (ht8.belowT HB7.out HDL.out hz7)
    have HO8 := hide (show OwnB W8 w.heap.size (.slice A5 512 c5) first from row_keep HO7.out (fun q hq => by
      obtain ⟨cur, e1⟩ := row_obj HO7.out hq
      exact ht8.block q (World.ownsRow.lt HO7.out q hq).2 (HS7.out.other (show Blk W7 q 5 cur from e1) (by decide) (by decide))))
    have KC8 := hide (ht8.blk KC7.out (HS7.out.other KC7.out (by decide) (by decide)))
    have HS8 := hide hs8
    clear hs8 ht8 hloc8 HWR HDL HB7 HO7 KC7 HS7 hsl hz7
    obtain ⟨qs, hqs⟩ : ∃ l, l = pl.map sealB := ⟨_, rfl⟩
    have HQL := hide (show qs.length = m by rw [hqs, List.length_map, HML.out])
    have HQA := hide (show ∀ j p, pl[j]? = some p → qs[j]? = some (sealB p) from fun j p hp => by rw [hqs, List.getElem?_map, hp]; rfl)
    have hwr0 : (fun i => if i = 0 then ([] : List (List UInt8)) ++ [sealB first] else []) = wrF (sealB first) qs 0 := by
      funext i
      unfold wrF
      by_cases h : i = 0
      · rw [if_pos h, if_pos h]
        rfl
      · rw [if_neg h, if_neg h, if_neg (by omega)]
    have hs8 := HS8.out
    rw [hwr0] at hs8
    have HS9 := hide hs8
    clear hs8 hwr0 hqs HS8
    go_upto_region 7 with (fail)
    refine gen1 (R := fun W => Code.wp _ _ _ _ W) (fun W9 kA hb9 hz9 => ?_)
    have hz8 := HB8.out.size
    have HA9 := hide (AllS.one kA hz8 HFL.out (HO8.out.via hb9))
    have HSB := hide (HS9.out.via hb9)
    have KC9 := hide (Blk.via hb9 KC8.out)
    have HB9 := hide (HB8.out.trans (hb9.mono hz8))
    obtain ⟨ga, hga⟩ : ∃ g, g = W8.heap.size := ⟨_, rfl⟩
    rw [← hga] at HA9 ⊢
    clear kA hb9 hz9 hz8 HO8 HS9 KC8 HB8 hga
    go_wp2
    go_loopw [9, 10, 11] (fun av sv i wr => ∃ (j k : Nat) (mf : Int → Option Value), j ≤ m ∧ k ≤ j + 1 ∧ i = .int .i64 j ∧ sv = .bool (sealI qs j) ∧ Hid (AllS wr w.heap.size av (first :: qs.take j)) ∧ Hid (DevS wr d g mm n false 0 nilS 0 0 0 (List.replicate n zPg) k mf (wrF (sealB first) qs j)) ∧ Hid (∀ q, DevB d g mm mf q → w.heap.size ≤ q) ∧ Hid (Blk wr gc 56 #[.int .i64 b, .int .i64 n, .int .i64 xf, .int .i64 xc, .int .i64 xl]) ∧ Hid (Below w.heap.size w wr)) (fun _ _ i _ => m - (intOf i).toNat)
    case atStart => exact ⟨0, 1, _, Nat.zero_le _, Nat.le_refl _, rfl, rfl, HA9, HSB, HDL8, KC9, HB9⟩
    case round =>
      obtain ⟨j, k, mf, hj, hk, rfl, rfl, HA, HS, HD, HC, HBW⟩ := hrel
      have hln : (first :: qs.take j).length = j + 1 := by rw [List.length_cons, List.length_take, HQL.out, Nat.min_eq_left hj]
      obtain ⟨A9, c9, rfl⟩ := HA.out.len
      rw [hln] at HA ⊢
      have HLN := hide hln
      clear hln
      by_cases hlt : j < m
      · obtain ⟨p, hp⟩ : ∃ p, pl[j]? = some p := ⟨_, List.getElem?_eq_getElem (by have := HML.out; omega)⟩
        have hpl := HPL.out p (List.mem_of_getElem? hp)
        obtain ⟨bA, oA, rfl, hbA, hcA⟩ := HR.out.plain (by omega) (by omega)
        have hbA' : bA < w.heap.size := by omega
        have HRG := hide (show wr.rangeAt bA (oA + j * 512) (p.map byteV) from fun t v hv => by
          rw [Nat.add_assoc]
          exact (HBW.out.cell (p := ⟨bA, oA + (j * 512 + t), none⟩) hbA').trans (hcA _ _ (flat_pages HPL.out hp t v hv)))
        have HQP := hide (HQA.out j p hp)
        have HPI := hide (show (Tryz.prog.info? 62).map (·.size) = some (p.map byteV).length by rw [List.length_map, hpl]; exact info_arr)
        obtain ⟨X, hX⟩ : ∃ X, X = (p.map byteV).toArray := ⟨_, rfl⟩
        have HPX := hide (show (Tryz.prog.info? 62).map (·.size) = some X.size by rw [hX, pg_size p hpl]; exact info_arr)
        have HXZ := hide (show Tryz.zeroCells62.size = X.size by rw [hX, pg_size p hpl]; rfl)
        have HX1 := hide (show X.all (·.oneCell') = true by rw [hX]; exact row_one p)
        have HX := hide hX
        have HPL1 := hide hpl
        have t1 : (j : Int) < m := by omega
        have t2 : (0 : Int) ≤ j := by omega
        clear hp hpl hcA hbA hX
        go_upto_region 12 with (first
          | (refine wpList_load_mid rfl 62 (.tmp 70) rfl bA (oA + j * 512) rfl (p.map byteV) _ HRG.out Tryz.underlying62 rfl HPI.out ?_; rw [← HX.out])
          | (refine wpList_store_row rfl 62 (.tmp 12) (.tmp 71) rfl wr.heap.size X rfl rfl 62 _ (Blk.new wr _ _) HPX.out HXZ.out HX1.out ?_))
        refine nameW (R := fun W => Code.wp _ _ _ _ W) (fun W10 hW10 => ?_)
        have kx : Blk W10 wr.heap.size 62 X := hW10 ▸ setRow_heap _ wr.heap.size _ _ _ _ (Blk.new wr _ _)
        have hb10 : Below wr.heap.size wr W10 := hW10 ▸ (touch_setRow _ wr.heap.size X).below ((Below.refl wr.heap.size wr).alloc (Nat.le_refl _) _) (Nat.le_refl _)
        obtain ⟨gx, hgx⟩ : ∃ g, g = wr.heap.size := ⟨_, rfl⟩
        rw [← hgx] at kx ⊢
        have HAA := hide (HA.out.via hb10)
        have HSA := hide (HS.out.via hb10)
        have HCA := hide (Blk.via hb10 HC.out)
        have HBA := hide (HBW.out.trans (hb10.mono HBW.out.size))
        have hrx := pg_reads (HX.out ▸ kx) HPL1.out
        have hgl : gx + 1 ≤ W10.heap.size := kx.lt
        have HSL := hide (sealR_any (some ⟨gx, 0, none⟩) 512 p (gx + 1) W10 hgl (Nat.le_refl _) HPL1.out hrx)
        clear hW10 kx hb10 hgx hrx hgl HA HS HC HBW
        go_wp2_with fail
        refine HSL.out.mono ?_
        rintro e W11 ⟨A11, c11, rfl, ho11, hb11⟩
        have hsl := sealB_length HPL1.out
        have hz10 := HBA.out.size
        have HOB := hide (show OwnB W11 w.heap.size (.slice A11 512 c11) (sealB p) from ho11.low hz10)
        have HAB := hide (HAA.out.via hb11)
        have HSB2 := hide (HSA.out.via hb11)
        have HCB := hide (Blk.via hb11 HCA.out)
        have HBB := hide (HBA.out.trans (hb11.mono hz10))
        clear ho11 hb11 HSL HAA HSA HCA HBA hz10
        go_upto_region 13 with (fail)
        go_cut [10] from 74 to 80 (fun s10 wx => s10 = .bool (sealI qs (j + 1)) ∧ Below W11.heap.size W11 wx)
        case first =>
          obtain ⟨r1, n1, m1⟩ := own_rd HOB.out hsl.symm
          have HRR := hide (show Calls Tryz.prog 25 #[.slice A11 512 c11, .int .i64 ((j : Int) + 1)] W11 _ from rRight_any A11 c11 (sealB p) W11.heap.size W11 (Nat.le_refl _) n1 m1 hsl r1 ((j : Int) + 1))
          have HSN := hide (show sealI qs (j + 1) = (sealI qs j && rightP (sealB p) ((j : Int) + 1)) by rw [sealI_next, List.getD_eq_getElem?_getD, HQP.out]; rfl)
          clear r1 n1 m1
          cases hs : sealI qs j with
          | true =>
            rw [hs, Bool.true_and] at HSN
            clear hs
            go_wp2_with (go_at_call 25; refine HRR.out.mono ?_; rintro e w' ⟨rfl, hb'⟩)
            go_meet
            exact ⟨by rw [HSN.out], hb'⟩
          | false =>
            rw [hs, Bool.false_and] at HSN
            clear hs
            go_wp2
            go_meet
            exact ⟨by rw [HSN.out], Below.refl _ _⟩
        case rest =>
          obtain ⟨rfl, hb12⟩ := hcut
          rename World => W12
          have HOC := hide (HOB.out.via hb12)
          have HAC := hide (HAB.out.via hb12)
          have HSC := hide (HSB2.out.via hb12)
          have HCC := hide (Blk.via hb12 HCB.out)
          have HBC := hide (HBB.out.trans (hb12.mono HBB.out.size))
          clear hb12 HOB HAB HSB2 HCB HBB
          go_wp2_with (at_builtin; refine heldG ?_)
          refine unheldG ?_
          at_builtin
          have ha := (Below.refl W12.heap.size W12).alloc (Nat.le_refl _) (.cells #[.slice A11 512 c11] 33)
          obtain ⟨vs, hv1, hv2⟩ := HAC.out.via ha
          rw [HLN.out] at hv1
          obtain ⟨i1, hi, hz0, hz1, hz2⟩ := info_parts info_arrU
          refine wpList_append_any _ rfl _ _ _ rfl w.heap.size 33 i1 _ 1 24 Tryz.underlying66 hi hz0 hz1 hz2 rfl (by omega) _ _ _ rfl hv1 (W12.heap.size + 1) (some ⟨W12.heap.size, 0, none⟩) 1 1 [.slice A11 512 c11] rfl ?c2 ?c3 ?c4 ?c5 ?c6 ?_
          case c2 => exact Reads.of_blk (size := 1) (n := 1) (Blk.new W12 33 #[.slice A11 512 c11]) rfl
          case c3 => simp [Value.oneCell']
          case c4 => unfold maxLen; omega
          case c5 => omega
          case c6 => exact Nat.le_trans HBC.out.size ha.size
          intro v' W13 hown13 hg13 _
          have hbc := HBC.out.trans (ha.mono HBC.out.size)
          have HB13 := hide (hbc.grown hg13 hbc.size (fun q hq => (World.ownsRow.lt hv1 q hq).1))
          have hdn : ∀ q, DevB d g mm mf q → some q ≠ (Value.slice A9 (j + 1) c9).ownBlock := fun q hq e => by
            obtain ⟨cur, e1⟩ := row_obj hv1 e.symm
            exact (HSC.out.via ha).other (show Blk _ q 33 cur from e1) (by decide) (by decide) hq
          have HS13 := hide ((HSC.out.via ha).keep (Turn.of_grown (S := fun q => some q = (Value.slice A9 (j + 1) c9).ownBlock) hg13 (fun _ e => e)) (fun q hq e => hdn q hq e))
          have HC13 := hide ((Blk.via ha HCC.out).grown hg13 (row_ne hv1 (Blk.via ha HCC.out) (by decide)))
          obtain ⟨hA13, hO13⟩ := AllS.snoc (ps := first :: qs.take j) (p := sealB p) (by rw [HLN.out]; exact hv1) hv2 hsl (HOC.out.via ha) (by rw [HLN.out]; exact hown13) hg13
          have HA13 := hide (show AllS W13 w.heap.size v' (first :: qs.take (j + 1)) by
            obtain ⟨q1, q2⟩ := List.getElem?_eq_some_iff.1 HQP.out
            rw [List.take_succ_eq_append_getElem q1, q2]
            exact hA13)
          have HO13 := hide hO13
          clear ha hv1 hv2 hi hz0 hz1 hz2 hown13 hg13 hbc hdn hA13 hO13 HOC HAC HSC HCC HBC
          obtain ⟨r1, n1, m1⟩ := own_rd HO13.out hsl.symm
          have HAR := hide (arrayR_any A11 c11 (sealB p) W13.heap.size W13 (Nat.le_refl _) hsl r1)
          clear r1 n1 m1
          go_wp2_with fail
          refine HAR.out.mono ?_
          rintro e W14 ⟨rfl, hb14⟩
          have HB14 := hide (HB13.out.trans (hb14.mono HB13.out.size))
          have HA14 := hide (HA13.out.via hb14)
          have HS14 := hide (HS13.out.via hb14)
          have HC14 := hide (Blk.via hb14 HC13.out)
          have hwr := devWrite_any W14 d g mm n _ 0 0 0 _ k mf _ (j + 1) (sealB p) 0 HS14.out (by omega) (by omega) (by omega) (by have := wrF_len (sealB first) qs j (j + 1); omega) hsl
          rw [show ((j + 1 : Nat) : Int) = (j : Int) + 1 by omega] at hwr
          have HWR := hide hwr
          clear hwr hb14 HAR HB13 HA13 HS13 HC13 HO13
          go_wp2_with fail
          refine HWR.out.mono ?_
          rintro e W15 ⟨rfl, v15, hs15, ht15, hloc15⟩
          have hz14 := HB14.out.size
          have HDN := hide (fun q hq => (show w.heap.size ≤ q from by
            rcases WroteP.blocks hloc15 q hq with h | h
            · exact HD.out q h
            · omega))
          have HBN := hide (ht15.belowT HB14.out HD.out hz14)
          have HAN := hide (HA14.out.dev HS14.out ht15)
          have HCN2 := hide (ht15.blk HC14.out (HS14.out.other HC14.out (by decide) (by decide)))
          have hqd : qs.getD j [] = sealB p := by rw [List.getD_eq_getElem?_getD, HQP.out]; rfl
          have hwf := wrF_next (sealB first) qs j
          rw [hqd] at hwf
          rw [hwf] at hs15
          have HSN2 := hide hs15
          clear hs15 ht15 hloc15 hwf hqd HWR HB14 HA14 HS14 HC14 hz14
          go_wp2
          go_roundw
          case rel => exact ⟨j + 1, k + 1, _, by omega, by omega, by go_num, rfl, HAN, HSN2, HDN, HCN2, HBN⟩
          case measure => simp [intOf]; omega
      · obtain rfl : m = j := by omega
        have htk : qs.take m = qs := List.take_of_length_le (by rw [HQL.out]; exact Nat.le_refl _)
        rw [htk] at HA
        have HPS := hide (show m + 1 = (first :: qs).length by rw [List.length_cons, HQL.out])
        obtain ⟨ps, hps⟩ : ∃ l, l = first :: qs := ⟨_, rfl⟩
        have HSE := hide (show sealI qs m = sealedL ps (m + 1) by rw [hps]; exact sealI_all first qs m)
        have HPG0 := hide (show ∀ no : Nat, 1 ≤ no → no < m + 1 → pgOf (List.replicate n zPg) (wrF (sealB first) qs m) no = ps.getD no [] from fun no h1 h2 => by
          rw [wrF_pg _ _ _ _ _ h1 (by omega), hps]
          obtain ⟨q, rfl⟩ : ∃ q, no = q + 1 := ⟨no - 1, by omega⟩
          rfl)
        rw [← hps] at HA HPS
        obtain ⟨sl, hsl⟩ : ∃ v, v = sealI qs m := ⟨_, rfl⟩
        rw [← hsl] at HSE ⊢
        clear hps htk hsl
        have t1 : ¬ (m : Int) < m := by omega
        have HOPN := hide (open_ok wr d g mm n false 0 0 (List.replicate n zPg) k mf (wrF (sealB first) qs m) HS.out (by omega) (by omega) (by have := wrF_len (sealB first) qs m 0; omega) (fun h => by cases h) ⟨b, n, xf, xc, xl⟩ ((m + 1 : Nat) : Int) HFM.out HFR.out (by dsimp only; omega) (fun h => by cases h) 0 rfl)
        go_wp2_with fail
        refine HOPN.out.mono ?_
        rintro e W20 ⟨bb, l, ml, pp, tt, rfl, hP, hD, ht, hpn⟩
        have hdl : w.heap.size ≤ d := HD.out d (.inl rfl)
        have hzr := HBW.out.size
        obtain ⟨o, kd⟩ := HS.out.kd
        have HB20 := hide (ht.belowT HBW.out (fun q e => by rw [e]; exact hdl) hzr)
        have HA20 := hide (HA.out.keep (fun q t cur _ k' htt => ht.blk k' (fun e => k'.ne_ kd (by rcases htt with rfl | rfl <;> decide) e)))
        have HC20 := hide (ht.blk HC.out (HC.out.ne_ kd (by decide)))
        obtain ⟨s, hs⟩ : ∃ s : StN, s = ⟨bb, d, g, mm, n, pp, l, ⟨b, n, xf, xc, xl⟩, 0, List.replicate n zPg, k, mf, wrF (sealB first) qs m⟩ := ⟨_, rfl⟩
        have HST := hide (show StoreI s W20 by rw [hs]; exact StoreI.opened hP hD hf4)
        have HPG := hide (show ∀ no : Nat, 1 ≤ no → no < m + 1 → s.pg no = ps.getD no [] by rw [hs]; exact HPG0.out)
        have hcf := HCF.out
        have HSK := hide (show StK s (m + 1) by
          rw [hs]
          try dsimp only at hcf
          exact ⟨⟨by dsimp only; omega, Int.le_refl _, by dsimp only; omega, by dsimp only; omega, fun no => by have := wrF_len (sealB first) qs m no; dsimp only; omega⟩, HFR.out, HFM.out, by dsimp only; omega, by dsimp only; omega, by dsimp only; omega, by dsimp only; omega⟩)
        have hsb : s.b = bb := by rw [hs]
        have hsd : w.heap.size ≤ s.d := by rw [hs]; exact hdl
        have hsp : w.heap.size ≤ s.p := by rw [hs]; dsimp only; omega
        have hsx : s.x.b = (b : Int) := by rw [hs]
        have HCNT := hide (fun W (hst : StoreI s W) (hw : w.heap.size ≤ W.heap.size) => (show Calls Tryz.prog 28 #[.pointer (some ⟨bb, 0, none⟩)] W _ from hsb ▸ auCount_any s (m + 1) b HSK.out hsx hb16 (by omega) W hst w.heap.size hsd hsp hw))
        have HCHK := hide (fun W (hst : StoreI s W) (hw : w.heap.size ≤ W.heap.size) => (show Calls Tryz.prog 30 #[.pointer (some ⟨bb, 0, none⟩)] W _ from hsb ▸ auCheck_any s (m + 1) b HSK.out hsx hb16 (by omega) W hst w.heap.size hsd hsp hw))
        have HPAG := hide (fun (q : Int) W (hst : StoreI s W) => (show Calls Tryz.prog 31 #[.pointer (some ⟨bb, 0, none⟩), .int .i64 q] W _ from hsb ▸ auPage_any s (m + 1) HSK.out q W hst))
        have HCS := hide (check_same (B := b) HPG.out)
        have HTS := hide (fun t (hr : refD (headI s.x.b) (itL ps) (nxL ps) (m + 1) b 1 ([], []) = some t) ho => tal_same HPG.out hr ho)
        rw [hsx] at HCS HTS
        have hz20 := HB20.out.size
        clear hP hD ht hpn kd hs hcf hsb hsx HOPN HA HS HC HBW HD HPG0
        have hcnt : ∃ (T : TalD) (fe : Int), cntV s (m + 1) b = .tuple #[.agg (talC T), .int .i64 fe] ∧ ((checkB s (m + 1) b = true ∧ fe = 0 ∧ T = talS s (m + 1)) ∨ (checkB s (m + 1) b = false ∧ fe = 14)) := by
          unfold cntV
          cases hcb : checkB s (m + 1) b with
          | true => exact ⟨_, 0, by rw [if_pos rfl], .inl ⟨rfl, rfl, rfl⟩⟩
          | false => exact ⟨_, 14, by rw [if_neg (by decide)], .inr ⟨rfl, rfl⟩⟩
        obtain ⟨T, fe, hce, hct⟩ := hcnt
        rw [hce] at HCNT
        have HCT := hide hct
        clear hce hct
        obtain ⟨ta, tb, tc, td, te⟩ := T
        unfold talC at HCNT
        dsimp only at HCNT
        go_upto_region 20 with (first
          | (go_at_call 27; refine (code38_any _ _).mono ?_; rintro e w' ⟨rfl, hw'⟩; obtain rfl := hw'.symm)
          | (go_at_call 28; refine (HCNT.out W20 HST.out hz20).mono ?_; rintro e W21 ⟨rfl, hst21, hk21⟩))
        refine gen1 (R := fun W => Code.wp _ _ _ _ W) (fun W22 kT hb22 hz22 => ?_)
        have hz21 := hk21.size
        have HA22 := hide ((HA20.out.keep (fun q t cur _ k' htt => hk21.blk q t cur k' (by rcases htt with rfl | rfl <;> decide))).via hb22)
        have HC22 := hide (Blk.via hb22 (hk21.blk _ _ _ HC20.out (by decide)))
        have HB22 := hide ((hk21.below HB20.out hz20).trans (hb22.mono (Nat.le_trans hz20 hz21)))
        have HST22 := hide (hst21.via hb22)
        obtain ⟨gT, hgT⟩ : ∃ g, g = W21.heap.size := ⟨_, rfl⟩
        rw [← hgT] at kT ⊢
        have KT22 := hide kT
        clear kT hb22 hz22 hk21 hst21 hgT hz21 HA20 HC20 HB20 HST HCNT
        have hrc : ∃ (U : TalD) (ok : Bool), rCnt ps (m + 1) b b = .tuple #[.agg (talC U), .bool ok] ∧ checkB s (m + 1) b = (ok && sl) ∧ (checkB s (m + 1) b = true → U = talS s (m + 1)) := by
          rcases rCnt_eq ps (m + 1) b b with ⟨h1, h2⟩ | ⟨h1, t', hr', he⟩
          · exact ⟨tal0, false, h2, by rw [HCS.out, h1]; rfl, fun hc => by rw [HCS.out, h1] at hc; cases hc⟩
          · exact ⟨_, true, he, by rw [HCS.out, h1, HSE.out], fun _ => HTS.out t' hr' h1⟩
        obtain ⟨U, ok, hre, hok, hut⟩ := hrc
        have HRC2 := hide (rCount_any A9 (m + 1) c9 ps ⟨b, n, xf, xc, xl⟩ b W22.heap.size W22 (Nat.le_refl _) (HA22.out.pgs HPS.out) rfl hb1' hb16 (by omega) (by omega))
        dsimp only at HRC2
        rw [hre] at HRC2
        obtain ⟨ua, ub, uc, ud, ue⟩ := U
        unfold talC confV at HRC2
        dsimp only at HRC2
        have HOK2 := hide hok
        have HUT := hide hut
        clear hre hok hut HTS HCS
        have q0 : W22.cell? ⟨gc, 0, none⟩ = some (.int .i64 b) := HC22.out.cell 0
        have q1 : W22.cell? ⟨gc, 1, none⟩ = some (.int .i64 n) := HC22.out.cell 1
        have q2 : W22.cell? ⟨gc, 2, none⟩ = some (.int .i64 xf) := HC22.out.cell 2
        have q3 : W22.cell? ⟨gc, 3, none⟩ = some (.int .i64 xc) := HC22.out.cell 3
        have q4 : W22.cell? ⟨gc, 4, none⟩ = some (.int .i64 xl) := HC22.out.cell 4
        have ql := HC22.out.lt
        go_upto_region 21 with (go_at_call 29; refine HRC2.out.mono ?_; rintro e W23 ⟨rfl, hb23⟩)
        refine gen1 (R := fun W => Code.wp _ _ _ _ W) (fun W24 kU hb24 hz24 => ?_)
        have hbb := hb23.trans (hb24.mono hb23.size)
        have hz22 := HB22.out.size
        have HA24 := hide (HA22.out.via hbb)
        have HB24 := hide (HB22.out.trans (hbb.mono hz22))
        have HST24 := hide (HST22.out.via hbb)
        have KT24 := hide (Blk.via hbb KT22.out)
        obtain ⟨gU, hgU⟩ : ∃ g, g = W23.heap.size := ⟨_, rfl⟩
        rw [← hgU] at kU ⊢
        have KU24 := hide kU
        have hz24' := HB24.out.size
        clear kU hb23 hb24 hz24 hbb hgU q0 q1 q2 q3 q4 ql HA22 HB22 HST22 KT22 HC22 HRC2 hz22
        go_cut [150] from 114 to 150 (fun s150 wx => s150 = .bool false ∧ StoreI s wx ∧ KeepC w.heap.size W24 wx)
        case first =>
          have HCK := hide (HCHK.out W24 HST24.out hz24')
          rw [HOK2.out] at HCK HUT
          have hct := HCT.out
          rw [HOK2.out] at hct
          have hcd := code38_any
          by_cases hbo : (ok && sl) = true
          · obtain ⟨rfl, rfl⟩ : ok = true ∧ sl = true := by simpa using hbo
            rcases hct with ⟨_, rfl, hT⟩ | ⟨h, _⟩
            · have hU := HUT.out rfl
              rw [← hT] at hU
              injection hU with u1 u2 u3 u4 u5
              subst u1 u2 u3 u4 u5
              have heq := fun W => run_eqTal ua ub uc ud ue W
              have HTT := hide KT24.out
              have y0 : W24.cell? ⟨gT, 0, none⟩ = some (.int .i64 ua) := KT24.out.cell 0
              have y1 : W24.cell? ⟨gT, 1, none⟩ = some (.int .i64 ub) := KT24.out.cell 1
              have y2 : W24.cell? ⟨gT, 2, none⟩ = some (.int .i64 uc) := KT24.out.cell 2
              have y3 : W24.cell? ⟨gT, 3, none⟩ = some (.int .i64 ud) := KT24.out.cell 3
              have y4 : W24.cell? ⟨gT, 4, none⟩ = some (.int .i64 ue) := KT24.out.cell 4
              have yl := KT24.out.lt
              have v0 : W24.cell? ⟨gU, 0, none⟩ = some (.int .i64 ua) := KU24.out.cell 0
              have v1 : W24.cell? ⟨gU, 1, none⟩ = some (.int .i64 ub) := KU24.out.cell 1
              have v2 : W24.cell? ⟨gU, 2, none⟩ = some (.int .i64 uc) := KU24.out.cell 2
              have v3 : W24.cell? ⟨gU, 3, none⟩ = some (.int .i64 ud) := KU24.out.cell 3
              have v4 : W24.cell? ⟨gU, 4, none⟩ = some (.int .i64 ue) := KU24.out.cell 4
              have vl := KU24.out.lt
              simp only [Bool.and_self, show errI true = 0 from rfl] at HCK
              clear hT hbo HUT HCT HOK2
              go_wp2_with (first
                | (go_at_call 27; refine (code38_any _ _).mono ?_; rintro e w' ⟨rfl, hw'⟩; obtain rfl := hw'.symm)
                | (go_at_call 30; refine HCK.out.mono ?_; rintro e wc ⟨rfl, hsc, hkc⟩))
              go_meet
              exact ⟨rfl, hsc, hkc⟩
            · cases h
          · have hbf : (ok && sl) = false := by simpa using hbo
            rw [hbf] at hct HCK
            rcases hct with ⟨h, _⟩ | ⟨_, rfl⟩
            · cases h
            · simp only [show errI false = 14 from rfl] at HCK
              clear HUT HCT HOK2 hbo
              cases ok with
              | false =>
                clear hbf
                go_wp2_with (first
                  | (go_at_call 27; refine (code38_any _ _).mono ?_; rintro e w' ⟨rfl, hw'⟩; obtain rfl := hw'.symm)
                  | (go_at_call 30; refine HCK.out.mono ?_; rintro e wc ⟨rfl, hsc, hkc⟩))
                go_meet
                exact ⟨rfl, hsc, hkc⟩
              | true =>
                obtain rfl : sl = false := by simpa using hbf
                clear hbf
                go_wp2_with (first
                  | (go_at_call 27; refine (code38_any _ _).mono ?_; rintro e w' ⟨rfl, hw'⟩; obtain rfl := hw'.symm)
                  | (go_at_call 30; refine HCK.out.mono ?_; rintro e wc ⟨rfl, hsc, hkc⟩))
                go_meet
                exact ⟨rfl, hsc, hkc⟩
        case rest =>
          obtain ⟨rfl, hst25, hk25⟩ := hcut
          rename World => W25
          have HST25 := hide hst25
          have HA25 := hide (HA24.out.keep (fun q t cur _ k' htt => hk25.blk q t cur k' (by rcases htt with rfl | rfl <;> decide)))
          have HB25 := hide (hk25.below HB24.out hz24')
          have hz25 := hk25.size
          clear hst25 hk25 HA24 HB24 HST24 KT24 KU24 HCHK HCT HOK2 HUT
          have HPN := hide (HPAG.out no W25 HST25.out)
          clear HPAG
          by_cases hno : no < 1 ∨ (m : Int) < no
          · have HAU := hide (show auI s (m + 1) no = 2 by unfold auI; rw [if_pos (by omega)])
            rw [HAU.out] at HPN
            have hfin : ∀ (W26 Wl : World), StR s W25 W26 → Below W26.heap.size W26 Wl → Below w.heap.size w Wl := fun W26 Wl h1 h2 => by
              have k := KeepC.of_str hsd hsp h1
              have k2 := k.below HB25.out (by omega)
              exact k2.trans (h2.mono k2.size)
            rcases hno with h1 | h1
            · go_wp2_with (first
                | (go_at_call 27; refine (code38_any _ _).mono ?_; rintro e w' ⟨rfl, hw'⟩; obtain rfl := hw'.symm)
                | (go_at_call 31; refine HPN.out.mono ?_; rintro e W26 ⟨rfl, hs26⟩)
                | (go_at_call 19; refine (HLV.out _).mono ?_; rintro e Wl ⟨rfl, hbl⟩))
              go_ret
              exact ⟨rfl, hfin _ _ hs26 hbl⟩
            · have h2 : ¬ no < 1 := by omega
              go_wp2_with (first
                | (go_at_call 27; refine (code38_any _ _).mono ?_; rintro e w' ⟨rfl, hw'⟩; obtain rfl := hw'.symm)
                | (go_at_call 31; refine HPN.out.mono ?_; rintro e W26 ⟨rfl, hs26⟩)
                | (go_at_call 19; refine (HLV.out _).mono ?_; rintro e Wl ⟨rfl, hbl⟩))
              go_ret
              exact ⟨rfl, hfin _ _ hs26 hbl⟩
          · obtain ⟨k2, rfl⟩ : ∃ k2 : Nat, no = k2 := ⟨no.toNat, by omega⟩
            have hk1 : 1 ≤ k2 := by omega
            have hk2 : k2 < m + 1 := by omega
            obtain ⟨au, hau⟩ : ∃ v, v = auI s (m + 1) (k2 : Int) := ⟨_, rfl⟩
            have hau2 := auI_two (s := s) hk1 hk2
            have har := auI_ref (s := s) hk1 hk2
            rw [HPG.out k2 hk1 hk2] at har
            rw [← hau] at HPN hau2 har
            clear hau
            go_upto_region 26 with (first
              | (go_at_call 27; refine (code38_any _ _).mono ?_; rintro e w' ⟨rfl, hw'⟩; obtain rfl := hw'.symm)
              | (go_at_call 31; refine HPN.out.mono ?_; rintro e W26 ⟨rfl, hs26⟩))
            have hk26 := KeepC.of_str hsd hsp hs26
            have HA26 := hide (HA25.out.keep (fun q t cur _ k' htt => hk26.blk q t cur k' (by rcases htt with rfl | rfl <;> decide)))
            have HB26 := hide (hk26.below HB25.out (by omega))
            have HPG26 := hide (HA26.out.pgs HPS.out)
            clear hs26 hk26 HPN HA25 HB25
            obtain ⟨b9, o9, A', c', p, rfl, hp, hl, hc0, hc1, hc2, hr9⟩ := HPG26.out.at_ (k := k2) hk2
            have hpd : ps.getD k2 [] = p := by rw [List.getD_eq_getElem?_getD, hp]; rfl
            rw [hpd] at har
            have HRR := hide (rRight_any A' c' p W26.heap.size W26 (Nat.le_refl _) hc1 hc2 hl hr9 (k2 : Int))
            have HRP := hide (fun W (hb : Below W26.heap.size W26 W) => rPage_any (some ⟨b9, o9, none⟩) (m + 1) c9 ps k2 0 p W26.heap.size W hb.size (HPG26.out.below hb (Nat.le_refl _)) hk2 hp)
            have hbl9 : b9 < W26.heap.size := by
              obtain ⟨o', g1, g2⟩ := cells_of_cell hc0
              exact (Array.getElem?_eq_some_iff.1 g1).1
            have HC0 := hide hc0
            have HMT := hide (fun W (hb : Below W26.heap.size W26 W) => (hb.cell (p := ⟨b9, o9 + k2, none⟩) hbl9).trans HC0.out)
            have t3 : (k2 : Int) < (m : Int) + 1 := by omega
            have t4 : (0 : Int) ≤ k2 := by omega
            have t5 : (k2 : Int) < ((m + 1 : Nat) : Int) := by omega
            have hfin : ∀ (Wa Wl : World), Below W26.heap.size W26 Wa → Below Wa.heap.size Wa Wl → Below w.heap.size w Wl := fun Wa Wl h1 h2 => by
              have k2 := HB26.out.trans (h1.mono HB26.out.size)
              exact k2.trans (h2.mono k2.size)
            clear hp hl hc1 hc2 hr9 hpd
            cases hrp : rightP p (k2 : Int) with
            | false =>
              rw [hrp] at HRR har
              obtain rfl : au = 14 := by
                rcases hau2 with h | h
                · rw [h] at har; simp at har
                · exact h
              clear har hau2 hrp
              go_wp2_with (first
                | (go_at_call 25; refine HRR.out.mono ?_; rintro e Wa ⟨rfl, hba⟩)
                | (go_at_call 19; refine (HLV.out _).mono ?_; rintro e Wl ⟨rfl, hbl⟩))
              go_ret
              exact ⟨rfl, hfin _ _ hba hbl⟩
            | true =>
              rw [hrp] at HRR har
              cases hpo : pageOk p (k2 : Int) 0 with
              | true =>
                rw [hpo] at HRP har
                obtain rfl : au = 0 := by
                  rcases hau2 with h | h
                  · exact h
                  · rw [h] at har; simp at har
                clear har hau2 hrp hpo
                go_wp2_with (first
                  | (go_at_call 25; refine HRR.out.mono ?_; rintro e Wa ⟨rfl, hba⟩)
                  | (go_at_call 32; refine (HRP.out _ hba).mono ?_; rintro e Wb ⟨rfl, hbb⟩)
                  | (go_at_call 19; refine (HLV.out _).mono ?_; rintro e Wl ⟨rfl, hbl⟩))
                go_ret
                exact ⟨rfl, hfin _ _ (hba.trans (hbb.mono hba.size)) hbl⟩
              | false =>
                rw [hpo] at HRP har
                obtain rfl : au = 14 := by
                  rcases hau2 with h | h
                  · rw [h] at har; simp at har
                  · exact h
                clear har hau2 hrp hpo
                go_wp2_with (first
                  | (go_at_call 25; refine HRR.out.mono ?_; rintro e Wa ⟨rfl, hba⟩)
                  | (go_at_call 32; refine (HRP.out _ hba).mono ?_; rintro e Wb ⟨rfl, hbb⟩)
                  | (go_at_call 19; refine (HLV.out _).mono ?_; rintro e Wl ⟨rfl, hbl⟩))
                go_ret
                exact ⟨rfl, hfin _ _ (hba.trans (hbb.mono hba.size)) hbl⟩
end Go.Proofs.YtnanlaefehaifaaGreat
