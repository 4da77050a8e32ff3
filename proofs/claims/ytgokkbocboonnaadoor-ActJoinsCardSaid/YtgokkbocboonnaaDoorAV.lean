/-
  WALKS: moneyerlaw31.live; the law moneyerlaw31.ActParses.
-/
import Derived.Test.YtgokkbocboonnaaDoorAT
import Derived.Test.YtgokkbocboonnaaDoorAE
import Derived.Shelf.Vars
namespace Go.Proofs.YtgokkbocboonnaaDoor
open Go.RowKit Go.Lib

theorem wordsT_len : ∀ (l : List UInt8), (wordsT l).length ≤ l.length + 1 := by
  have h : ∀ (f : Nat) (l : List UInt8), (wordsOf' f l).length ≤ f := by
    intro f
    induction f with
    | zero => intro l; exact Nat.le_refl _
    | succ f ih =>
      intro l
      rw [wordsOf'_step]
      split
      · have := ih (Lib.cut l [32]).2.1
        simp only [List.length_cons]
        omega
      · simp
  intro l
  exact h _ l
/-- What the walks want of the library's variables. -/
structure Env (w : World) : Prop where
  z : ∃ m, w.cell? ⟨0, 0, none⟩ = some (.int .i64 m)
  ev : ErrV w
  pt : PTab w
theorem Env.pos {w : World} (h : Env w) : 0 < w.heap.size := by
  obtain ⟨m, h0⟩ := h.z
  rcases Nat.lt_or_ge 0 w.heap.size with h | h
  · exact h
  · rw [World.cell?, Array.getElem?_eq_none h] at h0
    cases h0
theorem Env.below {w w' : World} (h : Env w) (hb : Below w.heap.size w w') : Env w' := by
  obtain ⟨m, h0⟩ := h.z
  exact ⟨⟨m, (hb.cell (p := ⟨0, 0, none⟩) h.pos).trans h0⟩, h.ev.below hb, h.pt.below hb⟩
theorem parse_env {w : World} (h : Env w) (s : ByteArray) (hs : s.size ≤ 1000000) : Calls Tryd.prog 8 #[.string s] w (ParsePost w s.data.toList) := by
  obtain ⟨m, h0⟩ := h.z
  exact parse_any s m w hs h0 h.ev h.pt

theorem num_small (n : Int) (h0 : 0 ≤ n) (h9 : n < 10) : num n = [UInt8.ofNat (48 + n.toNat)] := by
  unfold num Lib.itoa
  rw [if_neg (by omega)]
  exact Lib.decDigits_one (by omega)
theorem num_12 : num 12 = [49, 50] := by
  unfold num Lib.itoa
  rw [if_neg (by omega)]
  show Lib.decDigits 12 = _
  rw [Lib.decDigits, dif_neg (by omega), Lib.decDigits_one (by omega)]
  rfl
/-- The page's examples. -/
def liveA : ActD := ⟨0, 0, ⟨1, ⟨#[97]⟩, [11, 1], 0, 0, 0⟩, 0, [], 0⟩
def liveB : ActD := ⟨4, 0, op00, 0, [1, 0], 12⟩
theorem liveA_is : isActB liveA = true := by decide
theorem liveB_is : isActB liveB = true := by decide
theorem liveA_text : actT liveA = [99, 97, 108, 108, 32, 48, 32, 119, 114, 105, 116, 101, 32, 97, 32, 48, 98, 48, 49] := by
  have h : actT liveA = ([99, 97, 108, 108] ++ 32 :: num 0) ++ 32 :: callT liveA.op := rfl
  rw [h, num_small 0 (by omega) (by omega)]
  rfl
theorem liveB_text : actT liveB = [99, 114, 97, 115, 104, 32, 49, 50, 32, 49, 32, 48] := by
  have h : actT liveB = [99, 114, 97, 115, 104] ++ (32 :: num 12 ++ (32 :: num 1 ++ (32 :: num 0 ++ []))) := rfl
  rw [h, num_12, num_small 0 (by omega) (by omega), num_small 1 (by omega) (by omega)]
  rfl
theorem zIn (a : Int) (h0 : -1000 ≤ a) (h1 : a ≤ 1000) : inI a := ⟨by omega, by omega⟩
theorem liveA_in : ActIn liveA := ⟨zIn _ (by decide) (by decide), zIn _ (by decide) (by decide), ⟨zIn _ (by decide) (by decide), zIn _ (by decide) (by decide), zIn _ (by decide) (by decide), zIn _ (by decide) (by decide)⟩, zIn _ (by decide) (by decide), zIn _ (by decide) (by decide), fun p hp => by cases hp⟩
theorem liveB_in : ActIn liveB := ⟨zIn _ (by decide) (by decide), zIn _ (by decide) (by decide), ⟨zIn _ (by decide) (by decide), zIn _ (by decide) (by decide), zIn _ (by decide) (by decide), zIn _ (by decide) (by decide)⟩, zIn _ (by decide) (by decide), zIn _ (by decide) (by decide), fun p hp => by
  simp only [liveB, List.mem_cons, List.not_mem_nil, or_false] at hp
  rcases hp with rfl | rfl <;> exact zIn _ (by decide) (by decide)⟩
theorem liveA_sm : OpSm liveA.op := ⟨by decide, by decide, liveA_in.2.2.1.1, liveA_in.2.2.1.2.1, liveA_in.2.2.1.2.2.1, liveA_in.2.2.1.2.2.2⟩
theorem liveA_pl : liveA.pages.length ≤ 1000000 := by decide
theorem liveB_parse : parseD [99, 114, 97, 115, 104, 32, 49, 50, 32, 49, 32, 48] = some liveB := by
  rw [← liveB_text]
  exact parseD_act liveB_is liveB_in
theorem code_any (n : Int) (w : World) : Calls Tryd.prog 9 #[.int .i64 n] w fun e w' => e = .returned (.int .i64 n) ∧ w' = w := by
  go_enter Tryd.func9, Tryd.ntmps9
  go_wp2
  go_ret
  exact ⟨rfl, rfl⟩
set_option maxHeartbeats 3200000 in
theorem live_any (w : World) (h : Env w) : Calls Tryd.prog 7 #[] w fun e w' => e = .returned (.bool true) ∧ Below w.heap.size w w' := by
  have HE := hide h
  clear h
  obtain ⟨sT, HT1, HT2, hTs⟩ := letter (actT liveA)
  have bT : (sT.toList == [99, 97, 108, 108, 32, 48, 32, 119, 114, 105, 116, 101, 32, 97, 32, 48, 98, 48, 49]) = true := by
    rw [ByteArray.toList_eq, HT2.out, liveA_text]
    exact beq_self_eq_true _
  have HL := hide (fun W (k : Blk W w.heap.size 5 #[.int .u8 11, .int .u8 1]) (hW : Below w.heap.size w W) => (actLine_any ⟨liveA, .slice (some ⟨w.heap.size, 0, none⟩) 2 2, .slice none 0 0⟩ (w.heap.size + 1) W k.lt liveA_sm liveA_in
    ⟨⟨some ⟨w.heap.size, 0, none⟩, 2, 2, rfl, Nat.le_refl _, by unfold maxLen; omega, rfl, fun e => (by cases e), Reads.of_blk (n := 2) (size := 1) k rfl⟩, none, 0, rfl, Nat.le_refl _, rfl, Reads.none_⟩ liveA_pl (HE.out.pt.below hW)).mono fun e w' h => (show e = .returned (.tuple #[.string sT, .int .i64 0]) ∧ Below W.heap.size W w' from ⟨by
      obtain ⟨_, ⟨h1, _⟩ | ⟨_, h2⟩⟩ := h
      · rw [liveA_is] at h1; cases h1
      · rw [h2, lineV, HT1.out], h.1⟩))
  have HP := hide (fun W (hW : Below w.heap.size w W) => (parse_env (HE.out.below hW) ⟨#[99, 114, 97, 115, 104, 32, 49, 50, 32, 49, 32, 48]⟩ (by decide)).mono fun e w' h => (show ∃ A n c F f', e = .returned (.tuple #[.agg #[.int .i64 4, .int .i64 0, .int .i64 0, .string ⟨#[]⟩, .slice A n c, .int .i64 0, .int .i64 0, .int .i64 0, .int .i64 0, .slice F 2 f', .int .i64 12], .int .i64 0]) ∧ Below W.heap.size W w' from by
    obtain ⟨hb, ⟨h1, _⟩ | ⟨⟨d, dv, pv⟩, h1, h2, h3⟩⟩ := h
    · rw [show (⟨#[99, 114, 97, 115, 104, 32, 49, 50, 32, 49, 32, 48]⟩ : ByteArray).data.toList = [99, 114, 97, 115, 104, 32, 49, 50, 32, 49, 32, 48] from rfl, liveB_parse] at h1
      cases h1
    · rw [show (⟨#[99, 114, 97, 115, 104, 32, 49, 50, 32, 49, 32, 48]⟩ : ByteArray).data.toList = [99, 114, 97, 115, 104, 32, 49, 50, 32, 49, 32, 48] from rfl, liveB_parse] at h1
      dsimp only at h1
      obtain rfl := Option.some.inj h1
      obtain ⟨A, n, c, e1⟩ := h3.1.form
      obtain ⟨F, f', e2⟩ := h3.2.form
      dsimp only at e1 e2
      subst e1 e2
      exact ⟨A, n, c, F, f', h2, hb⟩))
  clear hTs
  go_enter Tryd.func7, Tryd.ntmps7
  go_wp2_with fail
  refine (HL.out _ (Blk.new _ _ _) ((Below.refl _ _).alloc (Nat.le_refl _) _)).mono ?_
  rintro e w1 ⟨rfl, hb1⟩
  have hbw1 := below_via ((Below.refl _ w).alloc (Nat.le_refl _) _) hb1 (by simp)
  go_wp2_with fail
  refine (HP.out _ hbw1).mono ?_
  rintro e w2 ⟨A, n, c, F, f', rfl, hb2⟩
  have hbw2 := below_via hbw1 hb2 hbw1.size
  go_wp2_with (go_at_call 9; refine (code_any _ _).mono ?_; rintro e w' ⟨rfl, rfl⟩)
  go_ret
  exact ⟨rfl, hbw2.alloc hbw2.size _⟩
set_option maxHeartbeats 6400000 in
theorem ActParses_true (s : ByteArray) (w : World) (h : Env w) : Calls Tryd.prog 3 #[.string s] w fun e w' => e = .returned (.bool true) ∧ Below w.heap.size w w' := by
  have HE := hide h
  clear h
  have HLV := hide (fun W (hW : Below w.heap.size w W) => live_any W (HE.out.below hW))
  by_cases hs : 1500 < s.size
  · go_enter Tryd.func3, Tryd.ntmps3
    go_wp2_with (go_at_call 7; refine (HLV.out _ (Below.refl _ _)).mono ?_; rintro e w1 ⟨rfl, hb1⟩)
    go_ret
    exact ⟨rfl, hb1⟩
  · have HP := hide (parse_env HE.out s (by omega))
    go_enter Tryd.func3, Tryd.ntmps3
    go_wp2_with fail
    refine HP.out.mono ?_
    rintro e w1 ⟨hb1, ⟨hno, rfl⟩ | ⟨x, hyes, rfl, hown⟩⟩
    · clear hno
      have z := OwnA.plain (w1.alloc (.cells zeroAct 30)) w.heap.size (a := act00) rfl rfl
      have HS := hide (fun W (hW : Below w.heap.size w W) => rSameAct_any (plainV act00) (plainV act00) W.heap.size W (Nat.le_refl _) (OwnA.plain W w.heap.size (a := act00) rfl rfl).ok (OwnA.plain W w.heap.size (a := act00) rfl rfl).ok (by simp [plainV, act00]) (by simp [plainV, act00]))
      simp only [actEq_refl] at HS
      clear z
      unfold zeroAct
      go_wp2_with (first
        | (go_at_call 9; refine (code_any _ _).mono ?_; rintro e w' ⟨rfl, rfl⟩)
        | (go_at_call 10; refine (HS.out _ (hb1.alloc hb1.size _)).mono ?_; rintro e w2 ⟨rfl, hb2⟩; have hbw2 := below_via (hb1.alloc hb1.size _) hb2 (by have := hb1.size; simp; omega))
        | (go_at_call 7; refine (HLV.out _ hbw2).mono ?_; rintro e w3 ⟨rfl, hb3⟩; have hbw3 := below_via hbw2 hb3 hbw2.size))
      go_ret
      exact ⟨rfl, hbw3⟩
    · obtain ⟨_, nm, r, hw, hof, hB, hT⟩ := parseD_some hyes
      have hpl := actOfD_plain hof
      have hsl : s.data.toList.length = s.size := Array.length_toList (xs := s.data)
      obtain ⟨hi, hdl, _, hpg⟩ := actOfD_in (K := 1500) hof (fun l hl => Nat.le_trans (words_len _ _ l (by rw [show wordsOf' (s.data.toList.length + 1) s.data.toList = wordsT s.data.toList from rfl, hw]; exact List.mem_cons_of_mem _ hl)) (by omega))
      have hpm : x.d.pages.length ≤ 1000000 := by
        have h1 : (wordsT s.data.toList).length ≤ s.data.toList.length + 1 := wordsT_len _
        rw [hw] at h1
        simp only [List.length_cons] at h1
        omega
      have hsm := opSm_of hpl hB hi hdl
      obtain ⟨⟨A, n, c, e1⟩, ⟨F, f', e2⟩⟩ := And.intro hown.1.form hown.2.form
      obtain ⟨d, dv, pv⟩ := x
      dsimp only at *
      subst e1 e2
      have hok := hown.ok
      have HRL0 := fun W (hW : Below w1.heap.size w1 W) => rLine_any ⟨d, .slice A n c, .slice F d.pages.length f'⟩ w1.heap.size W hW.size hsm hi (hok.below hW (Nat.le_refl _)) hpm
      obtain ⟨sT, HT1, HT2, hTs⟩ := letter (actT d)
      have bT : (sT.toList == s.toList) = true := by
        rw [ByteArray.toList_eq, ByteArray.toList_eq, HT2.out, hT]
        exact beq_self_eq_true _
      have HRL := hide (fun W (hW : Below w1.heap.size w1 W) => (HRL0 W hW).mono fun e w' h => (show e = .returned (.tuple #[.string sT, .bool true]) ∧ Below W.heap.size W w' from ⟨by
        obtain ⟨_, ⟨h1, _⟩ | ⟨_, h2⟩⟩ := h
        · rw [hB] at h1; cases h1
        · rw [h2, rlineV, HT1.out], h.1⟩))
      obtain ⟨Y, HY⟩ : ∃ Y, Hid (actV (plainY ⟨d, .slice A n c, .slice F d.pages.length f'⟩) = Y) := ⟨_, rfl⟩
      have HPl := hide (fun W => (rPlain_any ⟨d, .slice A n c, .slice F d.pages.length f'⟩ W ⟨_, _, _, rfl⟩ ⟨_, _, _, rfl⟩ hB).mono fun e w' h => (show e = .returned Y ∧ Below W.heap.size W w' from ⟨by rw [h.2, HY.out], h.1⟩))
      have heq : actEq d (plainY ⟨d, .slice A n c, .slice F d.pages.length f'⟩).d = true := by
        show actEq d (plainAct d) = true
        rw [hpl]
        exact actEq_refl d
      have HSa := hide (fun W (hW : Below w1.heap.size w1 W) => (rSameAct_any ⟨d, .slice A n c, .slice F d.pages.length f'⟩ (plainY ⟨d, .slice A n c, .slice F d.pages.length f'⟩) w1.heap.size W hW.size (hok.below hW (Nat.le_refl _)) (plainY_ok (hok.below hW (Nat.le_refl _))) hpm (by show (plainAct d).pages.length ≤ _; rw [hpl]; exact hpm)).mono fun e w' h => (show e = .returned (.bool true) ∧ Below W.heap.size W w' from ⟨by rw [h.1, heq], h.2⟩))
      rw [HY.out] at HSa
      clear hyes hw hof hB hT hpl hsl hi hdl hpg hpm hsm hown hok HRL0 hTs heq HP
      unfold actV at HSa HPl ⊢
      dsimp only at HSa HPl ⊢
      go_wp2_with (go_at_call 9; refine (code_any _ _).mono ?_; rintro e w' ⟨rfl, rfl⟩)
      refine (HRL.out _ ((Below.refl _ _).alloc (Nat.le_refl _) _)).mono ?_
      rintro e w2 ⟨rfl, hb2⟩
      have kb := Blk.via hb2 (Blk.new w1 _ _)
      have hb12 := below_via ((Below.refl _ w1).alloc (Nat.le_refl _) _) hb2 (by simp)
      have hbw2 := below_via hb1 hb12 hb1.size
      have q0 : ∀ (t : In (Below w2.heap.size w2)) (i : Nat), t.w.cell? ⟨w1.heap.size, i, none⟩ = _ := fun t => (Blk.via t.h kb).cell
      have HPl2 := hide (fun t : In (Below w2.heap.size w2) => HPl.out t.w)
      have HSa2 := hide (fun t : In (Below w2.heap.size w2) => HSa.out t.w (below_via hb12 t.h hb12.size))
      have HLV2 := hide (fun t : In (Below w2.heap.size w2) => HLV.out t.w (below_via hbw2 t.h hbw2.size))
      go_wp2
      refine wp_region_in (C := (Below w2.heap.size w2)) (by kernel_rfl) (by kernel_rfl) (Below.refl _ _).drew ?_
      repeat (first | go_big_quiet_step (first | (go_at_call 12; with_reducible exact calls_in (Nat.le_refl _) (HPl2.out _)) | (go_at_call 10; with_reducible exact calls_in (Nat.le_refl _) (HSa2.out _)) | (go_at_call 7; with_reducible exact calls_in (Nat.le_refl _) (HLV2.out _))) | quiet_step (first | (go_at_call 12; with_reducible exact calls_in (Nat.le_refl _) (HPl2.out _)) | (go_at_call 10; with_reducible exact calls_in (Nat.le_refl _) (HSa2.out _)) | (go_at_call 7; with_reducible exact calls_in (Nat.le_refl _) (HLV2.out _))))
      refine wpQuiet_nil ?_
      intro _ hw'
      obtain ⟨t, hw''⟩ := hw'
      subst hw''
      have hbt := t.h
      generalize t.w = wt at hbt ⊢
      clear t q0
      go_wp2
      go_ret
      exact ⟨rfl, below_via hbw2 hbt hbw2.size⟩
end Go.Proofs.YtgokkbocboonnaaDoor
