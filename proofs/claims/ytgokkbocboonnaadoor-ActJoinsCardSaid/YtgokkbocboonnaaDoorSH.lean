/-
  WALKS OF THE REFERENCE: moneyerref31.Right (of a call), Op; moneyerref40.Line.
-/
import Derived.Test.YtgokkbocboonnaaDoorSF
import Derived.Test.YtgokkbocboonnaaDoorME
namespace Go.Proofs.YtgokkbocboonnaaDoor
open Go.RowKit Go.Lib

theorem isCallB_no {x : OpD} (h : ¬ (6 ≤ x.act ∧ x.act ≤ 8)) : isCallB x = goodOp x := by
  have h6 : x.act ≠ 6 := by omega
  have h7 : x.act ≠ 7 := by omega
  have h8 : x.act ≠ 8 := by omega
  unfold isCallB
  simp [h6, h7, h8]
theorem isCallB_yes {x : OpD} (h1 : 6 ≤ x.act) (h2 : x.act ≤ 8) : isCallB x = true := by
  rcases (show x.act = 6 ∨ x.act = 7 ∨ x.act = 8 by omega) with h | h | h <;> simp [isCallB, h]
theorem isCallB_range {x : OpD} (h : isCallB x = true) : 0 ≤ x.act ∧ x.act ≤ 8 := by
  by_cases h1 : 6 ≤ x.act ∧ x.act ≤ 8
  · omega
  · rw [isCallB_no h1] at h
    unfold goodOp at h
    simp at h
    omega
set_option maxHeartbeats 1600000 in
theorem rRight_call (x : OpD) (cl m lg : Int) (A F : Option Addr) (n c f f' : Nat) (w : World) (hn : n = x.data.length) (hk : x.key.size ≤ 9223372036854775807) (h0 : 0 ≤ cl) (h1 : cl ≤ 15) :
    Calls Tryd.prog 24 #[.agg #[.int .i64 0, .int .i64 cl, .int .i64 x.act, .string x.key, .slice A n c, .int .i64 x.lo, .int .i64 x.hi, .int .i64 x.n, .int .i64 m, .slice F f f', .int .i64 lg]] w fun e w' => e = .returned (.bool (isCallB x)) ∧ Below w.heap.size w w' := by
  have HG := hide (fun W => mGood_any x A n c W hn hk)
  have g0 : ¬ cl < 0 := by omega
  have g1 : ¬ 15 < cl := by omega
  clear hn
  by_cases h6 : 6 ≤ x.act
  · by_cases h8 : x.act ≤ 8
    · have HB := hide (isCallB_yes h6 h8)
      go_enter Tryd.func24, Tryd.ntmps24
      go_wp2
      go_ret
      exact ⟨ret_bool HB.out.symm, (Below.refl _ _).alloc (Nat.le_refl _) _⟩
    · have HB := hide (isCallB_no (x := x) (by omega))
      go_enter Tryd.func24, Tryd.ntmps24
      go_wp2_with (go_at_call 45; refine (HG.out _).mono ?_; rintro e w1 ⟨rfl, hb1⟩)
      go_ret
      exact ⟨ret_bool HB.out.symm, below_via ((Below.refl _ _).alloc (Nat.le_refl _) _) hb1 (by simp)⟩
  · have HB := hide (isCallB_no (x := x) (by omega))
    go_enter Tryd.func24, Tryd.ntmps24
    go_wp2_with (go_at_call 45; refine (HG.out _).mono ?_; rintro e w1 ⟨rfl, hb1⟩)
    go_ret
    exact ⟨ret_bool HB.out.symm, below_via ((Below.refl _ _).alloc (Nat.le_refl _) _) hb1 (by simp)⟩

set_option maxHeartbeats 3200000 in
theorem rOp_any (x : OpD) (A : Option Addr) (n c : Nat) (B : Nat) (w : World) (hB : B ≤ w.heap.size) (hs : OpSm x) (h : BytesAt w B (.slice A n c) x.data) (hb : isCallB x = true) :
    Calls Tryd.prog 26 #[.agg #[.int .i64 x.act, .string x.key, .slice A n c, .int .i64 x.lo, .int .i64 x.hi, .int .i64 x.n]] w fun e w' => e = .returned (.string (tx (callT x))) ∧ Below w.heap.size w w' := by
  have hr := isCallB_range hb
  clear hb
  obtain ⟨act, key, data, lo, hi, nn⟩ := x
  obtain ⟨hk, hd, ha, h4, h5, h6⟩ := hs
  dsimp only at *
  obtain ⟨sn, HN1, HN2, hns⟩ := letter (num nn)
  have hln := num_len h6
  have HN := hide (fun W => HN1.out ▸ Num_any nn W h6.1 h6.2)
  have HB := hide h
  clear HN1 h
  rcases (show act = 6 ∨ act = 7 ∨ act = 8 ∨ act = 0 ∨ act = 1 ∨ act = 2 ∨ act = 3 ∨ act = 4 ∨ act = 5 by omega) with rfl | rfl | rfl | rfl | rfl | rfl | rfl | rfl | rfl
  · go_enter Tryd.func26, Tryd.ntmps26
    go_wp2
    go_ret
    exact ⟨lit_ret rfl, below2 _ _ _⟩
  · go_enter Tryd.func26, Tryd.ntmps26
    go_wp2
    go_ret
    exact ⟨lit_ret rfl, below2 _ _ _⟩
  · go_enter Tryd.func26, Tryd.ntmps26
    go_wp2
    go_ret
    exact ⟨lit_ret rfl, below2 _ _ _⟩
  · go_enter Tryd.func26, Tryd.ntmps26
    go_wp2
    go_ret
    refine ⟨ret_tx ?_, below2 _ _ _⟩
    simp only [ByteArray.data_append, Array.toList_append]
    unfold callT
    simp
  · obtain ⟨s, HS1, HS2, hss⟩ := letter (hexT data)
    have hds := hexT_len data
    have HC := hide (fun W (hb' : Below w.heap.size w W) => HS1.out ▸ Hex_any (.slice A n c) data B W (by omega) (HB.out.below hb' hB))
    clear HS1
    go_enter Tryd.func26, Tryd.ntmps26
    go_wp2_with fail
    refine (HC.out _ (below2 _ _ _)).mono ?_
    rintro e w1 ⟨rfl, hb1⟩
    have q1 := (Blk.via hb1 ((Blk.new w _ _).alloc _)).cell
    go_wp2
    go_ret
    refine ⟨ret_tx ?_, below_via (below2 _ _ _) hb1 (by simp; omega)⟩
    simp only [ByteArray.data_append, Array.toList_append, HS2.out]
    unfold callT
    simp
  · obtain ⟨sa, HAa, HBa, hsa⟩ := letter (num lo)
    obtain ⟨sb, HAb, HBb, hsb⟩ := letter (num hi)
    have hla := num_len h4
    have hlb := num_len h5
    go_enter Tryd.func26, Tryd.ntmps26
    go_wp2
    refine gen2 (fun W k0 k1 hbW hz => ?_)
    have q0 : ∀ (t : In (Below W.heap.size W)) (i : Nat), t.w.cell? ⟨w.heap.size, i, none⟩ = _ := fun t => (Blk.via t.h k0).cell
    have HCa := hide (fun t : In (Below W.heap.size W) => HAa.out ▸ Num_any lo t.w h4.1 h4.2)
    have HCb := hide (fun t : In (Below W.heap.size W) => HAb.out ▸ Num_any hi t.w h5.1 h5.2)
    refine wp_region_in (C := (Below W.heap.size W)) (by kernel_rfl) (by kernel_rfl) (Below.refl _ _).drew ?_
    repeat (first | go_big_quiet_step (first | (go_at_call 25; with_reducible exact calls_in_same (HCa.out _)) | (go_at_call 25; with_reducible exact calls_in_same (HCb.out _))) | quiet_step (first | (go_at_call 25; with_reducible exact calls_in_same (HCa.out _)) | (go_at_call 25; with_reducible exact calls_in_same (HCb.out _))))
    refine wpQuiet_nil ?_
    intro _ hw'
    obtain ⟨t, hw''⟩ := hw'
    subst hw''
    have hbt := t.h
    have k0 := Blk.via hbt k0
    clear q0
    generalize t.w = wt at hbt k0 ⊢
    have q0 := k0.cell
    go_wp2_with (go_at_call 25; refine (HN.out _).mono ?_; rintro e w' ⟨rfl, rfl⟩)
    go_ret
    refine ⟨ret_tx ?_, below_via hbW hbt hbW.size⟩
    simp only [ByteArray.data_append, Array.toList_append, HBa.out, HBb.out, HN2.out]
    unfold callT
    simp
  · go_enter Tryd.func26, Tryd.ntmps26
    go_wp2
    go_ret
    refine ⟨ret_tx ?_, below2 _ _ _⟩
    simp only [ByteArray.data_append, Array.toList_append]
    unfold callT
    simp
  · go_enter Tryd.func26, Tryd.ntmps26
    go_wp2_with (go_at_call 25; refine (HN.out _).mono ?_; rintro e w' ⟨rfl, rfl⟩)
    go_ret
    refine ⟨ret_tx ?_, below2 _ _ _⟩
    simp only [ByteArray.data_append, Array.toList_append, HN2.out]
    unfold callT
    simp
  · go_enter Tryd.func26, Tryd.ntmps26
    go_wp2_with (go_at_call 25; refine (HN.out _).mono ?_; rintro e w' ⟨rfl, rfl⟩)
    go_ret
    refine ⟨ret_tx ?_, below2 _ _ _⟩
    simp only [ByteArray.data_append, Array.toList_append, HN2.out]
    unfold callT
    simp
end Go.Proofs.YtgokkbocboonnaaDoor
