/-
  WALKS OF THE REFERENCE: moneyerref40.Line.
-/
import Derived.Test.YtkhckehecnobjaaDoorSH
namespace Go.Proofs.YtkhckehecnobjaaDoor
open Go.RowKit Go.Lib

set_option maxHeartbeats 3200000 in
theorem fLine_any (x : EvD) (A D : Option Addr) (n c m d : Nat) (B : Nat) (w : World) (hB : B ≤ w.heap.size) (hs : EvSm x) (h : BytesAt w B (.slice A n c) x.op.data) (hd : BytesAt w B (.slice D m d) x.cell.data) :
    Calls Tryd.prog 9 #[.agg #[.int .i64 x.act, .int .i64 x.client, .int .i64 x.txn, .int .i64 x.op.act, .string x.op.key, .slice A n c, .int .i64 x.op.lo, .int .i64 x.op.hi, .int .i64 x.op.n, .int .i64 x.err, .int .i64 x.cell.kind, .slice D m d, .int .i64 x.cell.lo, .int .i64 x.cell.hi, .int .i64 x.cell.val]] w fun e w' => e = .returned (.string (tx (lineT x))) ∧ Below w.heap.size w w' := by
  obtain ⟨s1, HA1, HA2, ha⟩ := letter (num x.txn)
  obtain ⟨s2, HB1, HB2, hb⟩ := letter (num x.client)
  have hl1 := num_len hs.2.2.2.1
  have hl2 := num_len hs.2.2.2.2.1
  have HX1 := hide (fun W : World => HA1.out ▸ Num_any x.txn W hs.2.2.2.1.1 hs.2.2.2.1.2)
  have HX2 := hide (fun W : World => HB1.out ▸ Num_any x.client W hs.2.2.2.2.1.1 hs.2.2.2.2.1.2)
  clear HA1 HB1
  by_cases a0 : x.act = 0
  · have b0 : ((x.act : Int) == 0) = true := by simpa using a0
    have HH := hide (show happT x = [98, 101, 103, 105, 110] by unfold happT; rw [if_pos a0])
    clear h hd hs
    go_enter Tryd.func9, Tryd.ntmps9
    go_wp2
    refine gen1 (fun W k0 hbW hz => ?_)
    have q0 : ∀ (t : In (Below W.heap.size W)) (i : Nat), t.w.cell? ⟨w.heap.size, i, none⟩ = _ := fun t => (Blk.via t.h k0).cell
    refine wp_region_in (C := (Below W.heap.size W)) (by kernel_rfl) (by kernel_rfl) (Below.refl _ _).drew ?_
    repeat (first | go_big_quiet_step (first | (go_at_call 20; with_reducible exact calls_in_same (HX1.out _)) | (go_at_call 20; with_reducible exact calls_in_same (HX2.out _))) | quiet_step (first | (go_at_call 20; with_reducible exact calls_in_same (HX1.out _)) | (go_at_call 20; with_reducible exact calls_in_same (HX2.out _))))
    refine wpQuiet_nil ?_
    intro _ hw'
    obtain ⟨t, hw''⟩ := hw'
    subst hw''
    have hbt := t.h
    have k0 := Blk.via hbt k0
    clear q0
    generalize t.w = wt at hbt k0 ⊢
    clear t
    have q0 := k0.cell
    have hb0 : Below w.heap.size w wt := below_via hbW hbt hbW.size
    go_wp2
    go_ret
    refine ⟨ret_tx ?_, hb0⟩
    simp only [ByteArray.data_append, Array.toList_append, HA2.out, HB2.out]
    unfold lineT
    rw [HH.out]
    simp
  have b0 : ((x.act : Int) == 0) = false := by simpa using a0
  by_cases a1 : x.act = 1
  · have b1 : ((x.act : Int) == 1) = true := by simpa using a1
    have HH := hide (show happT x = opT x.op ++ 32 :: 61 :: 32 :: ansT x.err x.cell by unfold happT; rw [if_neg a0, if_pos a1])
    have hn : n = x.op.data.length := by
      obtain ⟨A', n', c', e, _, _, hnl, _⟩ := h
      injection e with _ e
      rw [e, hnl]
    obtain ⟨s3, HC1, HC2, hc⟩ := letter (callT x.op)
    obtain ⟨s4, HD1, HD2, hdd⟩ := letter (ansT x.err x.cell)
    have hl3 := callT_len hs.1
    have hl4 := ansT_len hs.2.2.1 hs.2.1
    have HR := hide (fun W => rRight_call x.op 0 0 0 A none n c 0 0 W hn (by have := hs.1.1; omega) (by omega) (by omega))
    have HO := hide (fun W (hb' : Below w.heap.size w W) (hc' : isCallB x.op = true) => HC1.out ▸ rOp_any x.op A n c B W (Nat.le_trans hB hb'.size) hs.1 (h.below hb' hB) hc')
    have HAN := hide (fun W (hb' : Below w.heap.size w W) => HD1.out ▸ rAnswer_any x.err x.cell D m d B W (Nat.le_trans hB hb'.size) hs.2.2.1 hs.2.1 (hd.below hb' hB))
    clear h hd hs hn HC1 HD1 a0 a1
    cases hg : isCallB x.op
    · have HOP := hide (show opT x.op = [63] by unfold opT; rw [hg]; rfl)
      rw [hg] at HR
      clear hg
      go_enter Tryd.func9, Tryd.ntmps9
      go_wp2
      refine gen1 (fun W k0 hbW hz => ?_)
      have q0 : ∀ (t : In (Below W.heap.size W)) (i : Nat), t.w.cell? ⟨w.heap.size, i, none⟩ = _ := fun t => (Blk.via t.h k0).cell
      refine wp_region_in (C := (Below W.heap.size W)) (by kernel_rfl) (by kernel_rfl) (Below.refl _ _).drew ?_
      repeat (first | go_big_quiet_step (first | (go_at_call 20; with_reducible exact calls_in_same (HX1.out _)) | (go_at_call 20; with_reducible exact calls_in_same (HX2.out _))) | quiet_step (first | (go_at_call 20; with_reducible exact calls_in_same (HX1.out _)) | (go_at_call 20; with_reducible exact calls_in_same (HX2.out _))))
      refine wpQuiet_nil ?_
      intro _ hw'
      obtain ⟨t, hw''⟩ := hw'
      subst hw''
      have hbt := t.h
      have k0 := Blk.via hbt k0
      clear q0
      generalize t.w = wt at hbt k0 ⊢
      clear t
      have q0 := k0.cell
      have hb0 : Below w.heap.size w wt := below_via hbW hbt hbW.size
      go_wp2_with fail
      refine (HR.out _).mono ?_
      rintro e w1 ⟨rfl, hb1⟩
      have hb01 := below_via hb0 hb1 hb0.size
      have q1 := (Blk.via hb1 k0).cell
      clear q0
      go_wp2_with fail
      refine (HAN.out _ hb01).mono ?_
      rintro e w2 ⟨rfl, hb2⟩
      go_wp2
      go_ret
      refine ⟨ret_tx ?_, below_via hb01 hb2 hb01.size⟩
      simp only [ByteArray.data_append, Array.toList_append, HA2.out, HB2.out, HD2.out]
      unfold lineT
      rw [HH.out, HOP.out]
      simp
    · have HOP := hide (show opT x.op = callT x.op by unfold opT; rw [hg]; rfl)
      have HO' := hide (fun W hb' => HO.out W hb' hg)
      rw [hg] at HR
      clear hg HO
      go_enter Tryd.func9, Tryd.ntmps9
      go_wp2
      refine gen1 (fun W k0 hbW hz => ?_)
      have q0 : ∀ (t : In (Below W.heap.size W)) (i : Nat), t.w.cell? ⟨w.heap.size, i, none⟩ = _ := fun t => (Blk.via t.h k0).cell
      refine wp_region_in (C := (Below W.heap.size W)) (by kernel_rfl) (by kernel_rfl) (Below.refl _ _).drew ?_
      repeat (first | go_big_quiet_step (first | (go_at_call 20; with_reducible exact calls_in_same (HX1.out _)) | (go_at_call 20; with_reducible exact calls_in_same (HX2.out _))) | quiet_step (first | (go_at_call 20; with_reducible exact calls_in_same (HX1.out _)) | (go_at_call 20; with_reducible exact calls_in_same (HX2.out _))))
      refine wpQuiet_nil ?_
      intro _ hw'
      obtain ⟨t, hw''⟩ := hw'
      subst hw''
      have hbt := t.h
      have k0 := Blk.via hbt k0
      clear q0
      generalize t.w = wt at hbt k0 ⊢
      clear t
      have q0 := k0.cell
      have hb0 : Below w.heap.size w wt := below_via hbW hbt hbW.size
      go_wp2_with fail
      refine (HR.out _).mono ?_
      rintro e w1 ⟨rfl, hb1⟩
      have hb01 := below_via hb0 hb1 hb0.size
      have k1 := Blk.via hb1 k0
      have q1 := k1.cell
      clear q0
      go_wp2_with fail
      refine (HO'.out _ hb01).mono ?_
      rintro e w2 ⟨rfl, hb2⟩
      have hb02 := below_via hb01 hb2 hb01.size
      have q2 := (Blk.via hb2 k1).cell
      clear q1
      go_wp2_with fail
      refine (HAN.out _ hb02).mono ?_
      rintro e w3 ⟨rfl, hb3⟩
      go_wp2
      go_ret
      refine ⟨ret_tx ?_, below_via hb02 hb3 hb02.size⟩
      simp only [ByteArray.data_append, Array.toList_append, HA2.out, HB2.out, HC2.out, HD2.out]
      unfold lineT
      rw [HH.out, HOP.out]
      simp
  have b1 : ((x.act : Int) == 1) = false := by simpa using a1
  by_cases a2 : x.act = 2
  · have b2 : ((x.act : Int) == 2) = true := by simpa using a2
    have HH := hide (show happT x = [99, 111, 109, 109, 105, 116] by unfold happT; rw [if_neg a0, if_neg a1, if_pos a2])
    clear h hd hs
    go_enter Tryd.func9, Tryd.ntmps9
    go_wp2
    refine gen1 (fun W k0 hbW hz => ?_)
    have q0 : ∀ (t : In (Below W.heap.size W)) (i : Nat), t.w.cell? ⟨w.heap.size, i, none⟩ = _ := fun t => (Blk.via t.h k0).cell
    refine wp_region_in (C := (Below W.heap.size W)) (by kernel_rfl) (by kernel_rfl) (Below.refl _ _).drew ?_
    repeat (first | go_big_quiet_step (first | (go_at_call 20; with_reducible exact calls_in_same (HX1.out _)) | (go_at_call 20; with_reducible exact calls_in_same (HX2.out _))) | quiet_step (first | (go_at_call 20; with_reducible exact calls_in_same (HX1.out _)) | (go_at_call 20; with_reducible exact calls_in_same (HX2.out _))))
    refine wpQuiet_nil ?_
    intro _ hw'
    obtain ⟨t, hw''⟩ := hw'
    subst hw''
    have hbt := t.h
    have k0 := Blk.via hbt k0
    clear q0
    generalize t.w = wt at hbt k0 ⊢
    clear t
    have q0 := k0.cell
    have hb0 : Below w.heap.size w wt := below_via hbW hbt hbW.size
    go_wp2
    go_ret
    refine ⟨ret_tx ?_, hb0⟩
    simp only [ByteArray.data_append, Array.toList_append, HA2.out, HB2.out]
    unfold lineT
    rw [HH.out]
    simp
  have b2 : ((x.act : Int) == 2) = false := by simpa using a2
  by_cases a3 : x.act = 3
  · have b3 : ((x.act : Int) == 3) = true := by simpa using a3
    have HH := hide (show happT x = [101, 110, 100] by unfold happT; rw [if_neg a0, if_neg a1, if_neg a2, if_pos a3])
    clear h hd hs
    go_enter Tryd.func9, Tryd.ntmps9
    go_wp2
    refine gen1 (fun W k0 hbW hz => ?_)
    have q0 : ∀ (t : In (Below W.heap.size W)) (i : Nat), t.w.cell? ⟨w.heap.size, i, none⟩ = _ := fun t => (Blk.via t.h k0).cell
    refine wp_region_in (C := (Below W.heap.size W)) (by kernel_rfl) (by kernel_rfl) (Below.refl _ _).drew ?_
    repeat (first | go_big_quiet_step (first | (go_at_call 20; with_reducible exact calls_in_same (HX1.out _)) | (go_at_call 20; with_reducible exact calls_in_same (HX2.out _))) | quiet_step (first | (go_at_call 20; with_reducible exact calls_in_same (HX1.out _)) | (go_at_call 20; with_reducible exact calls_in_same (HX2.out _))))
    refine wpQuiet_nil ?_
    intro _ hw'
    obtain ⟨t, hw''⟩ := hw'
    subst hw''
    have hbt := t.h
    have k0 := Blk.via hbt k0
    clear q0
    generalize t.w = wt at hbt k0 ⊢
    clear t
    have q0 := k0.cell
    have hb0 : Below w.heap.size w wt := below_via hbW hbt hbW.size
    go_wp2
    go_ret
    refine ⟨ret_tx ?_, hb0⟩
    simp only [ByteArray.data_append, Array.toList_append, HA2.out, HB2.out]
    unfold lineT
    rw [HH.out]
    simp
  have b3 : ((x.act : Int) == 3) = false := by simpa using a3
  by_cases a4 : x.act = 4
  · have b4 : ((x.act : Int) != 4) = false := by simpa using a4
    by_cases ae : x.err = 0
    · have be : ((x.err : Int) != 0) = false := by simpa using ae
      have HH := hide (show happT x = [97, 98, 111, 114, 116] by unfold happT; rw [if_neg a0, if_neg a1, if_neg a2, if_neg a3, if_pos a4, if_neg (by simp [ae])])
      clear h hd hs
      go_enter Tryd.func9, Tryd.ntmps9
      go_wp2
      refine gen1 (fun W k0 hbW hz => ?_)
      have q0 : ∀ (t : In (Below W.heap.size W)) (i : Nat), t.w.cell? ⟨w.heap.size, i, none⟩ = _ := fun t => (Blk.via t.h k0).cell
      refine wp_region_in (C := (Below W.heap.size W)) (by kernel_rfl) (by kernel_rfl) (Below.refl _ _).drew ?_
      repeat (first | go_big_quiet_step (first | (go_at_call 20; with_reducible exact calls_in_same (HX1.out _)) | (go_at_call 20; with_reducible exact calls_in_same (HX2.out _))) | quiet_step (first | (go_at_call 20; with_reducible exact calls_in_same (HX1.out _)) | (go_at_call 20; with_reducible exact calls_in_same (HX2.out _))))
      refine wpQuiet_nil ?_
      intro _ hw'
      obtain ⟨t, hw''⟩ := hw'
      subst hw''
      have hbt := t.h
      have k0 := Blk.via hbt k0
      clear q0
      generalize t.w = wt at hbt k0 ⊢
      clear t
      have q0 := k0.cell
      have hb0 : Below w.heap.size w wt := below_via hbW hbt hbW.size
      go_wp2
      go_ret
      refine ⟨ret_tx ?_, hb0⟩
      simp only [ByteArray.data_append, Array.toList_append, HA2.out, HB2.out]
      unfold lineT
      rw [HH.out]
      simp
    · have be : ((x.err : Int) != 0) = true := by simpa using ae
      have HH := hide (show happT x = [97, 98, 111, 114, 116, 32, 101, 114, 114, 111, 114, 32] ++ num x.err by unfold happT; rw [if_neg a0, if_neg a1, if_neg a2, if_neg a3, if_pos a4, if_pos ae])
      obtain ⟨s3, HC1, HC2, hc⟩ := letter (num x.err)
      have hl3 := num_len hs.2.2.1
      have HX3 := hide (fun W : World => HC1.out ▸ Num_any x.err W hs.2.2.1.1 hs.2.2.1.2)
      clear h hd hs HC1
      go_enter Tryd.func9, Tryd.ntmps9
      go_wp2
      refine gen1 (fun W k0 hbW hz => ?_)
      have q0 : ∀ (t : In (Below W.heap.size W)) (i : Nat), t.w.cell? ⟨w.heap.size, i, none⟩ = _ := fun t => (Blk.via t.h k0).cell
      refine wp_region_in (C := (Below W.heap.size W)) (by kernel_rfl) (by kernel_rfl) (Below.refl _ _).drew ?_
      repeat (first | go_big_quiet_step (first | (go_at_call 20; with_reducible exact calls_in_same (HX1.out _)) | (go_at_call 20; with_reducible exact calls_in_same (HX2.out _))) | quiet_step (first | (go_at_call 20; with_reducible exact calls_in_same (HX1.out _)) | (go_at_call 20; with_reducible exact calls_in_same (HX2.out _))))
      refine wpQuiet_nil ?_
      intro _ hw'
      obtain ⟨t, hw''⟩ := hw'
      subst hw''
      have hbt := t.h
      have k0 := Blk.via hbt k0
      clear q0
      generalize t.w = wt at hbt k0 ⊢
      clear t
      have q0 := k0.cell
      have hb0 : Below w.heap.size w wt := below_via hbW hbt hbW.size
      go_wp2_with (go_at_call 20; refine (HX3.out _).mono ?_; rintro e w' ⟨rfl, rfl⟩)
      go_ret
      refine ⟨ret_tx ?_, hb0⟩
      simp only [ByteArray.data_append, Array.toList_append, HA2.out, HB2.out, HC2.out]
      unfold lineT
      rw [HH.out]
      simp
  have b4 : ((x.act : Int) != 4) = true := by simpa using a4
  have HH := hide (show happT x = [63] by unfold happT; rw [if_neg a0, if_neg a1, if_neg a2, if_neg a3, if_neg a4])
  clear h hd hs
  go_enter Tryd.func9, Tryd.ntmps9
  go_wp2
  refine gen1 (fun W k0 hbW hz => ?_)
  have q0 : ∀ (t : In (Below W.heap.size W)) (i : Nat), t.w.cell? ⟨w.heap.size, i, none⟩ = _ := fun t => (Blk.via t.h k0).cell
  refine wp_region_in (C := (Below W.heap.size W)) (by kernel_rfl) (by kernel_rfl) (Below.refl _ _).drew ?_
  repeat (first | go_big_quiet_step (first | (go_at_call 20; with_reducible exact calls_in_same (HX1.out _)) | (go_at_call 20; with_reducible exact calls_in_same (HX2.out _))) | quiet_step (first | (go_at_call 20; with_reducible exact calls_in_same (HX1.out _)) | (go_at_call 20; with_reducible exact calls_in_same (HX2.out _))))
  refine wpQuiet_nil ?_
  intro _ hw'
  obtain ⟨t, hw''⟩ := hw'
  subst hw''
  have hbt := t.h
  have k0 := Blk.via hbt k0
  clear q0
  generalize t.w = wt at hbt k0 ⊢
  clear t
  have q0 := k0.cell
  have hb0 : Below w.heap.size w wt := below_via hbW hbt hbW.size
  go_wp2
  go_ret
  refine ⟨ret_tx ?_, hb0⟩
  simp only [ByteArray.data_append, Array.toList_append, HA2.out, HB2.out]
  unfold lineT
  rw [HH.out]
  simp
end Go.Proofs.YtkhckehecnobjaaDoor
