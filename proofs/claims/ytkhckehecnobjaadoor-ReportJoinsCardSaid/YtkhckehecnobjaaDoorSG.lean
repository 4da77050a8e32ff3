/-
  WALKS OF THE PROGRAM: report.happened, report.Line.
-/
import Derived.Test.YtkhckehecnobjaaDoorSE
import Derived.Test.YtkhckehecnobjaaDoorSF
namespace Go.Proofs.YtkhckehecnobjaaDoor
open Go.RowKit Go.Lib

set_option maxHeartbeats 3200000 in
theorem happened_any (x : EvD) (A D : Option Addr) (n c m d : Nat) (B : Nat) (w : World) (hB : B ≤ w.heap.size) (hs : EvSm x) (h : BytesAt w B (.slice A n c) x.op.data) (hd : BytesAt w B (.slice D m d) x.cell.data) (ht : PTab w) :
    Calls Tryd.prog 19 #[.agg #[.int .i64 x.act, .int .i64 x.client, .int .i64 x.txn, .int .i64 x.op.act, .string x.op.key, .slice A n c, .int .i64 x.op.lo, .int .i64 x.op.hi, .int .i64 x.op.n, .int .i64 x.err, .int .i64 x.cell.kind, .slice D m d, .int .i64 x.cell.lo, .int .i64 x.cell.hi, .int .i64 x.cell.val]] w fun e w' => e = .returned (.string (tx (happT x))) ∧ Below w.heap.size w w' := by
  by_cases a0 : x.act = 0
  · have b0 : ((x.act : Int) == 0) = true := by simpa using a0
    have HH := hide (show happT x = [98, 101, 103, 105, 110] by unfold happT; rw [if_pos a0])
    clear h hd ht hs
    go_enter Tryd.func19, Tryd.ntmps19
    go_wp2
    go_ret
    exact ⟨lit_ret HH.out, (Below.refl _ _).alloc (Nat.le_refl _) _⟩
  have b0 : ((x.act : Int) == 0) = false := by simpa using a0
  by_cases a1 : x.act = 1
  · have b1 : ((x.act : Int) == 1) = true := by simpa using a1
    have HH := hide (show happT x = opT x.op ++ 32 :: ([61] ++ 32 :: ansT x.err x.cell) by unfold happT; rw [if_neg a0, if_pos a1]; rfl)
    obtain ⟨s1, HA1, HA2, ha⟩ := letter (opT x.op)
    obtain ⟨s2, HB1, HB2, hb⟩ := letter (ansT x.err x.cell)
    have hl1 := opT_len hs.1
    have hl2 := ansT_len hs.2.2.1 hs.2.1
    have hs1 := hs.1
    have hs2 := hs.2.1
    have hs3 := hs.2.2.1
    clear a0 a1
    go_enter Tryd.func19, Tryd.ntmps19
    go_wp2
    refine gen1 (fun W k0 hbW hz => ?_)
    have q0 : ∀ (t : In (Below W.heap.size W)) (i : Nat), t.w.cell? ⟨w.heap.size, i, none⟩ = _ := fun t => (Blk.via t.h k0).cell
    have HC1 := hide (fun t : In (Below W.heap.size W) => HA1.out ▸ rcall_any x.op A n c B t.w (by have := t.h.size; omega) hs1 ((h.below hbW hB).below t.h (by omega)) ((ht.below hbW).below t.h))
    have HC2 := hide (fun t : In (Below W.heap.size W) => HB1.out ▸ cAnswer_any x.err x.cell D m d B t.w (by have := t.h.size; omega) hs3 hs2 ((hd.below hbW hB).below t.h (by omega)) ((ht.below hbW).below t.h))
    clear h hd ht hs hs1 hs2 hs3 HA1 HB1
    refine wp_region_in_tail (C := (Below W.heap.size W)) 6 (by kernel_rfl) (by kernel_rfl) (Below.refl _ _).drew ?_
    simp only [List.take_succ_cons, List.take_zero, List.drop_succ_cons, List.drop_zero]
    repeat (first | go_big_quiet_step (first | (go_at_call 34; with_reducible exact calls_in (Nat.le_refl _) (HC1.out _)) | (go_at_call 35; with_reducible exact calls_in (Nat.le_refl _) (HC2.out _))) | quiet_step (first | (go_at_call 34; with_reducible exact calls_in (Nat.le_refl _) (HC1.out _)) | (go_at_call 35; with_reducible exact calls_in (Nat.le_refl _) (HC2.out _))))
    refine wpQuiet_nil ?_
    intro _ hw'
    obtain ⟨t, hw''⟩ := hw'
    subst hw''
    have hbt := t.h
    generalize t.w = wt at hbt ⊢
    clear t q0
    go_wp2_with fail
    refine (rjoin3 _ _ _ _ _ _ (Blk.new _ _ _) (by show s1.size + 1 + s2.size ≤ _; omega)).mono ?_
    rintro e w1 ⟨rfl, hb1⟩
    go_wp2
    go_ret
    exact ⟨ret_txt (by rw [HA2.out, HB2.out]; exact HH.out.symm), below_chain hbW hbt hb1⟩
  have b1 : ((x.act : Int) == 1) = false := by simpa using a1
  by_cases a2 : x.act = 2
  · have b2 : ((x.act : Int) == 2) = true := by simpa using a2
    have HH := hide (show happT x = [99, 111, 109, 109, 105, 116] by unfold happT; rw [if_neg a0, if_neg a1, if_pos a2])
    clear h hd ht hs
    go_enter Tryd.func19, Tryd.ntmps19
    go_wp2
    go_ret
    exact ⟨lit_ret HH.out, (Below.refl _ _).alloc (Nat.le_refl _) _⟩
  have b2 : ((x.act : Int) == 2) = false := by simpa using a2
  by_cases a3 : x.act = 3
  · have b3 : ((x.act : Int) == 3) = true := by simpa using a3
    have HH := hide (show happT x = [101, 110, 100] by unfold happT; rw [if_neg a0, if_neg a1, if_neg a2, if_pos a3])
    clear h hd ht hs
    go_enter Tryd.func19, Tryd.ntmps19
    go_wp2
    go_ret
    exact ⟨lit_ret HH.out, (Below.refl _ _).alloc (Nat.le_refl _) _⟩
  have b3 : ((x.act : Int) == 3) = false := by simpa using a3
  by_cases a4 : x.act = 4
  · have b4 : ((x.act : Int) == 4) = true := by simpa using a4
    by_cases ae : x.err = 0
    · have be : ((x.err : Int) != 0) = false := by simpa using ae
      have HH := hide (show happT x = [97, 98, 111, 114, 116] by unfold happT; rw [if_neg a0, if_neg a1, if_neg a2, if_neg a3, if_pos a4, if_neg (by simp [ae])])
      clear h hd ht hs
      go_enter Tryd.func19, Tryd.ntmps19
      go_wp2
      go_ret
      exact ⟨lit_ret HH.out, (Below.refl _ _).alloc (Nat.le_refl _) _⟩
    · have be : ((x.err : Int) != 0) = true := by simpa using ae
      have HH := hide (show happT x = [97, 98, 111, 114, 116] ++ 32 :: ([101, 114, 114, 111, 114] ++ 32 :: num x.err) by unfold happT; rw [if_neg a0, if_neg a1, if_neg a2, if_neg a3, if_pos a4, if_pos ae]; rfl)
      obtain ⟨s1, HA1, HA2, ha⟩ := letter (num x.err)
      have hl1 := num_len hs.2.2.1
      have HC := hide (fun W (hb' : Below w.heap.size w W) => HA1.out ▸ rnumber_any x.err W hs.2.2.1.1 hs.2.2.1.2 (ht.below hb'))
      clear h hd ht hs a0 a1 a2 a3 a4 ae HA1
      go_enter Tryd.func19, Tryd.ntmps19
      go_wp2_with fail
      refine (HC.out _ ((Below.refl _ _).alloc (Nat.le_refl _) _)).mono ?_
      rintro e w1 ⟨rfl, hb1⟩
      have hb01 : Below w.heap.size w w1 := below_via ((Below.refl _ _).alloc (Nat.le_refl _) _) hb1 (by simp)
      go_wp2_with fail
      refine (rjoin3 _ _ _ _ _ _ (Blk.new _ _ _) (by show 5 + 5 + s1.size ≤ _; omega)).mono ?_
      rintro e w2 ⟨rfl, hb2⟩
      go_wp2
      go_ret
      exact ⟨ret_txt (by rw [HA2.out]; exact HH.out.symm), below_via (hb01.alloc hb01.size _) hb2 (by have := hb01.size; simp; omega)⟩
  have b4 : ((x.act : Int) == 4) = false := by simpa using a4
  have HH := hide (show happT x = [63] by unfold happT; rw [if_neg a0, if_neg a1, if_neg a2, if_neg a3, if_neg a4])
  clear h hd ht hs
  go_enter Tryd.func19, Tryd.ntmps19
  go_wp2
  go_ret
  exact ⟨lit_ret HH.out, (Below.refl _ _).alloc (Nat.le_refl _) _⟩

set_option maxHeartbeats 3200000 in
theorem rLine_any (x : EvD) (A D : Option Addr) (n c m d : Nat) (B : Nat) (w : World) (hB : B ≤ w.heap.size) (hs : EvSm x) (h : BytesAt w B (.slice A n c) x.op.data) (hd : BytesAt w B (.slice D m d) x.cell.data) (ht : PTab w) :
    Calls Tryd.prog 8 #[.agg #[.int .i64 x.act, .int .i64 x.client, .int .i64 x.txn, .int .i64 x.op.act, .string x.op.key, .slice A n c, .int .i64 x.op.lo, .int .i64 x.op.hi, .int .i64 x.op.n, .int .i64 x.err, .int .i64 x.cell.kind, .slice D m d, .int .i64 x.cell.lo, .int .i64 x.cell.hi, .int .i64 x.cell.val]] w fun e w' => e = .returned (.string (tx (lineT x))) ∧ Below w.heap.size w w' := by
  obtain ⟨s1, HA1, HA2, ha⟩ := letter (num x.txn)
  obtain ⟨s2, HB1, HB2, hb⟩ := letter (num x.client)
  obtain ⟨s3, HC1, HC2, hc⟩ := letter (happT x)
  have hl1 := num_len hs.2.2.2.1
  have hl2 := num_len hs.2.2.2.2.1
  have hl3 := happT_len hs
  have hs4 := hs.2.2.2.1
  have hs5 := hs.2.2.2.2.1
  go_enter Tryd.func8, Tryd.ntmps8
  go_wp2
  refine gen1 (fun W k0 hbW hz => ?_)
  have q0 : ∀ (t : In (Below W.heap.size W)) (i : Nat), t.w.cell? ⟨w.heap.size, i, none⟩ = _ := fun t => (Blk.via t.h k0).cell
  have HX1 := hide (fun t : In (Below W.heap.size W) => HA1.out ▸ rnumber_any x.txn t.w hs4.1 hs4.2 ((ht.below hbW).below t.h))
  have HX2 := hide (fun t : In (Below W.heap.size W) => HB1.out ▸ rnumber_any x.client t.w hs5.1 hs5.2 ((ht.below hbW).below t.h))
  have HX3 := hide (fun t : In (Below W.heap.size W) => HC1.out ▸ happened_any x A D n c m d B t.w (by have := t.h.size; omega) hs ((h.below hbW hB).below t.h (by omega)) ((hd.below hbW hB).below t.h (by omega)) ((ht.below hbW).below t.h))
  clear h hd ht hs hs4 hs5 HA1 HB1 HC1
  refine wp_region_in_tail (C := (Below W.heap.size W)) 8 (by kernel_rfl) (by kernel_rfl) (Below.refl _ _).drew ?_
  simp only [List.take_succ_cons, List.take_zero, List.drop_succ_cons, List.drop_zero]
  repeat (first | go_big_quiet_step (first | (go_at_call 18; with_reducible exact calls_in (Nat.le_refl _) (HX1.out _)) | (go_at_call 18; with_reducible exact calls_in (Nat.le_refl _) (HX2.out _)) | (go_at_call 19; with_reducible exact calls_in (Nat.le_refl _) (HX3.out _))) | quiet_step (first | (go_at_call 18; with_reducible exact calls_in (Nat.le_refl _) (HX1.out _)) | (go_at_call 18; with_reducible exact calls_in (Nat.le_refl _) (HX2.out _)) | (go_at_call 19; with_reducible exact calls_in (Nat.le_refl _) (HX3.out _))))
  refine wpQuiet_nil ?_
  intro _ hw'
  obtain ⟨t, hw''⟩ := hw'
  subst hw''
  have hbt := t.h
  generalize t.w = wt at hbt ⊢
  clear t q0
  go_wp2_with fail
  refine (rjoin3 _ _ _ _ _ _ (Blk.new _ _ _) (by show s1.size + s2.size + s3.size ≤ _; omega)).mono ?_
  rintro e w1 ⟨rfl, hb1⟩
  go_wp2
  go_ret
  exact ⟨ret_txt (by rw [HA2.out, HB2.out, HC2.out]; rfl), below_chain hbW hbt hb1⟩
end Go.Proofs.YtkhckehecnobjaaDoor
