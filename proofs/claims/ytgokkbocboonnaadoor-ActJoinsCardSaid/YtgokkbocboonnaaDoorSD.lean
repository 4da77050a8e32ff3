/-
  WALKS OF THE PROGRAM: join of two, three, five words; act.call.
-/
import Derived.Test.YtgokkbocboonnaaDoorSC
import Derived.Test.YtgokkbocboonnaaDoorQin
namespace Go.Proofs.YtgokkbocboonnaaDoor
open Go.RowKit Go.Lib

theorem join2 (a b : List UInt8) : Lib.join [a, b] [32] = a ++ 32 :: b := by simp [Lib.join, List.intercalate]
theorem join3 (a b c : List UInt8) : Lib.join [a, b, c] [32] = a ++ 32 :: (b ++ 32 :: c) := by simp [Lib.join, List.intercalate]
theorem join5 (a b c d e : List UInt8) : Lib.join [a, b, c, d, e] [32] = a ++ 32 :: (b ++ 32 :: (c ++ 32 :: (d ++ 32 :: e))) := by simp [Lib.join, List.intercalate]
theorem ajoin2 (g : Nat) (a b : ByteArray) (t : TypeId) (w : World) (k : Blk w g t #[.string a, .string b]) (hl : a.size + b.size ≤ 100000) :
    Calls Tryd.prog 29 #[.slice (some ⟨g, 0, none⟩) 2 2] w fun e w' => e = .returned (.string (tx (a.data.toList ++ 32 :: b.data.toList))) ∧ Below w.heap.size w w' := by
  have h := ajoin_any g [a, b] t w k (by simp) (by simp only [List.map_cons, List.map_nil, join2, List.length_append, List.length_cons, key_len]; omega)
  simp only [List.map_cons, List.map_nil, join2] at h
  exact h
theorem ajoin3 (g : Nat) (a b c : ByteArray) (t : TypeId) (w : World) (k : Blk w g t #[.string a, .string b, .string c]) (hl : a.size + b.size + c.size ≤ 100000) :
    Calls Tryd.prog 29 #[.slice (some ⟨g, 0, none⟩) 3 3] w fun e w' => e = .returned (.string (tx (a.data.toList ++ 32 :: (b.data.toList ++ 32 :: c.data.toList)))) ∧ Below w.heap.size w w' := by
  have h := ajoin_any g [a, b, c] t w k (by simp) (by simp only [List.map_cons, List.map_nil, join3, List.length_append, List.length_cons, key_len]; omega)
  simp only [List.map_cons, List.map_nil, join3] at h
  exact h
theorem ajoin5 (g : Nat) (a b c d e : ByteArray) (t : TypeId) (w : World) (k : Blk w g t #[.string a, .string b, .string c, .string d, .string e]) (hl : a.size + b.size + c.size + d.size + e.size ≤ 100000) :
    Calls Tryd.prog 29 #[.slice (some ⟨g, 0, none⟩) 5 5] w fun r w' => r = .returned (.string (tx (a.data.toList ++ 32 :: (b.data.toList ++ 32 :: (c.data.toList ++ 32 :: (d.data.toList ++ 32 :: e.data.toList)))))) ∧ Below w.heap.size w w' := by
  have h := ajoin_any g [a, b, c, d, e] t w k (by simp) (by simp only [List.map_cons, List.map_nil, join5, List.length_append, List.length_cons, key_len]; omega)
  simp only [List.map_cons, List.map_nil, join5] at h
  exact h
theorem Blk.new2 (w : World) (o : Obj) (t : TypeId) (cs : Array Value) : Blk ((w.alloc o).alloc (.cells cs t)) (w.heap.size + 1) t cs := by simpa using Blk.new (w.alloc o) t cs
theorem ret_txt {s t : List UInt8} (h : s = t) : Ending.returned (.string (tx s)) = .returned (.string (tx t)) := by rw [h]
/-- A text under a letter, with its bytes. -/
theorem letter (l : List UInt8) : ∃ s : ByteArray, Hid (tx l = s) ∧ Hid (s.data.toList = l) ∧ s.size = l.length := ⟨tx l, rfl, tx_data l, tx_size l⟩

theorem below_chain {w W wt w1 : World} {o : Obj} (hbW : Below w.heap.size w W) (hbt : Below W.heap.size W wt) (hb1 : Below (wt.alloc o).heap.size (wt.alloc o) w1) : Below w.heap.size w w1 :=
  below_via ((below_via hbW hbt hbW.size).alloc (Nat.le_trans hbW.size hbt.size) o) hb1 (by have := hbW.size; have := hbt.size; simp; omega)
set_option maxHeartbeats 1600000 in
theorem acall_any (x : OpD) (A : Option Addr) (n c : Nat) (B : Nat) (w : World) (hB : B ≤ w.heap.size) (hs : OpSm x) (h : BytesAt w B (.slice A n c) x.data) (ht : PTab w) :
    Calls Tryd.prog 31 #[.agg #[.int .i64 x.act, .string x.key, .slice A n c, .int .i64 x.lo, .int .i64 x.hi, .int .i64 x.n]] w fun e w' => e = .returned (.string (tx (callT x))) ∧ Below w.heap.size w w' := by
  have hlen := callT_len hs
  obtain ⟨act, key, data, lo, hi, nn⟩ := x
  obtain ⟨hk, hd, ha, h4, h5, h6⟩ := hs
  dsimp only at *
  have HD := hide h
  have HDL := hide (hexT_len data)
  have HT := hide ht
  clear h ht hlen
  by_cases a6 : act = 6
  · subst a6
    go_enter Tryd.func31, Tryd.ntmps31
    go_wp2
    go_ret
    exact ⟨rfl, (Below.refl _ _).alloc (Nat.le_refl _) _⟩
  by_cases a7 : act = 7
  · subst a7
    go_enter Tryd.func31, Tryd.ntmps31
    go_wp2
    go_ret
    exact ⟨rfl, (Below.refl _ _).alloc (Nat.le_refl _) _⟩
  by_cases a8 : act = 8
  · subst a8
    go_enter Tryd.func31, Tryd.ntmps31
    go_wp2
    go_ret
    exact ⟨rfl, (Below.refl _ _).alloc (Nat.le_refl _) _⟩
  by_cases a0 : act = 0
  · subst a0
    go_enter Tryd.func31, Tryd.ntmps31
    go_wp2_with fail
    refine (ajoin2 _ _ _ _ _ (Blk.new2 _ _ _ _) (by show 4 + key.size ≤ _; omega)).mono ?_
    rintro e w1 ⟨rfl, hb1⟩
    go_wp2
    go_ret
    exact ⟨rfl, below_via (below2 _ _ _) hb1 (by simp; omega)⟩
  by_cases a1 : act = 1
  · subst a1
    go_enter Tryd.func31, Tryd.ntmps31
    go_wp2
    refine gen1 (fun W k0 hbW hz => ?_)
    have q0 : ∀ (t : In (Below W.heap.size W)) (i : Nat), t.w.cell? ⟨w.heap.size, i, none⟩ = _ := fun t => (Blk.via t.h k0).cell
    obtain ⟨s, HS, HS2, hss⟩ := letter (hexT data)
    have hds := hexT_len data
    have HC := hide (fun t : In (Below W.heap.size W) => HS.out ▸ adata_any (.slice A n c) data B t.w (by have := t.h.size; omega) (by omega) ((HD.out.below hbW hB).below t.h (by omega)))
    refine wp_region_in_tail (C := (Below W.heap.size W)) 5 (by kernel_rfl) (by kernel_rfl) (Below.refl _ _).drew ?_
    simp only [List.take_succ_cons, List.take_zero, List.drop_succ_cons, List.drop_zero]
    repeat (first | go_big_quiet_step ((go_at_call 49; with_reducible exact calls_in (Nat.le_refl _) (HC.out _))) | quiet_step ((go_at_call 49; with_reducible exact calls_in (Nat.le_refl _) (HC.out _))))
    refine wpQuiet_nil ?_
    intro _ hw'
    obtain ⟨t, hw''⟩ := hw'
    subst hw''
    have hbt := t.h
    generalize t.w = wt at hbt ⊢
    clear t q0
    go_wp2_with fail
    refine (ajoin3 _ _ _ _ _ _ (Blk.new _ _ _) (by show 5 + key.size + s.size ≤ _; omega)).mono ?_
    rintro e w1 ⟨rfl, hb1⟩
    go_wp2
    go_ret
    exact ⟨ret_txt (by rw [HS2.out]; first | rfl | (unfold callT; simp only []; rw [if_neg a6, if_neg a7, if_neg a8, if_neg a0, if_neg a1, if_neg a2, if_neg a3, if_neg a4])), below_chain hbW hbt hb1⟩
  by_cases a2 : act = 2
  · subst a2
    go_enter Tryd.func31, Tryd.ntmps31
    go_wp2
    refine gen1 (fun W k0 hbW hz => ?_)
    have q0 : ∀ (t : In (Below W.heap.size W)) (i : Nat), t.w.cell? ⟨w.heap.size, i, none⟩ = _ := fun t => (Blk.via t.h k0).cell
    obtain ⟨sa, HSa, HTa, hsa⟩ := letter (num lo)
    have hla := num_len h4
    have HCa := hide (fun t : In (Below W.heap.size W) => HSa.out ▸ anumber_any lo t.w h4.1 h4.2 ((HT.out.below hbW).below t.h))
    obtain ⟨sb, HSb, HTb, hsb⟩ := letter (num hi)
    have hlb := num_len h5
    have HCb := hide (fun t : In (Below W.heap.size W) => HSb.out ▸ anumber_any hi t.w h5.1 h5.2 ((HT.out.below hbW).below t.h))
    obtain ⟨sc, HSc, HTc, hsc⟩ := letter (num nn)
    have hlc := num_len h6
    have HCc := hide (fun t : In (Below W.heap.size W) => HSc.out ▸ anumber_any nn t.w h6.1 h6.2 ((HT.out.below hbW).below t.h))
    refine wp_region_in_tail (C := (Below W.heap.size W)) 11 (by kernel_rfl) (by kernel_rfl) (Below.refl _ _).drew ?_
    simp only [List.take_succ_cons, List.take_zero, List.drop_succ_cons, List.drop_zero]
    repeat (first | go_big_quiet_step (first | (go_at_call 30; with_reducible exact calls_in (Nat.le_refl _) (HCa.out _)) | (go_at_call 30; with_reducible exact calls_in (Nat.le_refl _) (HCb.out _)) | (go_at_call 30; with_reducible exact calls_in (Nat.le_refl _) (HCc.out _))) | quiet_step (first | (go_at_call 30; with_reducible exact calls_in (Nat.le_refl _) (HCa.out _)) | (go_at_call 30; with_reducible exact calls_in (Nat.le_refl _) (HCb.out _)) | (go_at_call 30; with_reducible exact calls_in (Nat.le_refl _) (HCc.out _))))
    refine wpQuiet_nil ?_
    intro _ hw'
    obtain ⟨t, hw''⟩ := hw'
    subst hw''
    have hbt := t.h
    generalize t.w = wt at hbt ⊢
    clear t q0
    go_wp2_with fail
    refine (ajoin5 _ _ _ _ _ _ _ _ (Blk.new _ _ _) (by show 6 + key.size + sa.size + sb.size + sc.size ≤ _; omega)).mono ?_
    rintro e w1 ⟨rfl, hb1⟩
    go_wp2
    go_ret
    exact ⟨ret_txt (by rw [HTa.out, HTb.out, HTc.out]; first | rfl | (unfold callT; simp only []; rw [if_neg a6, if_neg a7, if_neg a8, if_neg a0, if_neg a1, if_neg a2, if_neg a3, if_neg a4])), below_chain hbW hbt hb1⟩
  by_cases a3 : act = 3
  · subst a3
    go_enter Tryd.func31, Tryd.ntmps31
    go_wp2_with fail
    refine (ajoin2 _ _ _ _ _ (Blk.new2 _ _ _ _) (by show 4 + key.size ≤ _; omega)).mono ?_
    rintro e w1 ⟨rfl, hb1⟩
    go_wp2
    go_ret
    exact ⟨rfl, below_via (below2 _ _ _) hb1 (by simp; omega)⟩
  by_cases a4 : act = 4
  · subst a4
    go_enter Tryd.func31, Tryd.ntmps31
    go_wp2
    refine gen1 (fun W k0 hbW hz => ?_)
    have q0 : ∀ (t : In (Below W.heap.size W)) (i : Nat), t.w.cell? ⟨w.heap.size, i, none⟩ = _ := fun t => (Blk.via t.h k0).cell
    obtain ⟨sa, HSa, HTa, hsa⟩ := letter (num nn)
    have hla := num_len h6
    have HCa := hide (fun t : In (Below W.heap.size W) => HSa.out ▸ anumber_any nn t.w h6.1 h6.2 ((HT.out.below hbW).below t.h))
    refine wp_region_in_tail (C := (Below W.heap.size W)) 5 (by kernel_rfl) (by kernel_rfl) (Below.refl _ _).drew ?_
    simp only [List.take_succ_cons, List.take_zero, List.drop_succ_cons, List.drop_zero]
    repeat (first | go_big_quiet_step ((go_at_call 30; with_reducible exact calls_in (Nat.le_refl _) (HCa.out _))) | quiet_step ((go_at_call 30; with_reducible exact calls_in (Nat.le_refl _) (HCa.out _))))
    refine wpQuiet_nil ?_
    intro _ hw'
    obtain ⟨t, hw''⟩ := hw'
    subst hw''
    have hbt := t.h
    generalize t.w = wt at hbt ⊢
    clear t q0
    go_wp2_with fail
    refine (ajoin3 _ _ _ _ _ _ (Blk.new _ _ _) (by show 3 + key.size + sa.size ≤ _; omega)).mono ?_
    rintro e w1 ⟨rfl, hb1⟩
    go_wp2
    go_ret
    exact ⟨ret_txt (by rw [HTa.out]; first | rfl | (unfold callT; simp only []; rw [if_neg a6, if_neg a7, if_neg a8, if_neg a0, if_neg a1, if_neg a2, if_neg a3, if_neg a4])), below_chain hbW hbt hb1⟩
  · have HAA := hide (And.intro a6 (And.intro a7 (And.intro a8 (And.intro a0 (And.intro a1 (And.intro a2 (And.intro a3 a4)))))))
    have b6 : ((act : Int) == 6) = false := by simpa using a6
    have b7 : ((act : Int) == 7) = false := by simpa using a7
    have b8 : ((act : Int) == 8) = false := by simpa using a8
    have b0 : ((act : Int) == 0) = false := by simpa using a0
    have b1 : ((act : Int) == 1) = false := by simpa using a1
    have b2 : ((act : Int) == 2) = false := by simpa using a2
    have b3 : ((act : Int) == 3) = false := by simpa using a3
    have b4 : ((act : Int) == 4) = false := by simpa using a4
    clear a6 a7 a8 a0 a1 a2 a3 a4
    go_enter Tryd.func31, Tryd.ntmps31
    go_wp2
    refine gen1 (fun W k0 hbW hz => ?_)
    have q0 : ∀ (t : In (Below W.heap.size W)) (i : Nat), t.w.cell? ⟨w.heap.size, i, none⟩ = _ := fun t => (Blk.via t.h k0).cell
    obtain ⟨sa, HSa, HTa, hsa⟩ := letter (num nn)
    have hla := num_len h6
    have HCa := hide (fun t : In (Below W.heap.size W) => HSa.out ▸ anumber_any nn t.w h6.1 h6.2 ((HT.out.below hbW).below t.h))
    refine wp_region_in_tail (C := (Below W.heap.size W)) 5 (by kernel_rfl) (by kernel_rfl) (Below.refl _ _).drew ?_
    simp only [List.take_succ_cons, List.take_zero, List.drop_succ_cons, List.drop_zero]
    repeat (first | go_big_quiet_step ((go_at_call 30; with_reducible exact calls_in (Nat.le_refl _) (HCa.out _))) | quiet_step ((go_at_call 30; with_reducible exact calls_in (Nat.le_refl _) (HCa.out _))))
    refine wpQuiet_nil ?_
    intro _ hw'
    obtain ⟨t, hw''⟩ := hw'
    subst hw''
    have hbt := t.h
    generalize t.w = wt at hbt ⊢
    clear t q0
    go_wp2_with fail
    refine (ajoin3 _ _ _ _ _ _ (Blk.new _ _ _) (by show 3 + key.size + sa.size ≤ _; omega)).mono ?_
    rintro e w1 ⟨rfl, hb1⟩
    go_wp2
    go_ret
    exact ⟨ret_txt (by rw [HTa.out]; (obtain ⟨a6, a7, a8, a0, a1, a2, a3, a4⟩ := HAA.out; unfold callT; simp only []; rw [if_neg a6, if_neg a7, if_neg a8, if_neg a0, if_neg a1, if_neg a2, if_neg a3, if_neg a4]; rfl)), below_chain hbW hbt hb1⟩
end Go.Proofs.YtgokkbocboonnaaDoor
