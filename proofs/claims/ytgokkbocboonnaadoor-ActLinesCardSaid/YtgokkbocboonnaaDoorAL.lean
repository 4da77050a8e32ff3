/-
  WALK OF THE PROGRAM: act.actOf: step, fuse, crash.
-/
import Derived.Test.YtgokkbocboonnaaDoorAK
namespace Go.Proofs.YtgokkbocboonnaaDoor
open Go.RowKit Go.Shelf


theorem two_no {ns : List Int} {o : Option (List Int)} (h : o = some ns) (hl : ns.length ≠ 1) {f : Int → Option ActD} : (match o with | some [n] => f n | _ => none) = none := by
  subst h
  split
  · rename_i n e
    injection e with e
    subst e
    exact absurd rfl hl
  · rfl
set_option maxRecDepth 100000 in
set_option maxHeartbeats 12800000 in
theorem actOf_step (s : ByteArray) (A : Option Addr) (m c : Nat) (ws : List (List UInt8)) (B : Nat) (w : World) (hB : B ≤ w.heap.size) (hm : m ≤ 1000) (h : Strs w B A m ws) (hl : ∀ x ∈ ws, x.length ≤ 1000000) (hv : ErrV w) (hk : s.data.toList = wStep) :
    Calls Tryd.prog 21 #[.string s, .slice A m c] w (ActPost w (actOfD s.data.toList ws)) := by
  have b1 : (s.toList == [99, 97, 108, 108]) = false := lit_no (by rw [hk]; decide)
  have bk : (s.toList == [115, 116, 101, 112]) = true := lit_yes hk
  have hn1 : s.data.toList ≠ wCall := by rw [hk]; decide
  have HNU := hide (fun W (hbW : Below w.heap.size w W) => numbers_any A m c ws m B W (Nat.le_trans hB hbW.size) hm hm (h.below hbW hB) hl (hv.below hbW))
  have HNN := hide (show numsN ws m = numsD ws by unfold numsN; rw [if_pos (by have := h.1; omega), List.take_of_length_le (by have := h.1; omega)])
  rw [HNN.out] at HNU
  cases hns : numsD ws with
  | none =>
    have HO := hide (show actOfD s.data.toList ws = none by unfold actOfD; rw [if_neg hn1, if_pos hk]; simp only [hns])
    have HNS := hide hns
    clear hns hk h hl hv hn1
    go_enter Tryd.func21, Tryd.ntmps21
    go_wp2_with fail
    refine (HNU.out _ ((Below.refl _ _).alloc (Nat.le_refl _) _)).mono ?_
    rintro e w1 ⟨hb1, ⟨hno, rfl⟩ | ⟨ns', g, hyes, rfl, hg, hgk⟩⟩
    · have k1 := Blk.via hb1 (Blk.new w _ _)
      have hbw1 := below_via ((Below.refl _ w).alloc (Nat.le_refl _) _) hb1 (by simp)
      clear hno
      have q0 := (k1).cell
      have f0 := (k1).frozen
      have l0 := (k1).lt
      go_wp2
      refine genPut (vs := [.int .i64 (plainV act00).d.act, .int .i64 (plainV act00).d.client, .int .i64 (plainV act00).d.op.act, .string (plainV act00).d.op.key, (plainV act00).dv, .int .i64 (plainV act00).d.op.lo, .int .i64 (plainV act00).d.op.hi, .int .i64 (plainV act00).d.op.n, .int .i64 (plainV act00).d.n, (plainV act00).pv, .int .i64 (plainV act00).d.log]) k1 rfl hbw1 (Nat.le_refl _) (fun W' k6 hb6 ht => ?_)
      have q6 := k6.cell
      refine bodyPost_ret (v := .tuple #[actV (plainV act00), .bool false]) (by simp [results, Tryd.results21, go_sem, actV, q6]) rfl ?_
      exact ⟨hb6, .inl ⟨HO.out, _, _, _, _, _, _, _, rfl, rfl, rfl⟩⟩
    · rw [HNS.out] at hyes; cases hyes
  | some ns =>
    have HNS := hide hns
    by_cases h1 : ns.length = 1
    · obtain ⟨a, rfl⟩ := nums1 h1
      have HO := hide (show actOfD s.data.toList ws = some { act00 with act := 1, client := a } by unfold actOfD; rw [if_neg hn1, if_pos hk]; simp only [hns])
      clear hns h1 hk h hl hv hn1
      go_enter Tryd.func21, Tryd.ntmps21
      go_wp2_with fail
      refine (HNU.out _ ((Below.refl _ _).alloc (Nat.le_refl _) _)).mono ?_
      rintro e w1 ⟨hb1, ⟨hno, rfl⟩ | ⟨ns', g, hyes, rfl, hg, hgk⟩⟩
      · rw [HNS.out] at hno; cases hno
      · rw [HNS.out] at hyes
        obtain rfl := Option.some.inj hyes
        have k1 := Blk.via hb1 (Blk.new w _ _)
        have hbw1 := below_via ((Below.refl _ w).alloc (Nat.le_refl _) _) hb1 (by simp)
        clear hyes
        have g0 := hgk.cell
        have gl := hgk.lt
        have q0 := (k1).cell
        have f0 := (k1).frozen
        have l0 := (k1).lt
        go_wp2
        refine genPut (vs := [.int .i64 (plainV { act00 with act := 1, client := a }).d.act, .int .i64 (plainV { act00 with act := 1, client := a }).d.client, .int .i64 (plainV { act00 with act := 1, client := a }).d.op.act, .string (plainV { act00 with act := 1, client := a }).d.op.key, (plainV { act00 with act := 1, client := a }).dv, .int .i64 (plainV { act00 with act := 1, client := a }).d.op.lo, .int .i64 (plainV { act00 with act := 1, client := a }).d.op.hi, .int .i64 (plainV { act00 with act := 1, client := a }).d.op.n, .int .i64 (plainV { act00 with act := 1, client := a }).d.n, (plainV { act00 with act := 1, client := a }).pv, .int .i64 (plainV { act00 with act := 1, client := a }).d.log]) k1 rfl hbw1 (Nat.le_refl _) (fun W' k6 hb6 ht => ?_)
        have q6 := k6.cell
        refine bodyPost_ret (v := .tuple #[actV (plainV { act00 with act := 1, client := a }), .bool true]) (by simp [results, Tryd.results21, go_sem, actV, q6]) rfl ?_
        exact ⟨hb6, .inr ⟨_, HO.out, rfl, OwnA.plain _ _ rfl rfl⟩⟩
    · have HO := hide (show actOfD s.data.toList ws = none by unfold actOfD; rw [if_neg hn1, if_pos hk]; exact two_no hns h1)
      have b1' : ((ns.length : Int) != 1) = true := by simp; omega
      clear hns h1 hk h hl hv hn1
      go_enter Tryd.func21, Tryd.ntmps21
      go_wp2_with fail
      refine (HNU.out _ ((Below.refl _ _).alloc (Nat.le_refl _) _)).mono ?_
      rintro e w1 ⟨hb1, ⟨hno, rfl⟩ | ⟨ns', g, hyes, rfl, hg, hgk⟩⟩
      · rw [HNS.out] at hno; cases hno
      · rw [HNS.out] at hyes
        obtain rfl := Option.some.inj hyes
        have k1 := Blk.via hb1 (Blk.new w _ _)
        have hbw1 := below_via ((Below.refl _ w).alloc (Nat.le_refl _) _) hb1 (by simp)
        clear hyes
        have q0 := (k1).cell
        have f0 := (k1).frozen
        have l0 := (k1).lt
        go_wp2
        refine genPut (vs := [.int .i64 (plainV act00).d.act, .int .i64 (plainV act00).d.client, .int .i64 (plainV act00).d.op.act, .string (plainV act00).d.op.key, (plainV act00).dv, .int .i64 (plainV act00).d.op.lo, .int .i64 (plainV act00).d.op.hi, .int .i64 (plainV act00).d.op.n, .int .i64 (plainV act00).d.n, (plainV act00).pv, .int .i64 (plainV act00).d.log]) k1 rfl hbw1 (Nat.le_refl _) (fun W' k6 hb6 ht => ?_)
        have q6 := k6.cell
        refine bodyPost_ret (v := .tuple #[actV (plainV act00), .bool false]) (by simp [results, Tryd.results21, go_sem, actV, q6]) rfl ?_
        exact ⟨hb6, .inl ⟨HO.out, _, _, _, _, _, _, _, rfl, rfl, rfl⟩⟩
set_option maxRecDepth 100000 in
set_option maxHeartbeats 12800000 in
theorem actOf_fuse (s : ByteArray) (A : Option Addr) (m c : Nat) (ws : List (List UInt8)) (B : Nat) (w : World) (hB : B ≤ w.heap.size) (hm : m ≤ 1000) (h : Strs w B A m ws) (hl : ∀ x ∈ ws, x.length ≤ 1000000) (hv : ErrV w) (hk : s.data.toList = wFuse) :
    Calls Tryd.prog 21 #[.string s, .slice A m c] w (ActPost w (actOfD s.data.toList ws)) := by
  have b1 : (s.toList == [99, 97, 108, 108]) = false := lit_no (by rw [hk]; decide)
  have b2 : (s.toList == [115, 116, 101, 112]) = false := lit_no (by rw [hk]; decide)
  have b3 : (s.toList == [99, 104, 101, 99, 107]) = false := lit_no (by rw [hk]; decide)
  have bk : (s.toList == [102, 117, 115, 101]) = true := lit_yes hk
  have hn1 : s.data.toList ≠ wCall := by rw [hk]; decide
  have hn2 : s.data.toList ≠ wStep := by rw [hk]; decide
  have hn3 : s.data.toList ≠ wCheck := by rw [hk]; decide
  have HNU := hide (fun W (hbW : Below w.heap.size w W) => numbers_any A m c ws m B W (Nat.le_trans hB hbW.size) hm hm (h.below hbW hB) hl (hv.below hbW))
  have HNN := hide (show numsN ws m = numsD ws by unfold numsN; rw [if_pos (by have := h.1; omega), List.take_of_length_le (by have := h.1; omega)])
  rw [HNN.out] at HNU
  cases hns : numsD ws with
  | none =>
    have HO := hide (show actOfD s.data.toList ws = none by unfold actOfD; rw [if_neg hn1, if_neg hn2, if_neg hn3, if_pos hk]; simp only [hns])
    have HNS := hide hns
    clear hns hk h hl hv hn1 hn2 hn3
    go_enter Tryd.func21, Tryd.ntmps21
    go_wp2_with fail
    refine (HNU.out _ ((Below.refl _ _).alloc (Nat.le_refl _) _)).mono ?_
    rintro e w1 ⟨hb1, ⟨hno, rfl⟩ | ⟨ns', g, hyes, rfl, hg, hgk⟩⟩
    · have k1 := Blk.via hb1 (Blk.new w _ _)
      have hbw1 := below_via ((Below.refl _ w).alloc (Nat.le_refl _) _) hb1 (by simp)
      clear hno
      have q0 := (k1).cell
      have f0 := (k1).frozen
      have l0 := (k1).lt
      go_wp2
      refine genPut (vs := [.int .i64 (plainV act00).d.act, .int .i64 (plainV act00).d.client, .int .i64 (plainV act00).d.op.act, .string (plainV act00).d.op.key, (plainV act00).dv, .int .i64 (plainV act00).d.op.lo, .int .i64 (plainV act00).d.op.hi, .int .i64 (plainV act00).d.op.n, .int .i64 (plainV act00).d.n, (plainV act00).pv, .int .i64 (plainV act00).d.log]) k1 rfl hbw1 (Nat.le_refl _) (fun W' k6 hb6 ht => ?_)
      have q6 := k6.cell
      refine bodyPost_ret (v := .tuple #[actV (plainV act00), .bool false]) (by simp [results, Tryd.results21, go_sem, actV, q6]) rfl ?_
      exact ⟨hb6, .inl ⟨HO.out, _, _, _, _, _, _, _, rfl, rfl, rfl⟩⟩
    · rw [HNS.out] at hyes; cases hyes
  | some ns =>
    have HNS := hide hns
    by_cases h1 : ns.length = 1
    · obtain ⟨a, rfl⟩ := nums1 h1
      have HO := hide (show actOfD s.data.toList ws = some { act00 with act := 3, n := a } by unfold actOfD; rw [if_neg hn1, if_neg hn2, if_neg hn3, if_pos hk]; simp only [hns])
      clear hns h1 hk h hl hv hn1 hn2 hn3
      go_enter Tryd.func21, Tryd.ntmps21
      go_wp2_with fail
      refine (HNU.out _ ((Below.refl _ _).alloc (Nat.le_refl _) _)).mono ?_
      rintro e w1 ⟨hb1, ⟨hno, rfl⟩ | ⟨ns', g, hyes, rfl, hg, hgk⟩⟩
      · rw [HNS.out] at hno; cases hno
      · rw [HNS.out] at hyes
        obtain rfl := Option.some.inj hyes
        have k1 := Blk.via hb1 (Blk.new w _ _)
        have hbw1 := below_via ((Below.refl _ w).alloc (Nat.le_refl _) _) hb1 (by simp)
        clear hyes
        have g0 := hgk.cell
        have gl := hgk.lt
        have q0 := (k1).cell
        have f0 := (k1).frozen
        have l0 := (k1).lt
        go_wp2
        refine genPut (vs := [.int .i64 (plainV { act00 with act := 3, n := a }).d.act, .int .i64 (plainV { act00 with act := 3, n := a }).d.client, .int .i64 (plainV { act00 with act := 3, n := a }).d.op.act, .string (plainV { act00 with act := 3, n := a }).d.op.key, (plainV { act00 with act := 3, n := a }).dv, .int .i64 (plainV { act00 with act := 3, n := a }).d.op.lo, .int .i64 (plainV { act00 with act := 3, n := a }).d.op.hi, .int .i64 (plainV { act00 with act := 3, n := a }).d.op.n, .int .i64 (plainV { act00 with act := 3, n := a }).d.n, (plainV { act00 with act := 3, n := a }).pv, .int .i64 (plainV { act00 with act := 3, n := a }).d.log]) k1 rfl hbw1 (Nat.le_refl _) (fun W' k6 hb6 ht => ?_)
        have q6 := k6.cell
        refine bodyPost_ret (v := .tuple #[actV (plainV { act00 with act := 3, n := a }), .bool true]) (by simp [results, Tryd.results21, go_sem, actV, q6]) rfl ?_
        exact ⟨hb6, .inr ⟨_, HO.out, rfl, OwnA.plain _ _ rfl rfl⟩⟩
    · have HO := hide (show actOfD s.data.toList ws = none by unfold actOfD; rw [if_neg hn1, if_neg hn2, if_neg hn3, if_pos hk]; exact two_no hns h1)
      have b1' : ((ns.length : Int) != 1) = true := by simp; omega
      clear hns h1 hk h hl hv hn1 hn2 hn3
      go_enter Tryd.func21, Tryd.ntmps21
      go_wp2_with fail
      refine (HNU.out _ ((Below.refl _ _).alloc (Nat.le_refl _) _)).mono ?_
      rintro e w1 ⟨hb1, ⟨hno, rfl⟩ | ⟨ns', g, hyes, rfl, hg, hgk⟩⟩
      · rw [HNS.out] at hno; cases hno
      · rw [HNS.out] at hyes
        obtain rfl := Option.some.inj hyes
        have k1 := Blk.via hb1 (Blk.new w _ _)
        have hbw1 := below_via ((Below.refl _ w).alloc (Nat.le_refl _) _) hb1 (by simp)
        clear hyes
        have q0 := (k1).cell
        have f0 := (k1).frozen
        have l0 := (k1).lt
        go_wp2
        refine genPut (vs := [.int .i64 (plainV act00).d.act, .int .i64 (plainV act00).d.client, .int .i64 (plainV act00).d.op.act, .string (plainV act00).d.op.key, (plainV act00).dv, .int .i64 (plainV act00).d.op.lo, .int .i64 (plainV act00).d.op.hi, .int .i64 (plainV act00).d.op.n, .int .i64 (plainV act00).d.n, (plainV act00).pv, .int .i64 (plainV act00).d.log]) k1 rfl hbw1 (Nat.le_refl _) (fun W' k6 hb6 ht => ?_)
        have q6 := k6.cell
        refine bodyPost_ret (v := .tuple #[actV (plainV act00), .bool false]) (by simp [results, Tryd.results21, go_sem, actV, q6]) rfl ?_
        exact ⟨hb6, .inl ⟨HO.out, _, _, _, _, _, _, _, rfl, rfl, rfl⟩⟩
set_option maxRecDepth 100000 in
set_option maxHeartbeats 12800000 in
theorem actOf_crash (s : ByteArray) (A : Option Addr) (m c : Nat) (ws : List (List UInt8)) (B : Nat) (w : World) (hB : B ≤ w.heap.size) (hm : m ≤ 1000) (h : Strs w B A m ws) (hl : ∀ x ∈ ws, x.length ≤ 1000000) (hv : ErrV w) (hk : s.data.toList = wCrash) :
    Calls Tryd.prog 21 #[.string s, .slice A m c] w (ActPost w (actOfD s.data.toList ws)) := by
  have b1 : (s.toList == [99, 97, 108, 108]) = false := lit_no (by rw [hk]; decide)
  have b2 : (s.toList == [115, 116, 101, 112]) = false := lit_no (by rw [hk]; decide)
  have b3 : (s.toList == [99, 104, 101, 99, 107]) = false := lit_no (by rw [hk]; decide)
  have b4 : (s.toList == [102, 117, 115, 101]) = false := lit_no (by rw [hk]; decide)
  have bk : (s.toList == [99, 114, 97, 115, 104]) = true := lit_yes hk
  have hn1 : s.data.toList ≠ wCall := by rw [hk]; decide
  have hn2 : s.data.toList ≠ wStep := by rw [hk]; decide
  have hn3 : s.data.toList ≠ wCheck := by rw [hk]; decide
  have hn4 : s.data.toList ≠ wFuse := by rw [hk]; decide
  have HNU := hide (fun W (hbW : Below w.heap.size w W) => numbers_any A m c ws m B W (Nat.le_trans hB hbW.size) hm hm (h.below hbW hB) hl (hv.below hbW))
  have HNN := hide (show numsN ws m = numsD ws by unfold numsN; rw [if_pos (by have := h.1; omega), List.take_of_length_le (by have := h.1; omega)])
  rw [HNN.out] at HNU
  have HML := hide h.1
  cases hns : numsD ws with
  | none =>
    have HO := hide (show actOfD s.data.toList ws = none by unfold actOfD; rw [if_neg hn1, if_neg hn2, if_neg hn3, if_neg hn4, if_pos hk]; simp only [hns])
    have HNS := hide hns
    clear hns hk h hl hv hn1 hn2 hn3 hn4
    go_enter Tryd.func21, Tryd.ntmps21
    go_wp2_with fail
    refine (HNU.out _ ((Below.refl _ _).alloc (Nat.le_refl _) _)).mono ?_
    rintro e w1 ⟨hb1, ⟨hno, rfl⟩ | ⟨ns', g, hyes, rfl, hg, hgk⟩⟩
    · have k1 := Blk.via hb1 (Blk.new w _ _)
      have hbw1 := below_via ((Below.refl _ w).alloc (Nat.le_refl _) _) hb1 (by simp)
      clear hno
      have q0 := (k1).cell
      have f0 := (k1).frozen
      have l0 := (k1).lt
      go_wp2
      refine genPut (vs := [.int .i64 (plainV act00).d.act, .int .i64 (plainV act00).d.client, .int .i64 (plainV act00).d.op.act, .string (plainV act00).d.op.key, (plainV act00).dv, .int .i64 (plainV act00).d.op.lo, .int .i64 (plainV act00).d.op.hi, .int .i64 (plainV act00).d.op.n, .int .i64 (plainV act00).d.n, (plainV act00).pv, .int .i64 (plainV act00).d.log]) k1 rfl hbw1 (Nat.le_refl _) (fun W' k6 hb6 ht => ?_)
      have q6 := k6.cell
      refine bodyPost_ret (v := .tuple #[actV (plainV act00), .bool false]) (by simp [results, Tryd.results21, go_sem, actV, q6]) rfl ?_
      exact ⟨hb6, .inl ⟨HO.out, _, _, _, _, _, _, _, rfl, rfl, rfl⟩⟩
    · rw [HNS.out] at hyes; cases hyes
  | some ns =>
    have HNS := hide hns
    cases ns with
    | nil =>
      have HO := hide (show actOfD s.data.toList ws = none by unfold actOfD; rw [if_neg hn1, if_neg hn2, if_neg hn3, if_neg hn4, if_pos hk]; simp only [hns])
      clear hns hk h hl hv hn1 hn2 hn3 hn4
      go_enter Tryd.func21, Tryd.ntmps21
      go_wp2_with fail
      refine (HNU.out _ ((Below.refl _ _).alloc (Nat.le_refl _) _)).mono ?_
      rintro e w1 ⟨hb1, ⟨hno, rfl⟩ | ⟨ns', g, hyes, rfl, hg, hgk⟩⟩
      · rw [HNS.out] at hno; cases hno
      · rw [HNS.out] at hyes
        obtain rfl := Option.some.inj hyes
        have k1 := Blk.via hb1 (Blk.new w _ _)
        have hbw1 := below_via ((Below.refl _ w).alloc (Nat.le_refl _) _) hb1 (by simp)
        clear hyes
        have q0 := (k1).cell
        have f0 := (k1).frozen
        have l0 := (k1).lt
        go_wp2
        refine genPut (vs := [.int .i64 (plainV act00).d.act, .int .i64 (plainV act00).d.client, .int .i64 (plainV act00).d.op.act, .string (plainV act00).d.op.key, (plainV act00).dv, .int .i64 (plainV act00).d.op.lo, .int .i64 (plainV act00).d.op.hi, .int .i64 (plainV act00).d.op.n, .int .i64 (plainV act00).d.n, (plainV act00).pv, .int .i64 (plainV act00).d.log]) k1 rfl hbw1 (Nat.le_refl _) (fun W' k6 hb6 ht => ?_)
        have q6 := k6.cell
        refine bodyPost_ret (v := .tuple #[actV (plainV act00), .bool false]) (by simp [results, Tryd.results21, go_sem, actV, q6]) rfl ?_
        exact ⟨hb6, .inl ⟨HO.out, _, _, _, _, _, _, _, rfl, rfl, rfl⟩⟩
    | cons a r =>
      have HO := hide (show actOfD s.data.toList ws = some { act00 with act := 4, pages := r, log := a } by unfold actOfD; rw [if_neg hn1, if_neg hn2, if_neg hn3, if_neg hn4, if_pos hk]; simp only [hns])
      have hrl : r.length + 1 ≤ 1000 := by have h1 := numsD_length hns; have h2 := HML.out; simp only [List.length_cons] at h1; omega
      clear hns hk h hl hv hn1 hn2 hn3 hn4
      go_enter Tryd.func21, Tryd.ntmps21
      go_wp2_with fail
      refine (HNU.out _ ((Below.refl _ _).alloc (Nat.le_refl _) _)).mono ?_
      rintro e w1 ⟨hb1, ⟨hno, rfl⟩ | ⟨ns', g, hyes, rfl, hg, hgk⟩⟩
      · rw [HNS.out] at hno; cases hno
      · rw [HNS.out] at hyes
        obtain rfl := Option.some.inj hyes
        have k1 := Blk.via hb1 (Blk.new w _ _)
        have hbw1 := below_via ((Below.refl _ w).alloc (Nat.le_refl _) _) hb1 (by simp)
        clear hyes
        obtain ⟨A1, c1, hsl, hown⟩ := OwnI.tail hgk (by simp at hg; omega : w.heap.size ≤ g) (by omega)
        have HOW := hide hown
        have g0 := hgk.cell
        have gl := hgk.lt
        clear hown
        have kW := k1.cell
        have fW := k1.frozen
        have lW := k1.lt
        go_wp2
        go_still_tail 7, (by kernel_rfl)
        clear kW fW lW
        obtain ⟨W2, hW2⟩ : ∃ W2, W2 = ({ w1 with drawn := w1.drawn + 1 } : World) := ⟨_, rfl⟩
        rw [← hW2]
        have k2 := k1.drew
        have k2 : Blk W2 w.heap.size 30 #[.int .i64 0, .int .i64 0, .int .i64 0, .string ⟨#[]⟩, .slice none 0 0, .int .i64 0, .int .i64 0, .int .i64 0, .int .i64 0, .slice none 0 0, .int .i64 0] := by rw [hW2]; exact k2
        have hbw2 : Below w.heap.size w W2 := by rw [hW2]; exact hbw1.drew
        have HOW2 : OwnI W2 w.heap.size (.slice A1 r.length c1) r := by rw [hW2]; exact HOW.out.via (Below.refl _ _).drew
        have HOW2 := hide HOW2
        clear hW2
        have q0 := (k2).cell
        have f0 := (k2).frozen
        have l0 := (k2).lt
        go_wp2
        refine genPut (vs := [.int .i64 (⟨{ act00 with act := 4, pages := r, log := a }, .slice none 0 0, .slice A1 r.length c1⟩ : ActV).d.act, .int .i64 (⟨{ act00 with act := 4, pages := r, log := a }, .slice none 0 0, .slice A1 r.length c1⟩ : ActV).d.client, .int .i64 (⟨{ act00 with act := 4, pages := r, log := a }, .slice none 0 0, .slice A1 r.length c1⟩ : ActV).d.op.act, .string (⟨{ act00 with act := 4, pages := r, log := a }, .slice none 0 0, .slice A1 r.length c1⟩ : ActV).d.op.key, (⟨{ act00 with act := 4, pages := r, log := a }, .slice none 0 0, .slice A1 r.length c1⟩ : ActV).dv, .int .i64 (⟨{ act00 with act := 4, pages := r, log := a }, .slice none 0 0, .slice A1 r.length c1⟩ : ActV).d.op.lo, .int .i64 (⟨{ act00 with act := 4, pages := r, log := a }, .slice none 0 0, .slice A1 r.length c1⟩ : ActV).d.op.hi, .int .i64 (⟨{ act00 with act := 4, pages := r, log := a }, .slice none 0 0, .slice A1 r.length c1⟩ : ActV).d.op.n, .int .i64 (⟨{ act00 with act := 4, pages := r, log := a }, .slice none 0 0, .slice A1 r.length c1⟩ : ActV).d.n, (⟨{ act00 with act := 4, pages := r, log := a }, .slice none 0 0, .slice A1 r.length c1⟩ : ActV).pv, .int .i64 (⟨{ act00 with act := 4, pages := r, log := a }, .slice none 0 0, .slice A1 r.length c1⟩ : ActV).d.log]) k2 rfl hbw2 (Nat.le_refl _) (fun W' k6 hb6 ht => ?_)
        have q6 := k6.cell
        refine bodyPost_ret (v := .tuple #[actV (⟨{ act00 with act := 4, pages := r, log := a }, .slice none 0 0, .slice A1 r.length c1⟩ : ActV), .bool true]) (by simp [results, Tryd.results21, go_sem, actV, q6]) rfl ?_
        exact ⟨hb6, .inr ⟨_, HO.out, rfl, OwnB.nil _ _, own_putI HOW2.out k2 (by decide) ht⟩⟩
end Go.Proofs.YtgokkbocboonnaaDoor
