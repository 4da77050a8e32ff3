/-
  WALKS OF THE REFERENCES: moneyerref09.Exact, moneyerref31.SameNums, Same, Right, Line, moneyerref09.Plain, moneyerref31.Plain.
-/
import Derived.Test.YtgokkbocboonnaaDoorAO
import Derived.Test.YtgokkbocboonnaaDoorWC
import Derived.Test.YtgokkbocboonnaaDoorSH
import Derived.RegionTactic
import Derived.ChangeAlike
import Derived.BigRegion
namespace Go.Proofs.YtgokkbocboonnaaDoor
open Go.RowKit Go.Lib

/-- Are all fields the same? -/
def opEq (a b : OpD) : Bool := (a.act == b.act) && ((a.key.toList == b.key.toList) && ((a.data == b.data) && ((a.lo == b.lo) && ((a.hi == b.hi) && (a.n == b.n)))))
set_option maxHeartbeats 3200000 in
theorem Exact_any (a b : OpD) (av bv : Value) (B : Nat) (w : World) (hB : B ≤ w.heap.size) (ha : BytesAt w B av a.data) (hb : BytesAt w B bv b.data) :
    Calls Tryd.prog 22 #[.agg #[.int .i64 a.act, .string a.key, av, .int .i64 a.lo, .int .i64 a.hi, .int .i64 a.n], .agg #[.int .i64 b.act, .string b.key, bv, .int .i64 b.lo, .int .i64 b.hi, .int .i64 b.n]] w fun e w' => e = .returned (.bool (opEq a b)) ∧ Below w.heap.size w w' := by
  obtain ⟨A, n, c, rfl, _, _, hl1, _, hr1⟩ := ha
  obtain ⟨A', n', c', rfl, _, _, hl2, _, hr2⟩ := hb
  clear hl1 hl2
  have hs := fun o1 o2 => Same_any A A' n c n' c' a.data b.data B ((w.alloc o1).alloc o2) ((hr1.alloc hB o1).alloc (by simp; omega) o2) ((hr2.alloc hB o1).alloc (by simp; omega) o2)
  have hb2 := fun o1 o2 => below2 w o1 o2
  have HS := hide hs
  clear hs
  unfold opEq
  generalize (a.data == b.data) = ds at *
  cases h1 : (a.act == b.act)
  · go_enter Tryd.func22, Tryd.ntmps22
    go_wp2_with (go_at_call 44; refine (HS.out _ _).mono ?_; rintro e w' ⟨rfl, rfl⟩)
    go_ret
    exact ⟨by simp, hb2 _ _⟩
  cases h2 : (a.key.toList == b.key.toList)
  · go_enter Tryd.func22, Tryd.ntmps22
    go_wp2_with (go_at_call 44; refine (HS.out _ _).mono ?_; rintro e w' ⟨rfl, rfl⟩)
    go_ret
    exact ⟨by simp, hb2 _ _⟩
  cases ds
  · go_enter Tryd.func22, Tryd.ntmps22
    go_wp2_with (go_at_call 44; refine (HS.out _ _).mono ?_; rintro e w' ⟨rfl, rfl⟩)
    go_ret
    exact ⟨by simp, hb2 _ _⟩
  cases h3 : (a.lo == b.lo)
  · go_enter Tryd.func22, Tryd.ntmps22
    go_wp2_with (go_at_call 44; refine (HS.out _ _).mono ?_; rintro e w' ⟨rfl, rfl⟩)
    go_ret
    exact ⟨by simp, hb2 _ _⟩
  cases h4 : (a.hi == b.hi)
  · go_enter Tryd.func22, Tryd.ntmps22
    go_wp2_with (go_at_call 44; refine (HS.out _ _).mono ?_; rintro e w' ⟨rfl, rfl⟩)
    go_ret
    exact ⟨by simp, hb2 _ _⟩
  · go_enter Tryd.func22, Tryd.ntmps22
    go_wp2_with (go_at_call 44; refine (HS.out _ _).mono ?_; rintro e w' ⟨rfl, rfl⟩)
    go_ret
    exact ⟨by simp, hb2 _ _⟩
/-- The same numbers? -/
def numsEq (a b : List Int) : Bool := a == b
theorem numsEq_len {a b : List Int} (h : a.length ≠ b.length) : numsEq a b = false := by
  unfold numsEq
  rw [beq_eq_false_iff_ne]
  rintro rfl
  exact h rfl
set_option maxHeartbeats 1600000 in
theorem SameNums_any (A A' : Option Addr) (n c n' c' : Nat) (xs ys : List Int) (B : Nat) (w : World) (hn : n ≤ 1000000) (hn' : n' ≤ 1000000) (h : Ints w B A n xs) (h' : Ints w B A' n' ys) :
    Calls Tryd.prog 23 #[.slice A n c, .slice A' n' c'] w fun e w' => e = .returned (.bool (numsEq xs ys)) ∧ Below w.heap.size w w' := by
  by_cases hl : n = n'
  · subst hl
    have b0 : ((n : Int) != n) = false := by simp
    have HL := hide (And.intro h.1 h'.1)
    go_enter Tryd.func23, Tryd.ntmps23
    go_wp2
    go_loopw [5] (fun i wr => ∃ k : Nat, k ≤ n ∧ i = .int .i64 k ∧ xs.take k = ys.take k ∧ ∃ dd, wr = w.drewN dd) (fun i _ => n - (intOf i).toNat)
    case atStart => exact ⟨0, Nat.zero_le _, rfl, rfl, 0, rfl⟩
    case round =>
      obtain ⟨k, hk, rfl, hq, dd, rfl⟩ := hrel
      have HQ := hide hq
      clear hq
      by_cases hlt : k < n
      · obtain ⟨b, o, x, rfl, hb, hkx, c0⟩ := h.at_ (k := k) hlt
        obtain ⟨b', o', y, rfl, hb', hky, c1⟩ := h'.at_ (k := k) hlt
        have HX := hide (And.intro hkx hky)
        have s1 : (k : Int) < n := by omega
        have s0 : (0 : Int) ≤ k := by omega
        clear hkx hky
        cases hxy : (x != y)
        · have HE := hide (show x = y by simpa using hxy)
          go_wp2
          go_quiet (fail)
          go_wp2
          go_roundw
          case rel =>
            refine ⟨k + 1, by omega, by go_num, ?_, by first | exact ⟨_, rfl⟩ | exact ⟨_, World.drewN_drewN _ _ _⟩⟩
            obtain ⟨h1, h2⟩ := HX.out
            obtain ⟨l1, e1⟩ := List.getElem?_eq_some_iff.1 h1
            obtain ⟨l2, e2⟩ := List.getElem?_eq_some_iff.1 h2
            rw [List.take_succ_eq_append_getElem l1, List.take_succ_eq_append_getElem l2, HQ.out, e1, e2, HE.out]
          case measure => simp [intOf]; omega
        · have HE := hide (show x ≠ y by simpa using hxy)
          go_wp2
          go_quiet (fail)
          go_wp2
          go_ret
          refine ⟨ret_bool ?_, by first | exact below_drewN (Below.refl _ _) _ | exact below_drewN (below_drewN (Below.refl _ _) _) _⟩
          symm
          unfold numsEq
          rw [beq_eq_false_iff_ne]
          rintro rfl
          obtain ⟨h1, h2⟩ := HX.out
          rw [h1] at h2
          injection h2 with h2
          exact HE.out h2
      · go_wp2
        go_ret
        refine ⟨ret_bool ?_, below_drewN (Below.refl _ _) _⟩
        obtain ⟨l1, l2⟩ := HL.out
        have hq := HQ.out
        rw [List.take_of_length_le (by omega), List.take_of_length_le (by omega)] at hq
        rw [hq]
        simp [numsEq]
  · have b0 : ((n : Int) != n') = true := by simp; omega
    have HE := hide (numsEq_len (a := xs) (b := ys) (by rw [← h.1, ← h'.1]; exact hl))
    clear hl
    go_enter Tryd.func23, Tryd.ntmps23
    go_wp2
    go_ret
    exact ⟨ret_bool HE.out.symm, Below.refl _ _⟩
/-- Are two acts the same, field by field? -/
def actEq (a b : ActD) : Bool := (a.act == b.act) && ((a.client == b.client) && (opEq a.op b.op && ((a.n == b.n) && ((a.log == b.log) && numsEq a.pages b.pages))))
theorem opEq_refl (a : OpD) : opEq a a = true := by simp [opEq]
theorem actEq_refl (a : ActD) : actEq a a = true := by simp [actEq, opEq_refl, numsEq]
set_option maxHeartbeats 6400000 in
theorem rSameAct_any (a b : ActV) (B : Nat) (w : World) (hB : B ≤ w.heap.size) (ha : ActOk w B a) (hb : ActOk w B b) (hla : a.d.pages.length ≤ 1000000) (hlb : b.d.pages.length ≤ 1000000) :
    Calls Tryd.prog 10 #[actV a, actV b] w fun e w' => e = .returned (.bool (actEq a.d b.d)) ∧ Below w.heap.size w w' := by
  obtain ⟨a, av, ap⟩ := a
  obtain ⟨b, bv, bp⟩ := b
  obtain ⟨ha1, A, ca, ha2, ha3, ha4⟩ := ha
  obtain ⟨hb1, A', cb, hb2, hb3, hb4⟩ := hb
  dsimp only at *
  subst ha2 hb2
  unfold actV
  dsimp only
  have HS := hide (fun W (hW : Below w.heap.size w W) => Exact_any a.op b.op av bv B W (Nat.le_trans hB hW.size) (ha1.below hW hB) (hb1.below hW hB))
  have HN := hide (fun W (hW : Below w.heap.size w W) => SameNums_any A A' a.pages.length ca b.pages.length cb a.pages b.pages B W hla hlb (ha4.below hW hB) (hb4.below hW hB))
  have hb0 := below2 w (.cells #[.int .i64 a.act, .int .i64 a.client, .int .i64 a.op.act, .string a.op.key, av, .int .i64 a.op.lo, .int .i64 a.op.hi, .int .i64 a.op.n, .int .i64 a.n, .slice A a.pages.length ca, .int .i64 a.log] 30) (.cells #[.int .i64 b.act, .int .i64 b.client, .int .i64 b.op.act, .string b.op.key, bv, .int .i64 b.op.lo, .int .i64 b.op.hi, .int .i64 b.op.n, .int .i64 b.n, .slice A' b.pages.length cb, .int .i64 b.log] 30)
  clear ha1 ha4 hb1 hb4 ha3 hb3
  unfold actEq
  generalize opEq a.op b.op = oe at *
  generalize numsEq a.pages b.pages = ne at *
  cases h1 : (a.act == b.act)
  · go_enter Tryd.func10, Tryd.ntmps10
    go_wp2_with (first
      | (go_at_call 22; refine (HS.out _ hb0).mono ?_; rintro e w1 ⟨rfl, hb1⟩; have k01 := Blk.via hb1 ((Blk.new w _ _).alloc _); have k11 := Blk.via hb1 (Blk.new2 w _ _ _); have q0 := k01.cell; have q1 := k11.cell; have hbw1 := below_via hb0 hb1 hb0.size; have l0 := k01.lt; have l1 := k11.lt)
      | (go_at_call 23; refine (HN.out _ hbw1).mono ?_; rintro e w2 ⟨rfl, hb2⟩; have hbw2 := below_via hbw1 hb2 hbw1.size))
    go_ret
    exact ⟨by simp, by first | exact hbw2 | exact hbw1 | exact hb0⟩
  cases h2 : (a.client == b.client)
  · go_enter Tryd.func10, Tryd.ntmps10
    go_wp2_with (first
      | (go_at_call 22; refine (HS.out _ hb0).mono ?_; rintro e w1 ⟨rfl, hb1⟩; have k01 := Blk.via hb1 ((Blk.new w _ _).alloc _); have k11 := Blk.via hb1 (Blk.new2 w _ _ _); have q0 := k01.cell; have q1 := k11.cell; have hbw1 := below_via hb0 hb1 hb0.size; have l0 := k01.lt; have l1 := k11.lt)
      | (go_at_call 23; refine (HN.out _ hbw1).mono ?_; rintro e w2 ⟨rfl, hb2⟩; have hbw2 := below_via hbw1 hb2 hbw1.size))
    go_ret
    exact ⟨by simp, by first | exact hbw2 | exact hbw1 | exact hb0⟩
  cases oe
  · go_enter Tryd.func10, Tryd.ntmps10
    go_wp2_with (first
      | (go_at_call 22; refine (HS.out _ hb0).mono ?_; rintro e w1 ⟨rfl, hb1⟩; have k01 := Blk.via hb1 ((Blk.new w _ _).alloc _); have k11 := Blk.via hb1 (Blk.new2 w _ _ _); have q0 := k01.cell; have q1 := k11.cell; have hbw1 := below_via hb0 hb1 hb0.size; have l0 := k01.lt; have l1 := k11.lt)
      | (go_at_call 23; refine (HN.out _ hbw1).mono ?_; rintro e w2 ⟨rfl, hb2⟩; have hbw2 := below_via hbw1 hb2 hbw1.size))
    go_ret
    exact ⟨by simp, by first | exact hbw2 | exact hbw1 | exact hb0⟩
  cases h3 : (a.n == b.n)
  · go_enter Tryd.func10, Tryd.ntmps10
    go_wp2_with (first
      | (go_at_call 22; refine (HS.out _ hb0).mono ?_; rintro e w1 ⟨rfl, hb1⟩; have k01 := Blk.via hb1 ((Blk.new w _ _).alloc _); have k11 := Blk.via hb1 (Blk.new2 w _ _ _); have q0 := k01.cell; have q1 := k11.cell; have hbw1 := below_via hb0 hb1 hb0.size; have l0 := k01.lt; have l1 := k11.lt)
      | (go_at_call 23; refine (HN.out _ hbw1).mono ?_; rintro e w2 ⟨rfl, hb2⟩; have hbw2 := below_via hbw1 hb2 hbw1.size))
    go_ret
    exact ⟨by simp, by first | exact hbw2 | exact hbw1 | exact hb0⟩
  cases h4 : (a.log == b.log)
  · go_enter Tryd.func10, Tryd.ntmps10
    go_wp2_with (first
      | (go_at_call 22; refine (HS.out _ hb0).mono ?_; rintro e w1 ⟨rfl, hb1⟩; have k01 := Blk.via hb1 ((Blk.new w _ _).alloc _); have k11 := Blk.via hb1 (Blk.new2 w _ _ _); have q0 := k01.cell; have q1 := k11.cell; have hbw1 := below_via hb0 hb1 hb0.size; have l0 := k01.lt; have l1 := k11.lt)
      | (go_at_call 23; refine (HN.out _ hbw1).mono ?_; rintro e w2 ⟨rfl, hb2⟩; have hbw2 := below_via hbw1 hb2 hbw1.size))
    go_ret
    exact ⟨by simp, by first | exact hbw2 | exact hbw1 | exact hb0⟩
  cases ne
  · go_enter Tryd.func10, Tryd.ntmps10
    go_wp2_with (first
      | (go_at_call 22; refine (HS.out _ hb0).mono ?_; rintro e w1 ⟨rfl, hb1⟩; have k01 := Blk.via hb1 ((Blk.new w _ _).alloc _); have k11 := Blk.via hb1 (Blk.new2 w _ _ _); have q0 := k01.cell; have q1 := k11.cell; have hbw1 := below_via hb0 hb1 hb0.size; have l0 := k01.lt; have l1 := k11.lt)
      | (go_at_call 23; refine (HN.out _ hbw1).mono ?_; rintro e w2 ⟨rfl, hb2⟩; have hbw2 := below_via hbw1 hb2 hbw1.size))
    go_ret
    exact ⟨by simp, by first | exact hbw2 | exact hbw1 | exact hb0⟩
  · go_enter Tryd.func10, Tryd.ntmps10
    go_wp2_with (first
      | (go_at_call 22; refine (HS.out _ hb0).mono ?_; rintro e w1 ⟨rfl, hb1⟩; have k01 := Blk.via hb1 ((Blk.new w _ _).alloc _); have k11 := Blk.via hb1 (Blk.new2 w _ _ _); have q0 := k01.cell; have q1 := k11.cell; have hbw1 := below_via hb0 hb1 hb0.size; have l0 := k01.lt; have l1 := k11.lt)
      | (go_at_call 23; refine (HN.out _ hbw1).mono ?_; rintro e w2 ⟨rfl, hb2⟩; have hbw2 := below_via hbw1 hb2 hbw1.size))
    go_ret
    exact ⟨by simp, by first | exact hbw2 | exact hbw1 | exact hb0⟩
end Go.Proofs.YtgokkbocboonnaaDoor
