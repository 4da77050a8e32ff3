/-
  WALKS: moneyerref09.Much of one operation, moneyerref31.Big, bytes.Equal, slices.Equal of numbers, act.Same.
-/
import Derived.Test.YtgokkbocboonnaaDoorAQ
namespace Go.Proofs.YtgokkbocboonnaaDoor
open Go.RowKit Go.Lib

/-- Is an operation more than is asked? -/
def bigOp (x : OpD) : Bool := decide (300 < x.key.size) || decide (300 < x.data.length)
set_option maxHeartbeats 1600000 in
theorem Much_one (g : Nat) (x : OpD) (A : Option Addr) (n c : Nat) (w : World) (k : Blk w g 25 #[.int .i64 x.act, .string x.key, .slice A n c, .int .i64 x.lo, .int .i64 x.hi, .int .i64 x.n]) (hn : n = x.data.length) :
    Calls Tryd.prog 28 #[.slice (some ⟨g, 0, none⟩) 1 1] w fun e w' => e = .returned (.bool (bigOp x)) ∧ w' = w := by
  have q := k.cell
  by_cases h1 : 300 < x.key.size
  · have HB := hide (show bigOp x = true by unfold bigOp; rw [decide_eq_true h1]; rfl)
    clear hn
    go_enter Tryd.func28, Tryd.ntmps28
    go_wp2
    go_loop [3] (fun i => ∃ k : Nat, k ≤ 0 ∧ i = .int .i64 k) (fun i => 1 - (intOf i).toNat)
    case atStart => exact ⟨0, Nat.zero_le _, rfl⟩
    case round =>
      obtain ⟨j, hj, rfl⟩ := hrel
      obtain rfl : j = 0 := by omega
      go_wp2
      go_ret
      exact ⟨ret_bool HB.out.symm, rfl⟩
  · by_cases h2 : 300 < n
    · have HB := hide (show bigOp x = true by unfold bigOp; rw [decide_eq_true (show 300 < x.data.length by omega)]; simp)
      clear hn
      go_enter Tryd.func28, Tryd.ntmps28
      go_wp2
      go_loop [3] (fun i => ∃ k : Nat, k ≤ 0 ∧ i = .int .i64 k) (fun i => 1 - (intOf i).toNat)
      case atStart => exact ⟨0, Nat.zero_le _, rfl⟩
      case round =>
        obtain ⟨j, hj, rfl⟩ := hrel
        obtain rfl : j = 0 := by omega
        go_wp2
        go_ret
        exact ⟨ret_bool HB.out.symm, rfl⟩
    · have HB := hide (show bigOp x = false by unfold bigOp; rw [decide_eq_false h1, decide_eq_false (show ¬ 300 < x.data.length by omega)]; rfl)
      clear hn
      go_enter Tryd.func28, Tryd.ntmps28
      go_wp2
      go_loop [3] (fun i => ∃ k : Nat, k ≤ 1 ∧ i = .int .i64 k) (fun i => 1 - (intOf i).toNat)
      case atStart => exact ⟨0, Nat.zero_le _, rfl⟩
      case round =>
        obtain ⟨j, hj, rfl⟩ := hrel
        rcases (show j = 0 ∨ j = 1 by omega) with rfl | rfl
        · go_wp2
          go_round
          case rel => exact ⟨1, Nat.le_refl _, rfl⟩
          case measure => simp [intOf]
        · go_wp2
          go_ret
          exact ⟨ret_bool HB.out.symm, rfl⟩
/-- Is an act more than is asked? -/
def bigA (a : ActD) : Bool := bigOp a.op || decide (100 < a.pages.length)
set_option maxHeartbeats 1600000 in
theorem Big_any (a cl m lg : Int) (x : OpD) (pages : List Int) (A F : Option Addr) (n c f f' : Nat) (w : World) (hn : n = x.data.length) (hf : f = pages.length) (hf1 : f ≤ 9223372036854775807) :
    Calls Tryd.prog 13 #[.agg #[.int .i64 a, .int .i64 cl, .int .i64 x.act, .string x.key, .slice A n c, .int .i64 x.lo, .int .i64 x.hi, .int .i64 x.n, .int .i64 m, .slice F f f', .int .i64 lg]] w fun e w' => e = .returned (.bool (bigA ⟨a, cl, x, m, pages, lg⟩)) ∧ Below w.heap.size w w' := by
  cases hb : bigOp x
  · have HM := hide (fun W g k => hb ▸ Much_one g x A n c W k hn)
    by_cases h100 : 100 < f
    · have HB := hide (show bigA ⟨a, cl, x, m, pages, lg⟩ = true by unfold bigA; dsimp only; rw [hb, decide_eq_true (show 100 < pages.length by omega)]; rfl)
      have s1 : (100 : Int) < f := by omega
      clear hn hf hb
      go_enter Tryd.func13, Tryd.ntmps13
      go_wp2_with (go_at_call 28; refine (HM.out _ _ (Blk.new2 w _ _ _)).mono ?_; rintro e w' ⟨rfl, rfl⟩)
      go_ret
      exact ⟨ret_bool HB.out.symm, below2 _ _ _⟩
    · have HB := hide (show bigA ⟨a, cl, x, m, pages, lg⟩ = false by unfold bigA; dsimp only; rw [hb, decide_eq_false (show ¬ 100 < pages.length by omega)]; rfl)
      have s1 : ¬ (100 : Int) < f := by omega
      clear hn hf hb
      go_enter Tryd.func13, Tryd.ntmps13
      go_wp2_with (go_at_call 28; refine (HM.out _ _ (Blk.new2 w _ _ _)).mono ?_; rintro e w' ⟨rfl, rfl⟩)
      go_ret
      exact ⟨ret_bool (by rw [HB.out]; simp; omega), below2 _ _ _⟩
  · have HM := hide (fun W g k => hb ▸ Much_one g x A n c W k hn)
    have HB := hide (show bigA ⟨a, cl, x, m, pages, lg⟩ = true by unfold bigA; dsimp only; rw [hb]; rfl)
    clear hn hf hb
    go_enter Tryd.func13, Tryd.ntmps13
    go_wp2_with (go_at_call 28; refine (HM.out _ _ (Blk.new2 w _ _ _)).mono ?_; rintro e w' ⟨rfl, rfl⟩)
    go_ret
    exact ⟨ret_bool HB.out.symm, below2 _ _ _⟩
theorem bigA_no {a : ActD} (h : bigA a = false) : a.op.key.size ≤ 300 ∧ a.op.data.length ≤ 300 ∧ a.pages.length ≤ 100 := by
  unfold bigA bigOp at h
  simp only [Bool.or_eq_false_iff, decide_eq_false_iff_not] at h
  omega

set_option maxHeartbeats 400000 in
theorem bEqual_any (A A' : Option Addr) (n c n' c' : Nat) (bs cs : List UInt8) (B : Nat) (w : World) (h : Reads w B 1 A n (bs.map byteV)) (h' : Reads w B 1 A' n' (cs.map byteV)) :
    Calls Tryd.prog 34 #[.slice A n c, .slice A' n' c'] w fun e w' => e = .returned (.bool (bs == cs)) ∧ w' = w := by
  have r1 := run_string_of (c := c) h 23 5 9 Tryd.underlying23 Tryd.underlying5 Tryd.underlying9
  have r2 := run_string_of (c := c') h' 23 5 9 Tryd.underlying23 Tryd.underlying5 Tryd.underlying9
  go_enter Tryd.func34, Tryd.ntmps34
  go_wp2
  go_ret
  exact ⟨rfl, rfl⟩
theorem sEqual_any (A A' : Option Addr) (n c n' c' : Nat) (xs ys : List Int) (B : Nat) (w : World) (hn : n ≤ 1000000) (hn' : n' ≤ 1000000) (h : Ints w B A n xs) (h' : Ints w B A' n' ys) :
    Calls Tryd.prog 35 #[.slice A n c, .slice A' n' c'] w fun e w' => e = .returned (.bool (numsEq xs ys)) ∧ Below w.heap.size w w' := by
  obtain ⟨h1, h2⟩ := h
  obtain ⟨h3, h4⟩ := h'
  by_cases hl : n = n'
  · subst hl
    by_cases h0 : n = 0
    · subst h0
      refine (Tryd.slices_Equal_int_empty A A' c 0 c' w (by omega)).mono ?_
      rintro e w' ⟨rfl, rfl⟩
      refine ⟨ret_bool ?_, Below.refl _ _⟩
      rw [List.eq_nil_of_length_eq_zero h1.symm, List.eq_nil_of_length_eq_zero h3.symm]
      rfl
    · obtain ⟨b, o, rfl, hb, hc⟩ := h2.plain (by omega) (by omega)
      obtain ⟨b', o', rfl, hb', hc'⟩ := h4.plain (by omega) (by omega)
      have g : ∀ (zs : List Int) (j : Nat), j < zs.length → (zs.map (Value.int .i64))[j]? = some (.int .i64 (zs.getD j 0)) := fun zs j hj => by
        rw [List.getElem?_map, List.getElem?_eq_getElem hj, List.getD_eq_getElem?_getD, List.getElem?_eq_getElem hj]
        rfl
      refine (Tryd.slices_Equal_int b o n c b' o' n c' xs ys w (by omega) (by omega) (by omega) (by omega) (fun j hj => hc j _ (g xs j hj)) (fun j hj => hc' j _ (g ys j hj))).mono ?_
      rintro e w' ⟨rfl, q, rfl⟩
      refine ⟨ret_bool ?_, below_of_drewN _ _⟩
      rw [List.take_of_length_le (by omega), List.take_of_length_le (by omega)]
      rfl
  · refine (Tryd.slices_Equal_int_lens A A' n c n' c' w hl).mono ?_
    rintro e w' ⟨rfl, rfl⟩
    exact ⟨ret_bool (numsEq_len (by omega)).symm, Below.refl _ _⟩
end Go.Proofs.YtgokkbocboonnaaDoor
