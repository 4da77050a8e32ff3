/-
  WALKS: waits.first (slices.BinarySearchFunc): where the edges from a place begin, of sorted ones.
-/
import Derived.Test.YtkbcenddhcnkeaaGF
namespace Go.Proofs.Ytkbcenddhcnkeaa
open Go.RowKit

/-- Where the edges from a place begin. -/
def firstE (s : List Ed) (p : Int) : Nat := (s.filter fun e => decide (e.1 < p)).length
theorem firstE_of {s : List Ed} {p : Int} {lo : Nat} (hl : lo ≤ s.length) (h1 : ∀ (i : Nat) e, i < lo → s[i]? = some e → e.1 < p) (h2 : ∀ (i : Nat) e, lo ≤ i → s[i]? = some e → ¬ e.1 < p) : firstE s p = lo := by
  unfold firstE
  rw [← List.take_append_drop lo s, List.filter_append, List.filter_eq_self.2, List.filter_eq_nil_iff.2]
  · simp
    omega
  · intro e he
    obtain ⟨i, hi⟩ := List.mem_iff_getElem?.1 he
    rw [List.getElem?_drop] at hi
    simpa using h2 _ e (by omega) hi
  · intro e he
    obtain ⟨i, hi⟩ := List.mem_iff_getElem?.1 he
    have hlt := (List.getElem?_eq_some_iff.1 hi).1
    rw [List.length_take] at hlt
    rw [List.getElem?_take_of_lt (by omega)] at hi
    simpa using h1 i e (by omega) hi
theorem firstE_le (s : List Ed) (p : Int) : firstE s p ≤ s.length := List.length_filter_le _ _
theorem firstE_ahead {s : List Ed} (hs : SortedE s) (p : Int) : (∀ (i : Nat) e, i < firstE s p → s[i]? = some e → e.1 < p) ∧ ∀ (i : Nat) e, firstE s p ≤ i → s[i]? = some e → ¬ e.1 < p := by
  have key : ∃ lo, lo ≤ s.length ∧ (∀ (i : Nat) e, i < lo → s[i]? = some e → e.1 < p) ∧ ∀ (i : Nat) e, lo ≤ i → s[i]? = some e → ¬ e.1 < p := by
    induction s with
    | nil => exact ⟨0, Nat.le_refl _, fun i e hi => absurd hi (by omega), fun i e _ he => by simp at he⟩
    | cons x r ih =>
      by_cases hx : x.1 < p
      · obtain ⟨lo, h1, h2, h3⟩ := ih (List.pairwise_cons.1 hs).2
        refine ⟨lo + 1, by simpa using h1, fun i e hi he => ?_, fun i e hi he => ?_⟩
        · cases i with
          | zero => simp at he; subst he; exact hx
          | succ i => exact h2 i e (by omega) (by simpa using he)
        · cases i with
          | zero => omega
          | succ i => exact h3 i e (by omega) (by simpa using he)
      · refine ⟨0, Nat.zero_le _, fun i e hi => absurd hi (by omega), fun i e _ he => ?_⟩
        have := sorted_from hs (Nat.zero_le i) (x := x) (y := e) (by simp) he
        omega
  obtain ⟨lo, h1, h2, h3⟩ := key
  rw [firstE_of h1 h2 h3]
  exact ⟨h2, h3⟩
/-- Where the edges from the i-th on lead that are from a place. -/
def toAt (s : List Ed) (p : Int) (i : Nat) : List Int := ((s.drop i).takeWhile fun e => e.1 == p).map (·.2)
theorem toAt_none {s : List Ed} {p : Int} {i : Nat} (h : s.length ≤ i) : toAt s p i = [] := by
  unfold toAt
  rw [List.drop_of_length_le h]
  rfl
theorem toAt_stop {s : List Ed} {p : Int} {i : Nat} {e : Ed} (h : s[i]? = some e) (hp : e.1 ≠ p) : toAt s p i = [] := by
  obtain ⟨hi, rfl⟩ := List.getElem?_eq_some_iff.1 h
  unfold toAt
  rw [List.drop_eq_getElem_cons hi, List.takeWhile_cons_of_neg (by simpa using hp)]
  rfl
theorem toAt_next {s : List Ed} {p : Int} {i : Nat} {e : Ed} (h : s[i]? = some e) (hp : e.1 = p) : toAt s p i = e.2 :: toAt s p (i + 1) := by
  obtain ⟨hi, rfl⟩ := List.getElem?_eq_some_iff.1 h
  unfold toAt
  rw [List.drop_eq_getElem_cons hi, List.takeWhile_cons_of_pos (by simpa using hp)]
  rfl
theorem while_sorted {r : List Ed} (p : Int) (hs : SortedE r) (h : ∀ e ∈ r, p ≤ e.1) : r.takeWhile (fun e => e.1 == p) = r.filter fun e => e.1 == p := by
  induction r with
  | nil => rfl
  | cons x r ih =>
    have hs' := List.pairwise_cons.1 hs
    by_cases hx : x.1 = p
    · rw [List.takeWhile_cons_of_pos (by simpa using hx), List.filter_cons_of_pos (by simpa using hx), ih hs'.2 (fun e he => h e (List.mem_cons_of_mem _ he))]
    · rw [List.takeWhile_cons_of_neg (by simpa using hx), List.filter_cons_of_neg (by simpa using hx)]
      symm
      rw [List.filter_eq_nil_iff]
      intro e he
      have h1 := h x List.mem_cons_self
      have h2 := leE_iff.1 (hs'.1 e he)
      simp
      omega
theorem toAt_first {s : List Ed} (hs : SortedE s) (p : Int) : toAt s p (firstE s p) = tosOf s p := by
  obtain ⟨h1, h2⟩ := firstE_ahead hs p
  unfold toAt tosOf
  conv => rhs; rw [← List.take_append_drop (firstE s p) s, List.filter_append]
  have e1 : (s.take (firstE s p)).filter (fun e => e.1 == p) = [] := by
    rw [List.filter_eq_nil_iff]
    intro e he
    obtain ⟨i, hi⟩ := List.mem_iff_getElem?.1 he
    have hlt := (List.getElem?_eq_some_iff.1 hi).1
    rw [List.length_take] at hlt
    rw [List.getElem?_take_of_lt (by omega)] at hi
    have := h1 i e (by omega) hi
    simp
    omega
  rw [e1, List.nil_append, while_sorted p (List.Pairwise.sublist (List.drop_sublist _ _) hs) (fun e he => ?_)]
  obtain ⟨i, hi⟩ := List.mem_iff_getElem?.1 he
  rw [List.getElem?_drop] at hi
  have := h2 _ e (Nat.le_add_right _ _) hi
  omega
set_option maxHeartbeats 1600000 in
theorem firstC_any (x : Ed) (p : Int) (w : World) : Calls Try.prog 35 #[.agg #[.int .i64 x.1, .int .i64 x.2], .int .i64 p] w fun e w' => e = .returned (.int .i64 (cmpI x.1 p)) ∧ Below w.heap.size w w' := by
  obtain ⟨x1, x2⟩ := x
  have HC := hide (fun w => compare_any x1 p w)
  dsimp only
  generalize cmpI x1 p = r at HC ⊢
  go_enter Try.func35, Try.ntmps35
  go_wp2_with (go_at_call 31; refine (HC.out _).mono ?_; rintro e w' ⟨rfl, hw'⟩; obtain rfl := hw'.symm)
  go_ret
  exact ⟨rfl, (Below.refl _ _).alloc (Nat.le_refl _) _⟩
def BsfPost (s : List Ed) (p : Int) (w : World) (e : Ending) (w' : World) : Prop := (∃ bb, e = .returned (.tuple #[.int .i64 (firstE s p : Nat), .bool bb])) ∧ Below w.heap.size w w'
set_option maxHeartbeats 3200000 in
set_option maxRecDepth 100000 in
theorem bsf_any (A : Option Addr) (n c : Nat) (p : Int) (s : List Ed) (B : Nat) (w : World) (hB : B ≤ w.heap.size) (hn : n ≤ 1000000) (h : Eds w B A n s) (hs : SortedE s) :
    Calls Try.prog 34 #[.slice A n c, .int .i64 p, .func (.func 35) #[] #[]] w (BsfPost s p w) := by
  have HL := hide h.1
  have HS := hide hs
  clear hs
  go_enter Try.func34, Try.ntmps34
  go_wp2
  go_loopw [9, 10] (fun a b wr => ∃ lo hi : Nat, a = .int .i64 lo ∧ b = .int .i64 hi ∧ lo ≤ hi ∧ hi ≤ n ∧ Below w.heap.size w wr ∧ (∀ (i : Nat) x, i < lo → s[i]? = some x → x.1 < p) ∧ (∀ (i : Nat) x, hi ≤ i → s[i]? = some x → p ≤ x.1)) (fun a b _ => (intOf b).toNat - (intOf a).toNat)
  case atStart => exact ⟨0, n, rfl, rfl, Nat.zero_le _, Nat.le_refl _, Below.refl _ _, fun i x hi => absurd hi (by omega), fun i x hi hx => by have := (List.getElem?_eq_some_iff.1 hx).1; have := HL.out; omega⟩
  case round =>
    obtain ⟨lo, hi, rfl, rfl, hlh, hhn, hbw, hlo, hhi⟩ := hrel
    have HLO := hide hlo
    have HHI := hide hhi
    have hwz := hbw.size
    clear hlo hhi
    by_cases hlt : lo < hi
    · have hP := h.below hbw hB
      have hmid : (lo + hi) / 2 < n := by omega
      obtain ⟨b, o, x, rfl, hb, hx, c0, c1⟩ := hP.at_ hmid
      have HX := hide hx
      clear hx hP h
      have HC := hide (fun (z : Int) (hz : cmpI x.1 p = z) W => hz ▸ firstC_any x p W)
      by_cases hxp : x.1 < p
      · have hz : cmpI x.1 p = -1 := if_pos hxp
        have HC' := hide (HC.out _ hz)
        have HXP := hide hxp
        clear hz HC hxp
        go_wp2_with (go_at_call 35; (with_reducible refine (HC'.out _).mono ?_); rintro e w' ⟨rfl, hbx⟩)
        go_roundw
        case rel => exact ⟨(lo + hi) / 2 + 1, hi, by go_num, rfl, by omega, by omega, below_via hbw hbx hwz, fun i y hi hy => by have := sorted_from HS.out (by omega) hy HX.out; have := HXP.out; omega, HHI.out⟩
        case measure => simp [intOf]; omega
      · have hz : cmpI x.1 p = 0 ∨ cmpI x.1 p = 1 := by
          unfold cmpI
          rw [if_neg hxp]
          split <;> simp
        have HXP := hide hxp
        clear hxp
        rcases hz with hz | hz
        all_goals
          have HC' := hide (HC.out _ hz)
          clear HC hz
          go_wp2_with (go_at_call 35; (with_reducible refine (HC'.out _).mono ?_); rintro e w' ⟨rfl, hbx⟩)
          go_roundw
          case rel => exact ⟨lo, (lo + hi) / 2, rfl, by go_num, by omega, by omega, below_via hbw hbx hwz, HLO.out, fun i y hi hy => by have := sorted_from HS.out hi HX.out hy; have := HXP.out; omega⟩
          case measure => simp [intOf]; omega
    · obtain rfl : lo = hi := by omega
      have HPOS := hide (firstE_of (p := p) (by have := HL.out; omega) HLO.out (fun i e h1 h2 => by have := HHI.out i e h1 h2; omega))
      by_cases hln : lo < n
      · have hP := h.below hbw hB
        obtain ⟨b, o, x, rfl, hb, hx, c0, c1⟩ := hP.at_ hln
        have HC := hide (fun W => firstC_any x p W)
        clear hx hP h
        generalize cmpI x.1 p = r at HC
        by_cases hr : r = 0
        · subst hr
          go_wp2_with (go_at_call 35; (with_reducible refine (HC.out _).mono ?_); rintro e w' ⟨rfl, hbx⟩)
          go_ret2
          exact ⟨⟨_, by rw [HPOS.out]; rfl⟩, below_via hbw hbx hwz⟩
        · go_wp2_with (go_at_call 35; (with_reducible refine (HC.out _).mono ?_); rintro e w' ⟨rfl, hbx⟩)
          go_ret2
          exact ⟨⟨_, by rw [HPOS.out]; rfl⟩, below_via hbw hbx hwz⟩
      · go_wp2
        go_ret2
        exact ⟨⟨_, by rw [HPOS.out]; rfl⟩, hbw⟩
theorem first_any (A : Option Addr) (n c : Nat) (p : Int) (s : List Ed) (B : Nat) (w : World) (hB : B ≤ w.heap.size) (hn : n ≤ 1000000) (h : Eds w B A n s) (hs : SortedE s) :
    Calls Try.prog 24 #[.slice A n c, .int .i64 p] w fun e w' => e = .returned (.int .i64 (firstE s p : Nat)) ∧ Below w.heap.size w w' := by
  have HB := hide (bsf_any A n c p s B w hB hn h hs)
  clear h hs
  go_enter Try.func24, Try.ntmps24
  go_wp2_with fail
  refine HB.out.mono ?_
  rintro e w' ⟨⟨bb, rfl⟩, hbx⟩
  go_wp2
  go_ret
  exact ⟨rfl, hbx⟩
end Go.Proofs.Ytkbcenddhcnkeaa
