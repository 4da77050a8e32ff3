/-
  WALKS OF THE PROGRAM: act.Check, act.Line of any act.
-/
import Derived.Test.YtgokkbocboonnaaDoorAK
import Derived.Test.YtgokkbocboonnaaDoorSE
import Derived.Test.YtgokkbocboonnaaDoorApp
namespace Go.Proofs.YtgokkbocboonnaaDoor
open Go.RowKit Go.Lib

theorem isActB_of {a : ActD} {b : Bool} (h : (decide (0 ≤ a.act ∧ a.act ≤ 5) && (!decide (a.act < 2) || decide (0 ≤ a.client ∧ a.client < 16)) && (!decide (a.act = 0) || isCallB a.op) && (!decide (a.act = 4) || decide (a.pages.length ≤ 60))) = b) : isActB a = b := h
set_option maxHeartbeats 3200000 in
theorem actCheck_any (a cl m lg : Int) (x : OpD) (pages : List Int) (A F : Option Addr) (n c f f' : Nat) (w : World) (hn : n = x.data.length) (hf : f = pages.length) (hf1 : f ≤ 9223372036854775807) (hk : x.key.size ≤ 9223372036854775807) :
    Calls Tryd.prog 15 #[.agg #[.int .i64 a, .int .i64 cl, .int .i64 x.act, .string x.key, .slice A n c, .int .i64 x.lo, .int .i64 x.hi, .int .i64 x.n, .int .i64 m, .slice F f f', .int .i64 lg]] w fun e w' => e = .returned (.int .i64 (ckE (isActB ⟨a, cl, x, m, pages, lg⟩))) ∧ Below w.heap.size w w' := by
  have HI := hide (fun (b : Bool) (hb : decide (0 ≤ cl ∧ cl < 16) = b) W => hb ▸ isClient_any cl W)
  by_cases a0 : a = 0
  · subst a0
    by_cases hc : 0 ≤ cl ∧ cl < 16
    · have e : isActB ⟨0, cl, x, m, pages, lg⟩ = isCallB x := by unfold isActB; simp [hc.1, hc.2]
      rw [e]
      exact actCheck_call x cl m lg A F n c f f' w hn hk hc.1 hc.2
    · have HB := hide (show isActB ⟨0, cl, x, m, pages, lg⟩ = false by
        unfold isActB; simp only [decide_eq_false hc]; rfl)
      have HII := hide (HI.out false (decide_eq_false hc))
      clear hn hf hc
      rw [HB.out]
      go_enter Tryd.func15, Tryd.ntmps15
      go_wp2_with (go_at_call 32; refine (HII.out _).mono ?_; rintro e w' ⟨rfl, rfl⟩)
      go_ret
      exact ⟨rfl, (Below.refl _ _).alloc (Nat.le_refl _) _⟩
  have b0 : ((a : Int) == 0) = false := by simpa using a0
  by_cases a1 : a = 1
  · subst a1
    cases hc : decide (0 ≤ cl ∧ cl < 16)
    all_goals
      have HB := hide (show isActB ⟨1, cl, x, m, pages, lg⟩ = decide (0 ≤ cl ∧ cl < 16) by unfold isActB; simp)
      rw [hc] at HB
      have HII := hide (HI.out _ hc)
      clear hn hf hc a0 b0
      rw [HB.out]
      go_enter Tryd.func15, Tryd.ntmps15
      go_wp2_with (go_at_call 32; refine (HII.out _).mono ?_; rintro e w' ⟨rfl, rfl⟩)
      go_ret
      exact ⟨rfl, (Below.refl _ _).alloc (Nat.le_refl _) _⟩
  have b1 : ((a : Int) == 1) = false := by simpa using a1
  by_cases a2 : a = 2
  · subst a2
    have HB := hide (show isActB ⟨2, cl, x, m, pages, lg⟩ = true from rfl)
    clear hn hf a0 a1
    rw [HB.out]
    go_enter Tryd.func15, Tryd.ntmps15
    go_wp2
    go_ret
    exact ⟨rfl, (Below.refl _ _).alloc (Nat.le_refl _) _⟩
  have b2 : ((a : Int) == 2) = false := by simpa using a2
  by_cases a3 : a = 3
  · subst a3
    have HB := hide (show isActB ⟨3, cl, x, m, pages, lg⟩ = true from rfl)
    clear hn hf a0 a1 a2
    rw [HB.out]
    go_enter Tryd.func15, Tryd.ntmps15
    go_wp2
    go_ret
    exact ⟨rfl, (Below.refl _ _).alloc (Nat.le_refl _) _⟩
  have b3 : ((a : Int) == 3) = false := by simpa using a3
  by_cases a5 : a = 5
  · subst a5
    have HB := hide (show isActB ⟨5, cl, x, m, pages, lg⟩ = true from rfl)
    clear hn hf a0 a1 a2 a3
    rw [HB.out]
    go_enter Tryd.func15, Tryd.ntmps15
    go_wp2
    go_ret
    exact ⟨rfl, (Below.refl _ _).alloc (Nat.le_refl _) _⟩
  have b5 : ((a : Int) == 5) = false := by simpa using a5
  by_cases a4 : a = 4
  · subst a4
    by_cases h60 : f ≤ 60
    · have HB := hide (show isActB ⟨4, cl, x, m, pages, lg⟩ = true by unfold isActB; simp; omega)
      have h61 : (f : Int) ≤ 60 := by omega
      clear hn hf a0 a1 a2 a3 a5
      rw [HB.out]
      go_enter Tryd.func15, Tryd.ntmps15
      go_wp2
      go_ret
      exact ⟨rfl, (Below.refl _ _).alloc (Nat.le_refl _) _⟩
    · have HB := hide (show isActB ⟨4, cl, x, m, pages, lg⟩ = false by unfold isActB; simp; omega)
      have h61 : ¬ (f : Int) ≤ 60 := by omega
      clear hn hf a0 a1 a2 a3 a5
      rw [HB.out]
      go_enter Tryd.func15, Tryd.ntmps15
      go_wp2
      go_ret
      exact ⟨rfl, (Below.refl _ _).alloc (Nat.le_refl _) _⟩
  have b4 : ((a : Int) == 4) = false := by simpa using a4
  have HB := hide (show isActB ⟨a, cl, x, m, pages, lg⟩ = false by
    unfold isActB; rw [decide_eq_false (show ¬ (0 ≤ a ∧ a ≤ 5) by omega)]; rfl)
  clear hn hf a0 a1 a2 a3 a4 a5
  rw [HB.out]
  go_enter Tryd.func15, Tryd.ntmps15
  go_wp2
  go_ret
  exact ⟨rfl, (Below.refl _ _).alloc (Nat.le_refl _) _⟩

theorem map_tx (xs : List (List UInt8)) : (xs.map tx).map (·.data.toList) = xs := by
  induction xs with
  | nil => rfl
  | cons a r ih => rw [List.map_cons, List.map_cons, ih, tx_data]
theorem ajoin_own (w : World) (base : Nat) (A : Option Addr) (n c : Nat) (xs : List (List UInt8)) (h : w.ownsRow base 9 1 (.slice A n c) n (xs.map fun l => .string (tx l))) (h0 : 0 < n) (hN : n ≤ 1000) (hlen : (Lib.join xs [32]).length ≤ 1000000) :
    Calls Tryd.prog 29 #[.slice A n c] w fun e w' => e = .returned (.string (tx (Lib.join xs [32]))) ∧ Below w.heap.size w w' := by
  have hl : n = (xs.map tx).length := by have := h.1; simpa using this.symm
  obtain ⟨g, cap, hv, _, hlt⟩ := h.form h0
  injection hv with e1 e2 e3
  subst e1 e3
  have hcap : n ≤ c := by
    obtain ⟨_, ⟨h1, _⟩ | ⟨g', cap', cur, h1, _, _, h4, _⟩⟩ := h
    · cases h1
    · injection h1 with _ _ e3; rw [e3]; exact h4
  have hm := map_tx xs
  have HJ := hide (Tryd.strings_Join g 0 c (xs.map tx) ⟨#[32]⟩ w (fun j x hx => by
    have := h.cells (g := g) rfl j (.string x) (by rw [List.getElem?_map] at hx ⊢; cases hq : xs[j]? with | none => rw [hq] at hx; cases hx | some l => rw [hq] at hx; injection hx with hx; subst hx; rfl)
    rw [add_plain] at this
    exact this) hlt (by omega) (by omega) (by rw [hm]; show (Lib.join _ [32]).length ≤ _; omega))
  rw [hm, ← hl] at HJ
  clear hlen hl hm h
  go_enter Tryd.func29, Tryd.ntmps29
  go_wp2_with (go_at_call 47; refine HJ.out.mono ?_; rintro e w1 ⟨rfl, hb⟩)
  go_ret
  exact ⟨rfl, hb⟩
end Go.Proofs.YtgokkbocboonnaaDoor
