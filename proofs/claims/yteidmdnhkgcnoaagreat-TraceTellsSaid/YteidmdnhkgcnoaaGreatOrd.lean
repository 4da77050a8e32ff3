/-
  THE PLAIN LAW OF 'ORDER': a list turned by swaps of neighbours that commute into the order of ranks; how many swaps there are. No program in sight.
-/
import Derived.WalkKit
namespace Go.Proofs.YteidmdnhkgcnoaaGreat

/-- How many pairs stand the wrong way round. -/
def invs : List Int → Nat
  | [] => 0
  | a :: t => t.countP (fun b => decide (b < a)) + invs t

/-- The first pair of neighbours that stand the wrong way round. -/
def wrg : List Int → Option Nat
  | a :: b :: t => if b < a then some 0 else (wrg (b :: t)).map (· + 1)
  | _ => none

/-- Neighbours i and i + 1 change places. -/
def swp {α : Type} : List α → Nat → List α
  | a :: b :: t, 0 => b :: a :: t
  | a :: t, i + 1 => a :: swp t i
  | l, _ => l

theorem swp_length {α : Type} (l : List α) (i : Nat) : (swp l i).length = l.length := by
  induction l generalizing i with
  | nil => cases i <;> rfl
  | cons a t ih =>
    cases i with
    | zero => cases t <;> rfl
    | succ i => simp [swp, ih]
theorem swp_map {α β : Type} (f : α → β) (l : List α) (i : Nat) : (swp l i).map f = swp (l.map f) i := by
  induction l generalizing i with
  | nil => cases i <;> rfl
  | cons a t ih =>
    cases i with
    | zero => cases t <;> rfl
    | succ i => simp [swp, ih]
theorem swp_perm {α : Type} (l : List α) (i : Nat) : (swp l i).Perm l := by
  induction l generalizing i with
  | nil => cases i <;> exact .refl _
  | cons a t ih =>
    cases i with
    | zero =>
      cases t with
      | nil => exact .refl _
      | cons b t => exact .swap a b t
    | succ i => simpa [swp] using (ih i)
/-- The elements behind a swap, one by one. -/
theorem swp_at {α : Type} (l : List α) (i j : Nat) (h : i + 1 < l.length) : (swp l i)[j]? = if j = i then l[i + 1]? else if j = i + 1 then l[i]? else l[j]? := by
  induction l generalizing i j with
  | nil => simp at h
  | cons a t ih =>
    cases i with
    | zero =>
      cases t with
      | nil => simp at h
      | cons b t =>
        match j with
        | 0 => simp [swp]
        | 1 => simp [swp]
        | j + 2 => simp [swp]
    | succ i =>
      cases j with
      | zero => simp [swp]
      | succ j =>
        have := ih i j (by simpa using h)
        simp only [swp, List.getElem?_cons_succ, this]
        simp
theorem swp_far {α : Type} (l : List α) (i : Nat) (h : ¬ i + 1 < l.length) : swp l i = l := by
  induction l generalizing i with
  | nil => cases i <;> rfl
  | cons a t ih =>
    cases i with
    | zero =>
      cases t with
      | nil => rfl
      | cons b t => simp at h
    | succ i => simp [swp, ih i (by simpa using h)]
theorem swp_parts {α : Type} (l : List α) (i : Nat) (h : i + 1 < l.length) : swp l i = l.take i ++ (l[i + 1] :: l[i] :: l.drop (i + 2)) := by
  induction l generalizing i with
  | nil => simp at h
  | cons a t ih =>
    cases i with
    | zero =>
      cases t with
      | nil => simp at h
      | cons b t => rfl
    | succ i => simp [swp, ih i (by simpa using h)]

theorem invs_cons (a : Int) (t : List Int) : invs (a :: t) = t.countP (fun b => decide (b < a)) + invs t := rfl
theorem invs_snoc (l : List Int) (a : Int) : invs (l ++ [a]) = invs l + l.countP (fun b => decide (a < b)) := by
  induction l with
  | nil => rfl
  | cons x t ih =>
    simp only [List.cons_append, invs_cons, List.countP_append, ih, List.countP_cons, List.countP_nil]
    omega

theorem wrg_some {l : List Int} {i : Nat} (h : wrg l = some i) : ∃ h1 : i + 1 < l.length, l[i + 1] < l[i] := by
  induction l generalizing i with
  | nil => cases h
  | cons a t ih =>
    cases t with
    | nil => cases h
    | cons b t =>
      simp only [wrg] at h
      split at h
      · cases h
        exact ⟨by simp, by simpa⟩
      · cases hw : wrg (b :: t) with
        | none => rw [hw] at h; cases h
        | some k =>
          rw [hw] at h
          cases h
          obtain ⟨h1, h2⟩ := ih hw
          exact ⟨by simpa using h1, by simpa using h2⟩
theorem wrg_none {l : List Int} (h : wrg l = none) : ∀ i (h1 : i + 1 < l.length), l[i] ≤ l[i + 1] := by
  induction l with
  | nil => intro i h1; simp at h1
  | cons a t ih =>
    cases t with
    | nil => intro i h1; simp at h1
    | cons b t =>
      simp only [wrg] at h
      split at h
      · cases h
      · rename_i hn
        have hw : wrg (b :: t) = none := by
          cases hw : wrg (b :: t) with
          | none => rfl
          | some k => rw [hw] at h; cases h
        intro i h1
        cases i with
        | zero => simp; omega
        | succ i => exact ih hw i (by simpa using h1)
/-- The first one: all pairs ahead of it stand right. -/
theorem wrg_first {l : List Int} {i : Nat} (hi : i + 1 < l.length) (hlt : l[i + 1] < l[i]) (hb : ∀ j (h : j + 1 < l.length), j < i → l[j] ≤ l[j + 1]) : wrg l = some i := by
  induction l generalizing i with
  | nil => simp at hi
  | cons a t ih =>
    cases t with
    | nil => simp at hi
    | cons b t =>
      cases i with
      | zero => simp only [wrg]; rw [if_pos (by simpa using hlt)]
      | succ i =>
        have h0 := hb 0 (by simp) (by omega)
        simp only [wrg]
        rw [if_neg (by simp at h0; omega), ih (i := i) (by simpa using hi) (by simpa using hlt) (fun j h hj => by
          have := hb (j + 1) (by simpa using h) (by omega)
          simpa using this)]
        rfl
theorem wrg_all {l : List Int} (hb : ∀ j (h : j + 1 < l.length), l[j] ≤ l[j + 1]) : wrg l = none := by
  cases h : wrg l with
  | none => rfl
  | some i =>
    obtain ⟨h1, h2⟩ := wrg_some h
    have := hb i h1
    omega
theorem le_of_wrg_none {a : Int} {t : List Int} (h : wrg (a :: t) = none) : ∀ x ∈ t, a ≤ x := by
  induction t generalizing a with
  | nil => intro x hx; cases hx
  | cons b t ih =>
    simp only [wrg] at h
    split at h
    · cases h
    · rename_i hn
      have hw : wrg (b :: t) = none := by
        cases hw : wrg (b :: t) with
        | none => rfl
        | some k => rw [hw] at h; cases h
      intro x hx
      rcases List.mem_cons.1 hx with rfl | hx
      · omega
      · have := ih hw x hx; omega
theorem invs_zero {l : List Int} (h : wrg l = none) : invs l = 0 := by
  induction l with
  | nil => rfl
  | cons a t ih =>
    have hle := le_of_wrg_none h
    have ht : wrg t = none := by
      cases t with
      | nil => rfl
      | cons b t =>
        simp only [wrg] at h
        split at h
        · cases h
        · cases hw : wrg (b :: t) with
          | none => rfl
          | some k => rw [hw] at h; cases h
    rw [invs_cons, ih ht]
    have : t.countP (fun b => decide (b < a)) = 0 := by
      rw [List.countP_eq_zero]
      intro x hx
      have := hle x hx
      simp; omega
    omega
theorem countP_swp (p : Int → Bool) (l : List Int) (i : Nat) : (swp l i).countP p = l.countP p := (swp_perm l i).countP_eq p
/-- A swap of a pair that stands wrong: one pair less. -/
theorem invs_swp {l : List Int} {i : Nat} (hi : i + 1 < l.length) (hlt : l[i + 1] < l[i]) : invs (swp l i) + 1 = invs l := by
  induction l generalizing i with
  | nil => simp at hi
  | cons a t ih =>
    cases i with
    | zero =>
      cases t with
      | nil => simp at hi
      | cons b t =>
        have h : b < a := by simpa using hlt
        simp only [swp, invs_cons, List.countP_cons]
        have h2 : ¬ a < b := by omega
        simp [h, h2]
        omega
    | succ i =>
      have := ih (i := i) (by simpa using hi) (by simpa using hlt)
      simp only [swp, invs_cons, countP_swp]
      omega

section
variable {α : Type} (com : α → α → Bool) (r : α → Int)
/-- P34.1: as long as a pair of neighbours stands wrong it is swapped, if the two commute: the list then; none, if two do not commute. 'f': so many swaps at the most. -/
def ord : Nat → List α → Option (List α)
  | 0, l => some l
  | f + 1, l =>
    match wrg (l.map r) with
    | none => some l
    | some i =>
      match l[i]?, l[i + 1]? with
      | some a, some b => if com a b then ord f (swp l i) else none
      | _, _ => none
theorem ord_done {l : List α} (h : wrg (l.map r) = none) (f : Nat) : ord com r f l = some l := by
  cases f with
  | zero => rfl
  | succ f => simp [ord, h]
theorem ord_step {l : List α} {i f : Nat} (hw : wrg (l.map r) = some i) {a b : α} (ha : l[i]? = some a) (hb : l[i + 1]? = some b) (hc : com a b = true) : ord com r (f + 1) l = ord com r f (swp l i) := by
  simp [ord, hw, ha, hb, hc]
theorem ord_stop {l : List α} {i f : Nat} (hw : wrg (l.map r) = some i) {a b : α} (ha : l[i]? = some a) (hb : l[i + 1]? = some b) (hc : com a b = false) : ord com r (f + 1) l = none := by
  simp [ord, hw, ha, hb, hc]
/-- The state of a search: the list as it is turned, and how many swaps there were, from l0 on. -/
def Mid (l0 l : List α) (n : Nat) : Prop := l.Perm l0 ∧ n + invs (l.map r) = invs (l0.map r) ∧ ord com r (invs (l.map r)) l = ord com r (invs (l0.map r)) l0
theorem Mid.start (l : List α) : Mid com r l l 0 := ⟨.refl _, by omega, rfl⟩
variable {com r}
theorem Mid.step {l0 l : List α} {n i : Nat} (h : Mid com r l0 l n) (hw : wrg (l.map r) = some i) {a b : α} (ha : l[i]? = some a) (hb : l[i + 1]? = some b) (hc : com a b = true) : Mid com r l0 (swp l i) (n + 1) ∧ invs ((swp l i).map r) + 1 = invs (l.map r) := by
  obtain ⟨h1, h2⟩ := wrg_some hw
  have h3 := invs_swp h1 h2
  rw [← swp_map] at h3
  refine ⟨⟨(swp_perm l i).trans h.1, by have := h.2.1; omega, ?_⟩, h3⟩
  rw [← h.2.2, ← h3, ord_step com r hw ha hb hc]
theorem Mid.stop {l0 l : List α} {n i : Nat} (h : Mid com r l0 l n) (hw : wrg (l.map r) = some i) {a b : α} (ha : l[i]? = some a) (hb : l[i + 1]? = some b) (hc : com a b = false) : ord com r (invs (l0.map r)) l0 = none := by
  obtain ⟨h1, h2⟩ := wrg_some hw
  have h3 := invs_swp h1 h2
  rw [← h.2.2, ← h3, ord_stop com r hw ha hb hc]
theorem Mid.done {l0 l : List α} {n : Nat} (h : Mid com r l0 l n) (hw : wrg (l.map r) = none) : ord com r (invs (l0.map r)) l0 = some l ∧ n = invs (l0.map r) ∧ invs (l.map r) = 0 := by
  have h0 := invs_zero hw
  exact ⟨by rw [← h.2.2, ord_done com r hw], by have := h.2.1; omega, h0⟩
theorem Mid.le {l0 l : List α} {n : Nat} (h : Mid com r l0 l n) : n ≤ invs (l0.map r) := by have := h.2.1; omega
end
theorem invs_le (l : List Int) : invs l ≤ l.length * l.length := by
  induction l with
  | nil => simp [invs]
  | cons a t ih =>
    have h := List.countP_le_length (p := fun b => decide (b < a)) (l := t)
    rw [invs_cons, List.length_cons, Nat.mul_succ, Nat.succ_mul]
    omega
end Go.Proofs.YteidmdnhkgcnoaaGreat
