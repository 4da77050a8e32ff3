/-
  TAKING OUT PLACES TO WHICH NONE GOES, again and again; plainly (P14.3). No program.
-/
import Derived.Test.YtkbcenddhcnkeaaGB
namespace Go.Proofs.Ytkbcenddhcnkeaa

/-- How many edges go to a place. -/
def cntE : List Ed → Int → Nat
  | [], _ => 0
  | e :: r, v => (if e.2 = v then 1 else 0) + cntE r v
theorem cntE_append (l m : List Ed) (v : Int) : cntE (l ++ m) v = cntE l v + cntE m v := by
  induction l with
  | nil => simp [cntE]
  | cons e r ih => simp only [List.cons_append, cntE, ih]; omega
theorem cntE_zero {l : List Ed} {v : Int} (h : cntE l v = 0) : ∀ e ∈ l, e.2 ≠ v := by
  induction l with
  | nil => intro e he; cases he
  | cons x r ih =>
    simp only [cntE] at h
    intro e he
    rcases List.mem_cons.1 he with rfl | he
    · intro e2
      rw [if_pos e2] at h
      omega
    · exact ih (by omega) e he
theorem cntE_pos {l : List Ed} {v : Int} (h : 0 < cntE l v) : ∃ e ∈ l, e.2 = v := by
  induction l with
  | nil => simp [cntE] at h
  | cons x r ih =>
    by_cases hx : x.2 = v
    · exact ⟨x, List.mem_cons_self, hx⟩
    · simp only [cntE, if_neg hx] at h
      obtain ⟨e, he, e2⟩ := ih (by omega)
      exact ⟨e, List.mem_cons_of_mem _ he, e2⟩
theorem cntE_le (l : List Ed) (v : Int) : cntE l v ≤ l.length := by
  induction l with
  | nil => simp [cntE]
  | cons x r ih => simp only [cntE, List.length_cons]; split <;> omega
theorem cntE_perm {l m : List Ed} (h : l.Perm m) (v : Int) : cntE l v = cntE m v := by
  induction h with
  | nil => rfl
  | cons x _ ih => simp only [cntE, ih]
  | swap x y l => simp only [cntE]; omega
  | trans _ _ i1 i2 => rw [i1, i2]
/-- The edges that are left. -/
def restE (s : List Ed) (P : List Int) : List Ed := s.filter fun e => !P.contains e.1
theorem restE_nil (s : List Ed) : restE s [] = s := List.filter_eq_self.2 (fun _ _ => rfl)
theorem mem_restE {s : List Ed} {P : List Int} {e : Ed} : e ∈ restE s P ↔ e ∈ s ∧ e.1 ∉ P := by simp [restE, List.mem_filter]
theorem restE_cons (e : Ed) (r : List Ed) (P : List Int) : restE (e :: r) P = if e.1 ∈ P then restE r P else e :: restE r P := by
  unfold restE
  rw [List.filter_cons]
  by_cases h : e.1 ∈ P <;> simp [h]
theorem tosOf_cons (e : Ed) (r : List Ed) (p : Int) : tosOf (e :: r) p = if e.1 = p then e.2 :: tosOf r p else tosOf r p := by
  unfold tosOf
  rw [List.filter_cons]
  by_cases h : e.1 = p <;> simp [h]
theorem rest_split {s : List Ed} {P : List Int} {p : Int} (hp : p ∉ P) : (restE s P).length = (restE s (P ++ [p])).length + (tosOf s p).length ∧ ∀ v, cntE (restE s P) v = cntE (restE s (P ++ [p])) v + (tosOf s p).count v := by
  induction s with
  | nil => exact ⟨rfl, fun v => rfl⟩
  | cons e r ih =>
    rw [restE_cons, restE_cons, tosOf_cons]
    by_cases h1 : e.1 = p
    · have h2 : e.1 ∉ P := h1 ▸ hp
      have h3 : e.1 ∈ P ++ [p] := by simp [h1]
      rw [if_neg h2, if_pos h3, if_pos h1]
      refine ⟨by simp only [List.length_cons]; omega, fun v => ?_⟩
      simp only [cntE, List.count_cons, ih.2 v]
      by_cases hv : e.2 = v
      · simp [hv]; omega
      · simp [hv]
    · by_cases h2 : e.1 ∈ P
      · have h3 : e.1 ∈ P ++ [p] := List.mem_append_left _ h2
        rw [if_pos h2, if_pos h3, if_neg h1]
        exact ih
      · have h3 : e.1 ∉ P ++ [p] := by simp [h1, h2]
        rw [if_neg h2, if_neg h3, if_neg h1]
        refine ⟨by simp only [List.length_cons]; omega, fun v => ?_⟩
        simp only [cntE, ih.2 v]
        omega
/-- Each place lies behind all from which an edge goes to it. -/
def Ordered (s : List Ed) (P : List Int) : Prop := ∀ (i : Nat) (v : Int), P[i]? = some v → ∀ u, (u, v) ∈ s → ∃ j : Nat, j < i ∧ P[j]? = some u
/-- Between two places that are taken out: P are out, fr are to be taken out, out edges are gone, of the others inn go to each. -/
structure Kh (s : List Ed) (P fr : List Int) (out : Nat) (inn : Int → Nat) : Prop where
  nodP : P.Nodup
  nodF : fr.Nodup
  dis : ∀ v ∈ fr, v ∉ P
  hin : ∀ v, inn v = cntE (restE s P) v
  hout : out + (restE s P).length = s.length
  zer : ∀ v ∈ fr, cntE (restE s P) v = 0
  all : ∀ e ∈ s, e.1 ∉ P → cntE (restE s P) e.1 = 0 → e.1 ∈ fr
  ord : Ordered s P
/-- While the edges from p go: those to ts are left. -/
structure Ki (s : List Ed) (P : List Int) (p : Int) (ts fr : List Int) (out : Nat) (inn : Int → Nat) : Prop where
  nodP : (P ++ [p]).Nodup
  nodF : fr.Nodup
  dis : ∀ v ∈ fr, v ∉ P ++ [p]
  hin : ∀ v, inn v = cntE (restE s (P ++ [p])) v + ts.count v
  hout : out + (restE s (P ++ [p])).length + ts.length = s.length
  zer : ∀ v ∈ fr, cntE (restE s (P ++ [p])) v + ts.count v = 0
  all : ∀ e ∈ s, e.1 ∉ P ++ [p] → cntE (restE s (P ++ [p])) e.1 + ts.count e.1 = 0 → e.1 ∈ fr
  ord : Ordered s (P ++ [p])
  sub : ∀ t ∈ ts, (p, t) ∈ s
theorem Kh.pop {s : List Ed} {P fr : List Int} {p : Int} {out : Nat} {inn : Int → Nat} (h : Kh s P (fr ++ [p]) out inn) : Ki s P p (tosOf s p) fr out inn := by
  have hp : p ∉ P := h.dis p (by simp)
  obtain ⟨h1, h2⟩ := rest_split (s := s) hp
  have hn := h.nodF
  rw [List.nodup_append] at hn
  have hz := h.zer p (by simp)
  refine ⟨?_, hn.1, fun v hv => ?_, fun v => by rw [h.hin, h2], by have := h.hout; omega, fun v hv => ?_, fun e he hn2 hc => ?_, ?_, fun t ht => mem_tosOf.1 ht⟩
  · rw [List.nodup_append]
    refine ⟨h.nodP, by simp, fun x hx y hy => ?_⟩
    rw [List.mem_singleton] at hy
    subst hy
    exact fun e => hp (e ▸ hx)
  · intro hm
    rcases List.mem_append.1 hm with hm | hm
    · exact h.dis v (List.mem_append_left _ hv) hm
    · exact hn.2.2 v hv p (by simp) (by simpa using hm)
  · rw [← h2]
    exact h.zer v (List.mem_append_left _ hv)
  · have hn3 : e.1 ∉ P ∧ e.1 ≠ p := by simpa using hn2
    rw [← h2] at hc
    rcases List.mem_append.1 (h.all e he hn3.1 hc) with hm | hm
    · exact hm
    · exact absurd (by simpa using hm) hn3.2
  · intro i v hv u hu
    rcases Nat.lt_or_ge i P.length with hi | hi
    · rw [List.getElem?_append_left hi] at hv
      obtain ⟨j, hj, hj2⟩ := h.ord i v hv u hu
      exact ⟨j, hj, by rw [List.getElem?_append_left (by omega)]; exact hj2⟩
    · have hi2 : i < (P ++ [p]).length := (List.getElem?_eq_some_iff.1 hv).1
      rw [List.length_append, List.length_singleton] at hi2
      have hi3 : i = P.length := by omega
      rw [List.getElem?_append_right hi, hi3, Nat.sub_self] at hv
      have hvp : p = v := by simpa using hv
      subst hvp
      have huP : u ∈ P := by
        rcases Classical.em (u ∈ P) with h3 | h3
        · exact h3
        · exact absurd rfl (cntE_zero hz (u, p) (mem_restE.2 ⟨hu, h3⟩))
      obtain ⟨j, hj⟩ := List.mem_iff_getElem?.1 huP
      have hjl := (List.getElem?_eq_some_iff.1 hj).1
      exact ⟨j, by omega, by rw [List.getElem?_append_left hjl]; exact hj⟩
theorem Ki.done {s : List Ed} {P fr : List Int} {p : Int} {out : Nat} {inn : Int → Nat} (h : Ki s P p [] fr out inn) : Kh s (P ++ [p]) fr out inn :=
  ⟨h.nodP, h.nodF, h.dis, fun v => by rw [h.hin]; simp, by have := h.hout; simp at this; omega, fun v hv => by have := h.zer v hv; simpa using this, fun e he hn hc => h.all e he hn (by simpa using hc), h.ord⟩
/-- A count, one less at a place. -/
def less (inn : Int → Nat) (t : Int) : Int → Nat := fun v => if v = t then inn t - 1 else inn v
section
variable {s : List Ed} {P ts fr : List Int} {p t : Int} {out : Nat} {inn : Int → Nat}
theorem Ki.pos (h : Ki s P p (t :: ts) fr out inn) : 1 ≤ inn t := by
  rw [h.hin, List.count_cons]
  simp
  omega
theorem Ki.fresh (h : Ki s P p (t :: ts) fr out inn) : t ∉ P ++ [p] := by
  intro hm
  obtain ⟨i, hi⟩ := List.mem_iff_getElem?.1 hm
  have hpt := h.sub t List.mem_cons_self
  obtain ⟨j, hj, hj2⟩ := h.ord i t hi p hpt
  have hil := (List.getElem?_eq_some_iff.1 hi).1
  rw [List.length_append, List.length_singleton] at hil
  have hjl : j < P.length := by omega
  rw [List.getElem?_append_left hjl] at hj2
  have hn := h.nodP
  rw [List.nodup_append] at hn
  exact hn.2.2 p (List.mem_of_getElem? hj2) p (by simp) rfl
theorem less_in (h : Ki s P p (t :: ts) fr out inn) (v : Int) : less inn t v = cntE (restE s (P ++ [p])) v + ts.count v := by
  unfold less
  have h1 := h.hin v
  have h2 := h.hin t
  rw [List.count_cons] at h1 h2
  by_cases hv : v = t
  · subst hv
    rw [if_pos rfl]
    simp at h1
    omega
  · rw [if_neg hv]
    have : (t == v) = false := by simpa using fun e => hv e.symm
    rw [this] at h1
    simpa using h1
theorem Ki.push (h : Ki s P p (t :: ts) fr out inn) (hz : less inn t t = 0) : Ki s P p ts (fr ++ [t]) (out + 1) (less inn t) := by
  have hz' := hz
  rw [less_in h] at hz'
  have ht : t ∉ fr := fun hm => by
    have := h.zer t hm
    rw [List.count_cons] at this
    simp at this
  refine ⟨h.nodP, ?_, fun v hv => ?_, less_in h, by have := h.hout; simp only [List.length_cons] at this; omega, fun v hv => ?_, fun e he hn hc => ?_, h.ord, fun u hu => h.sub u (List.mem_cons_of_mem _ hu)⟩
  · rw [List.nodup_append]
    refine ⟨h.nodF, by simp, fun x hx y hy => ?_⟩
    rw [List.mem_singleton] at hy
    subst hy
    exact fun e => ht (e ▸ hx)
  · rcases List.mem_append.1 hv with hv | hv
    · exact h.dis v hv
    · rw [List.mem_singleton] at hv
      subst hv
      exact h.fresh
  · rcases List.mem_append.1 hv with hv | hv
    · have := h.zer v hv
      rw [List.count_cons] at this
      omega
    · rw [List.mem_singleton] at hv
      subst hv
      exact hz'
  · by_cases het : e.1 = t
    · rw [het]; simp
    · refine List.mem_append_left _ (h.all e he hn ?_)
      rw [List.count_cons]
      have : (t == e.1) = false := by simpa using fun e2 => het e2.symm
      rw [this]
      simpa using hc
theorem Ki.pass (h : Ki s P p (t :: ts) fr out inn) (hz : less inn t t ≠ 0) : Ki s P p ts fr (out + 1) (less inn t) := by
  have hz' := hz
  rw [less_in h] at hz'
  refine ⟨h.nodP, h.nodF, h.dis, less_in h, by have := h.hout; simp only [List.length_cons] at this; omega, fun v hv => ?_, fun e he hn hc => ?_, h.ord, fun u hu => h.sub u (List.mem_cons_of_mem _ hu)⟩
  · have := h.zer v hv
    rw [List.count_cons] at this
    omega
  · have het : e.1 ≠ t := fun e2 => hz' (by rw [← e2]; exact hc)
    refine h.all e he hn ?_
    rw [List.count_cons]
    have : (t == e.1) = false := by simpa using fun e2 => het e2.symm
    rw [this]
    simpa using hc
end
/-- In an order there is no ring. -/
theorem Ordered.noRing {s : List Ed} {P : List Int} (h : Ordered s P) (hn : P.Nodup) (hall : ∀ e ∈ s, e.1 ∈ P) : NoRing s := by
  have key : ∀ {x y : Int}, Rch s x y → ∀ i : Nat, P[i]? = some y → ∃ j : Nat, j < i ∧ P[j]? = some x := by
    intro x y hr
    induction hr with
    | one he => exact fun i hi => h i _ hi _ he
    | step he _ ih =>
      intro i hi
      obtain ⟨j, hj, hj2⟩ := ih i hi
      obtain ⟨k, hk, hk2⟩ := h j _ hj2 _ he
      exact ⟨k, by omega, hk2⟩
  intro e he hr
  obtain ⟨i, hi⟩ := List.mem_iff_getElem?.1 (hall e he)
  obtain ⟨j, hj, hj2⟩ := key hr i hi
  have hil := (List.getElem?_eq_some_iff.1 hi)
  have hjl := (List.getElem?_eq_some_iff.1 hj2)
  have := (List.getElem_inj hn (h₀ := hil.1) (h₁ := hjl.1)).1 (hil.2.trans hjl.2.symm)
  omega
/-- Where each has one ahead of it there is a ring. -/
theorem ring_of_pred {s : List Ed} {U : List Int} (hU : ∀ u ∈ U, ∃ v ∈ U, (v, u) ∈ s) (hne : U ≠ []) : ∃ x ∈ U, Rch s x x := by
  have chain : ∀ (n : Nat) (c : List Int) (x : Int), U.length + 1 ≤ n + (x :: c).length → (x :: c).Nodup → (∀ y ∈ x :: c, y ∈ U) → (∀ y ∈ c, Rch s x y) → ∃ x ∈ U, Rch s x x := by
    intro n
    induction n with
    | zero =>
      intro c x hl hn hs _
      have := nodup_len hn hs
      omega
    | succ n ih =>
      intro c x hl hn hs hr
      obtain ⟨v, hv, he⟩ := hU x (hs x List.mem_cons_self)
      have hr2 : ∀ y ∈ x :: c, Rch s v y := fun y hy => by
        rcases List.mem_cons.1 hy with rfl | hy
        · exact .one he
        · exact .step he (hr y hy)
      rcases Classical.em (v ∈ x :: c) with h1 | h1
      · exact ⟨v, hv, hr2 v h1⟩
      · refine ih (x :: c) v (by simp only [List.length_cons] at hl ⊢; omega) (List.nodup_cons.2 ⟨h1, hn⟩) (fun y hy => ?_) hr2
        rcases List.mem_cons.1 hy with rfl | hy
        · exact hv
        · exact hs y hy
  cases U with
  | nil => exact absurd rfl hne
  | cons u r => exact chain (u :: r).length [] u (by simp) (by simp) (by simp) (fun y hy => by cases hy)
/-- P14.3: at the end all edges are gone just if there is no ring. -/
theorem Kh.finish {s : List Ed} {P : List Int} {out : Nat} {inn : Int → Nat} (h : Kh s P [] out inn) : out = s.length ↔ NoRing s := by
  have hl := h.hout
  constructor
  · intro ho
    have h0 : restE s P = [] := List.eq_nil_of_length_eq_zero (by omega)
    refine h.ord.noRing h.nodP (fun e he => ?_)
    rcases Classical.em (e.1 ∈ P) with h1 | h1
    · exact h1
    · have : e ∈ restE s P := mem_restE.2 ⟨he, h1⟩
      rw [h0] at this
      cases this
  · intro hn
    rcases Nat.eq_zero_or_pos (restE s P).length with h0 | h0
    · omega
    · exfalso
      have hpred : ∀ u ∈ (restE s P).map (·.1), ∃ v ∈ (restE s P).map (·.1), (v, u) ∈ restE s P := by
        intro u hu
        obtain ⟨e, he, rfl⟩ := List.mem_map.1 hu
        have he' := mem_restE.1 he
        have hc : 0 < cntE (restE s P) e.1 := by
          rcases Nat.eq_zero_or_pos (cntE (restE s P) e.1) with h1 | h1
          · exact absurd (h.all e he'.1 he'.2 h1) (by simp)
          · exact h1
        obtain ⟨e', he2, e3⟩ := cntE_pos hc
        refine ⟨e'.1, List.mem_map.2 ⟨e', he2, rfl⟩, ?_⟩
        rw [← e3]
        exact he2
      obtain ⟨x, hx, hr⟩ := ring_of_pred hpred (fun e => by
        have := congrArg List.length e
        simp only [List.length_map, List.length_nil] at this
        omega)
      obtain ⟨e, he, rfl⟩ := List.mem_map.1 hx
      exact hn e (mem_restE.1 he).1 (hr.mono (fun e he => (mem_restE.1 he).1))
/-- The first places: those from which edges go and to which none goes, each once, of the first k edges. -/
structure Kf (s : List Ed) (k : Nat) (fr : List Int) : Prop where
  nod : fr.Nodup
  zer : ∀ v ∈ fr, cntE s v = 0 ∧ ∃ e ∈ s.take k, e.1 = v
  all : ∀ e ∈ s.take k, cntE s e.1 = 0 → e.1 ∈ fr
theorem Kf.start (s : List Ed) : Kf s 0 [] := ⟨by simp, fun v hv => (by cases hv), fun e he => by simp at he⟩
theorem Kf.keep {s : List Ed} {k : Nat} {fr : List Int} {e : Ed} (h : Kf s k fr) (he : s[k]? = some e) (hc : cntE s e.1 ≠ 0 ∨ ∃ e' ∈ s.take k, e'.1 = e.1) : Kf s (k + 1) fr := by
  obtain ⟨hk, e1⟩ := List.getElem?_eq_some_iff.1 he
  have ht : s.take (k + 1) = s.take k ++ [e] := by rw [List.take_succ_eq_append_getElem hk, e1]
  refine ⟨h.nod, fun v hv => ⟨(h.zer v hv).1, ?_⟩, fun x hx hz => ?_⟩
  · obtain ⟨y, hy, e2⟩ := (h.zer v hv).2
    exact ⟨y, by rw [ht]; exact List.mem_append_left _ hy, e2⟩
  · rw [ht] at hx
    rcases List.mem_append.1 hx with hx | hx
    · exact h.all x hx hz
    · rw [List.mem_singleton] at hx
      subst hx
      rcases hc with hc | ⟨y, hy, e2⟩
      · exact absurd hz hc
      · rw [← e2] at hz ⊢
        exact h.all y hy hz
theorem sorted_from {s : List Ed} (hs : SortedE s) {i j : Nat} {x y : Ed} (hij : i ≤ j) (hx : s[i]? = some x) (hy : s[j]? = some y) : x.1 ≤ y.1 := by
  obtain ⟨hi, rfl⟩ := List.getElem?_eq_some_iff.1 hx
  obtain ⟨hj, rfl⟩ := List.getElem?_eq_some_iff.1 hy
  rcases Nat.lt_or_ge i j with h | h
  · have := List.pairwise_iff_getElem.1 hs i j hi hj h
    rw [leE_iff] at this
    omega
  · have : i = j := by omega
    subst this
    exact Int.le_refl _
theorem Kf.push {s : List Ed} (hs : SortedE s) {k : Nat} {fr : List Int} {e : Ed} (h : Kf s k fr) (he : s[k]? = some e) (hz : cntE s e.1 = 0) (hp : k = 0 ∨ ∃ y, s[k - 1]? = some y ∧ y.1 ≠ e.1) : Kf s (k + 1) (fr ++ [e.1]) := by
  obtain ⟨hk, e1⟩ := List.getElem?_eq_some_iff.1 he
  have ht : s.take (k + 1) = s.take k ++ [e] := by rw [List.take_succ_eq_append_getElem hk, e1]
  have hn : e.1 ∉ fr := fun hm => by
    obtain ⟨y, hy, e2⟩ := (h.zer _ hm).2
    obtain ⟨i, hi⟩ := List.mem_iff_getElem?.1 hy
    have hil := (List.getElem?_eq_some_iff.1 hi).1
    rw [List.length_take] at hil
    rw [List.getElem?_take_of_lt (by omega)] at hi
    rcases hp with rfl | ⟨z, hz1, hz2⟩
    · omega
    · have h1 := sorted_from hs (by omega : i ≤ k - 1) hi hz1
      have h2 := sorted_from hs (by omega : k - 1 ≤ k) hz1 he
      exact hz2 (by omega)
  refine ⟨?_, fun v hv => ?_, fun x hx hz2 => ?_⟩
  · rw [List.nodup_append]
    refine ⟨h.nod, by simp, fun x hx y hy => ?_⟩
    rw [List.mem_singleton] at hy
    subst hy
    exact fun e => hn (e ▸ hx)
  · rcases List.mem_append.1 hv with hv | hv
    · obtain ⟨h1, y, hy, e2⟩ := h.zer v hv
      exact ⟨h1, y, by rw [ht]; exact List.mem_append_left _ hy, e2⟩
    · rw [List.mem_singleton] at hv
      subst hv
      exact ⟨hz, e, by rw [ht]; simp, rfl⟩
  · rw [ht] at hx
    rcases List.mem_append.1 hx with hx | hx
    · exact List.mem_append_left _ (h.all x hx hz2)
    · rw [List.mem_singleton] at hx
      subst hx
      simp
theorem Kf.done {s : List Ed} {fr : List Int} (h : Kf s s.length fr) : Kh s [] fr 0 (cntE s) := by
  have hall := h.all
  rw [List.take_of_length_le (Nat.le_refl _)] at hall
  exact ⟨by simp, h.nod, fun v _ => by simp, fun v => by rw [restE_nil], by rw [restE_nil]; omega, fun v hv => by rw [restE_nil]; exact (h.zer v hv).1, fun e he _ hc => hall e he (by rwa [restE_nil] at hc), fun i v hv => by simp at hv⟩
end Go.Proofs.Ytkbcenddhcnkeaa
