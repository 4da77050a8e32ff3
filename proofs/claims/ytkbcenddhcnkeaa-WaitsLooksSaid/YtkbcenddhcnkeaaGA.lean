/-
  WAYS AND RINGS OF EDGES, plainly (P14.1, P14.2). No program.
-/
namespace Go.Proofs.Ytkbcenddhcnkeaa

abbrev Ed := Int × Int
def leE (x y : Ed) : Bool := decide (x.1 < y.1) || (decide (x.1 = y.1) && decide (x.2 ≤ y.2))
theorem leE_iff {x y : Ed} : leE x y = true ↔ x.1 < y.1 ∨ (x.1 = y.1 ∧ x.2 ≤ y.2) := by simp [leE]
theorem leE_trans (a b c : Ed) (h1 : leE a b = true) (h2 : leE b c = true) : leE a c = true := by
  rw [leE_iff] at *
  omega
theorem leE_total (a b : Ed) : (leE a b || leE b a) = true := by
  rw [Bool.or_eq_true, leE_iff, leE_iff]
  omega
theorem leE_anti {a b : Ed} (h1 : leE a b = true) (h2 : leE b a = true) : a = b := by
  rw [leE_iff] at *
  exact Prod.ext (by omega) (by omega)
/-- The edges in order. -/
def srtE (l : List Ed) : List Ed := l.mergeSort leE
def SortedE (s : List Ed) : Prop := s.Pairwise (fun a b => leE a b = true)
theorem srtE_perm (l : List Ed) : (srtE l).Perm l := List.mergeSort_perm l leE
theorem srtE_sorted (l : List Ed) : SortedE (srtE l) := List.pairwise_mergeSort leE_trans leE_total l
theorem srtE_unique {s l : List Ed} (hs : SortedE s) (hp : s.Perm l) : s = srtE l :=
  List.Perm.eq_of_pairwise (fun _ _ _ _ => leE_anti) hs (srtE_sorted l) (hp.trans (srtE_perm l).symm)
theorem SortedE.filter {s : List Ed} (h : SortedE s) (p : Ed → Bool) : SortedE (s.filter p) := List.Pairwise.sublist List.filter_sublist h
theorem srtE_filter (l : List Ed) (p : Ed → Bool) : (srtE l).filter p = srtE (l.filter p) := srtE_unique ((srtE_sorted l).filter p) ((srtE_perm l).filter p)
theorem srtE_len (l : List Ed) : (srtE l).length = l.length := (srtE_perm l).length_eq
theorem mem_srtE {l : List Ed} {e : Ed} : e ∈ srtE l ↔ e ∈ l := (srtE_perm l).mem_iff
/-- Where the edges from a place go, in order. -/
def tosOf (s : List Ed) (p : Int) : List Int := (s.filter fun e => e.1 == p).map (·.2)
theorem mem_tosOf {s : List Ed} {p t : Int} : t ∈ tosOf s p ↔ (p, t) ∈ s := by
  unfold tosOf
  rw [List.mem_map]
  constructor
  · rintro ⟨e, he, rfl⟩
    rw [List.mem_filter] at he
    obtain ⟨h1, h2⟩ := he
    have : e.1 = p := by simpa using h2
    rw [← this]
    exact h1
  · intro h
    exact ⟨(p, t), List.mem_filter.2 ⟨h, by simp⟩, rfl⟩
theorem tosOf_sorted {s : List Ed} (h : SortedE s) (p : Int) : (tosOf s p).Pairwise (· ≤ ·) := by
  unfold tosOf
  rw [List.pairwise_map]
  have h1 := h.filter (fun e => e.1 == p)
  refine List.Pairwise.imp_of_mem ?_ h1
  intro a b ha hb hab
  rw [List.mem_filter] at ha hb
  have e1 : a.1 = p := by simpa using ha.2
  have e2 : b.1 = p := by simpa using hb.2
  rw [leE_iff] at hab
  omega
/-- P14.1: the search from the places that a way's last place leads to: the way that is found, and all that was gone into. -/
def srch (T : Int → List Int) (a : Int) : Nat → List Int → List Int → List Int → Option (List Int) × List Int
  | _, [], _, sn => (none, sn)
  | 0, m :: ms, path, sn => if m = a then (some path, sn) else if m ∈ sn then srch T a 0 ms path sn else (none, sn)
  | f + 1, m :: ms, path, sn => if m = a then (some path, sn) else if m ∈ sn then srch T a (f + 1) ms path sn else
    match srch T a f (T m) (path ++ [m]) (sn ++ [m]) with
    | (some p, q) => (some p, q)
    | (none, q) => srch T a (f + 1) ms path q
termination_by f todo => (f, todo.length)
section
variable {T : Int → List Int} {a : Int}
theorem srch_nil (f : Nat) (path sn : List Int) : srch T a f [] path sn = (none, sn) := by cases f <;> rw [srch]
theorem srch_hit (f : Nat) (ms path sn : List Int) : srch T a f (a :: ms) path sn = (some path, sn) := by cases f <;> rw [srch, if_pos rfl]
theorem srch_skip {f : Nat} {m : Int} {ms path sn : List Int} (h : m ≠ a) (hm : m ∈ sn) : srch T a f (m :: ms) path sn = srch T a f ms path sn := by
  cases f <;> rw [srch, if_neg h, if_pos hm]
theorem srch_down {f : Nat} {m : Int} {ms path sn : List Int} (h : m ≠ a) (hm : m ∉ sn) :
    srch T a (f + 1) (m :: ms) path sn = match srch T a f (T m) (path ++ [m]) (sn ++ [m]) with | (some p, q) => (some p, q) | (none, q) => srch T a (f + 1) ms path q := by
  rw [srch, if_neg h, if_neg hm]
theorem srch_found {f : Nat} {m : Int} {ms path sn p q : List Int} (h : m ≠ a) (hm : m ∉ sn) (hr : srch T a f (T m) (path ++ [m]) (sn ++ [m]) = (some p, q)) : srch T a (f + 1) (m :: ms) path sn = (some p, q) := by
  rw [srch_down h hm, hr]
theorem srch_back {f : Nat} {m : Int} {ms path sn q : List Int} (h : m ≠ a) (hm : m ∉ sn) (hr : srch T a f (T m) (path ++ [m]) (sn ++ [m]) = (none, q)) : srch T a (f + 1) (m :: ms) path sn = srch T a (f + 1) ms path q := by
  rw [srch_down h hm, hr]
/-- What was gone into stays. -/
theorem srch_grows (f : Nat) (todo path sn : List Int) : ∀ x ∈ sn, x ∈ (srch T a f todo path sn).2 := by
  induction f generalizing todo path sn with
  | zero =>
    induction todo generalizing path sn with
    | nil => intro x hx; rw [srch_nil]; exact hx
    | cons m ms ih =>
      intro x hx
      by_cases h : m = a
      · subst h; rw [srch_hit]; exact hx
      · by_cases hm : m ∈ sn
        · rw [srch_skip h hm]; exact ih _ _ x hx
        · rw [srch, if_neg h, if_neg hm]; exact hx
  | succ f ihf =>
    induction todo generalizing path sn with
    | nil => intro x hx; rw [srch_nil]; exact hx
    | cons m ms ih =>
      intro x hx
      by_cases h : m = a
      · subst h; rw [srch_hit]; exact hx
      · by_cases hm : m ∈ sn
        · rw [srch_skip h hm]; exact ih _ _ x hx
        · have h1 := ihf (T m) (path ++ [m]) (sn ++ [m]) x (List.mem_append_left _ hx)
          obtain ⟨r, q, hr⟩ : ∃ r q, srch T a f (T m) (path ++ [m]) (sn ++ [m]) = (r, q) := ⟨_, _, rfl⟩
          rw [hr] at h1
          cases r with
          | none => rw [srch_back h hm hr]; exact ih _ _ x h1
          | some p => rw [srch_found h hm hr]; exact h1
/-- Of the same place's later edges those to a place that was gone into are passed over. -/
theorem srch_past {f : Nat} {m : Int} {ms path sn : List Int} (h : m ≠ a) (hm : m ∈ sn) (hs : ms.Pairwise (· ≤ ·)) (hle : ∀ x ∈ ms, m ≤ x) : srch T a f ms path sn = srch T a f (ms.filter fun x => decide (m < x)) path sn := by
  induction ms with
  | nil => rfl
  | cons x xs ih =>
    rw [List.pairwise_cons] at hs
    by_cases hx : x = m
    · subst hx
      rw [List.filter_cons_of_neg (by simp), srch_skip h hm]
      exact ih hs.2 (fun y hy => hle y (List.mem_cons_of_mem _ hy))
    · have h1 : m < x := by have := hle x List.mem_cons_self; omega
      rw [List.filter_eq_self.2 (fun y hy => by
        rcases List.mem_cons.1 hy with rfl | hy
        · simpa using h1
        · have := hs.1 y hy
          simp
          omega)]
end
/-- May one place be reached from another one, by an edge at least? -/
inductive Rch (l : List Ed) : Int → Int → Prop
  | one {x y : Int} : (x, y) ∈ l → Rch l x y
  | step {x y z : Int} : (x, y) ∈ l → Rch l y z → Rch l x z
section
variable {l : List Ed}
theorem Rch.trans {x y z : Int} (h : Rch l x y) (h' : Rch l y z) : Rch l x z := by
  induction h with
  | one h => exact .step h h'
  | step h _ ih => exact .step h (ih h')
theorem Rch.snoc {x y z : Int} (h : Rch l x y) (h' : (y, z) ∈ l) : Rch l x z := h.trans (.one h')
theorem Rch.mono {l' : List Ed} {x y : Int} (h : Rch l x y) (hs : ∀ e ∈ l, e ∈ l') : Rch l' x y := by
  induction h with
  | one h => exact .one (hs _ h)
  | step h _ ih => exact .step (hs _ h) ih
/-- A set that is closed and that the goal is not entered from. -/
theorem Rch.not_of_closed {S : Int → Prop} {x y : Int} (hx : S x) (hc : ∀ u v, S u → (u, v) ∈ l → S v ∧ v ≠ y) : ¬ Rch l x y := by
  intro h
  have : ∀ {u v : Int}, Rch l u v → S u → v ≠ y := by
    intro u v h
    induction h with
    | one h => exact fun hu => (hc _ _ hu h).2
    | step h _ ih => exact fun hu => ih (hc _ _ hu h).1
  exact this h hx rfl
/-- Each place of a way has an edge to the next. -/
def WayOk (l : List Ed) (p : List Int) : Prop := ∀ i x y, p[i]? = some x → p[i + 1]? = some y → (x, y) ∈ l
theorem WayOk.snoc {p : List Int} {z m : Int} (h : WayOk l p) (hz : p.getLast? = some z) (he : (z, m) ∈ l) : WayOk l (p ++ [m]) := by
  intro i x y hx hy
  have hi : i + 1 < (p ++ [m]).length := (List.getElem?_eq_some_iff.1 hy).1
  rw [List.length_append, List.length_singleton] at hi
  have hx' : p[i]? = some x := by rwa [List.getElem?_append_left (by omega)] at hx
  by_cases h1 : i + 1 < p.length
  · exact h i x y hx' (by rwa [List.getElem?_append_left h1] at hy)
  · have h2 : i + 1 = p.length := by omega
    have hy' : m = y := by
      rw [List.getElem?_append_right (by omega), h2, Nat.sub_self] at hy
      simpa using hy
    have hxz : x = z := by
      rw [List.getLast?_eq_getElem?, ← h2, Nat.add_sub_cancel, hx'] at hz
      exact Option.some.inj hz
    rw [← hy', hxz]
    exact he
variable {T : Int → List Int} {a : Int}
theorem srch_way (hT : ∀ p t, t ∈ T p → (p, t) ∈ l) (f : Nat) (todo path sn p q : List Int) (z : Int) (hw : WayOk l path) (hz : path.getLast? = some z) (ht : ∀ t ∈ todo, (z, t) ∈ l) (h : srch T a f todo path sn = (some p, q)) :
    WayOk l p ∧ (∃ y, p.getLast? = some y ∧ (y, a) ∈ l) ∧ p.head? = path.head? := by
  induction f generalizing todo path sn z q with
  | zero =>
    induction todo generalizing sn with
    | nil => rw [srch_nil] at h; cases h
    | cons m ms ih =>
      by_cases hm : m = a
      · subst hm
        rw [srch_hit] at h
        injection h with h1 h2
        injection h1 with h1
        subst h1
        exact ⟨hw, ⟨z, hz, ht _ List.mem_cons_self⟩, rfl⟩
      · by_cases hs : m ∈ sn
        · rw [srch_skip hm hs] at h
          exact ih _ (fun t h => ht t (List.mem_cons_of_mem _ h)) h
        · rw [srch, if_neg hm, if_neg hs] at h
          cases h
  | succ f ihf =>
    induction todo generalizing sn with
    | nil => rw [srch_nil] at h; cases h
    | cons m ms ih =>
      by_cases hm : m = a
      · subst hm
        rw [srch_hit] at h
        injection h with h1 h2
        injection h1 with h1
        subst h1
        exact ⟨hw, ⟨z, hz, ht _ List.mem_cons_self⟩, rfl⟩
      · by_cases hs : m ∈ sn
        · rw [srch_skip hm hs] at h
          exact ih _ (fun t h => ht t (List.mem_cons_of_mem _ h)) h
        · obtain ⟨r, q', hr⟩ : ∃ r q, srch T a f (T m) (path ++ [m]) (sn ++ [m]) = (r, q) := ⟨_, _, rfl⟩
          cases r with
          | none =>
            rw [srch_back hm hs hr] at h
            exact ih _ (fun t h => ht t (List.mem_cons_of_mem _ h)) h
          | some p' =>
            rw [srch_found hm hs hr] at h
            injection h with h1 h2
            injection h1 with h1
            subst h1
            have h3 := ihf (T m) (path ++ [m]) (sn ++ [m]) _ m (hw.snoc hz (ht _ List.mem_cons_self)) (by simp) (fun t h => hT _ _ h) hr
            refine ⟨h3.1, h3.2.1, h3.2.2.trans ?_⟩
            cases path with
            | nil => cases hz
            | cons x t => rfl
theorem nodup_len : ∀ {s m : List Int}, s.Nodup → (∀ x ∈ s, x ∈ m) → s.length ≤ m.length
  | [], _, _, _ => Nat.zero_le _
  | x :: s, m, hn, hs => by
    rw [List.nodup_cons] at hn
    have hx := hs x List.mem_cons_self
    have h1 := nodup_len (s := s) (m := m.erase x) hn.2 (fun y hy => by
      have hne : y ≠ x := fun e => hn.1 (e ▸ hy)
      exact (List.mem_erase_of_ne hne).2 (hs y (List.mem_cons_of_mem _ hy)))
    have h2 := List.length_erase_of_mem hx
    have h3 := List.length_pos_of_mem hx
    simp only [List.length_cons]
    omega
/-- What was gone into are different places, the first one or places that edges lead to. -/
def Gone (l : List Ed) (a : Int) (sn : List Int) : Prop := sn.Nodup ∧ ∀ x ∈ sn, x ∈ a :: l.map (·.2)
theorem Gone.len {sn : List Int} (h : Gone l a sn) : sn.length ≤ l.length + 1 := by
  have := nodup_len h.1 h.2
  simpa using this
theorem Gone.snoc {sn : List Int} {m : Int} (h : Gone l a sn) (hm : m ∉ sn) (he : m ∈ l.map (·.2)) : Gone l a (sn ++ [m]) := by
  refine ⟨?_, fun x hx => ?_⟩
  · rw [List.nodup_append]
    refine ⟨h.1, by simp, fun x hx y hy => ?_⟩
    rw [List.mem_singleton] at hy
    subst hy
    exact fun e => hm (e ▸ hx)
  · rcases List.mem_append.1 hx with hx | hx
    · exact h.2 x hx
    · rw [List.mem_singleton] at hx
      subst hx
      exact List.mem_cons_of_mem _ he
theorem srch_none (hT : ∀ p t, t ∈ T p → (p, t) ∈ l) (f : Nat) (todo path sn q : List Int) (hG : Gone l a sn) (ht : ∀ t ∈ todo, t ∈ l.map (·.2)) (hf : l.length + 1 ≤ f + sn.length) (h : srch T a f todo path sn = (none, q)) :
    Gone l a q ∧ (∀ x ∈ sn, x ∈ q) ∧ sn.length ≤ q.length ∧ (∀ t ∈ todo, t ∈ q ∧ t ≠ a) ∧ ∀ x ∈ q, x ∉ sn → ∀ y ∈ T x, y ∈ q ∧ y ≠ a := by
  induction f generalizing todo path sn q with
  | zero =>
    induction todo generalizing sn with
    | nil =>
      rw [srch_nil] at h
      injection h with _ h
      subst h
      exact ⟨hG, fun x hx => hx, Nat.le_refl _, fun t ht => (by cases ht), fun x hx hn => absurd hx hn⟩
    | cons m ms ih =>
      by_cases hm : m = a
      · subst hm
        rw [srch_hit] at h
        cases h
      · by_cases hs : m ∈ sn
        · rw [srch_skip hm hs] at h
          obtain ⟨i1, i2, i3, i4, i5⟩ := ih _ hG (fun t h => ht t (List.mem_cons_of_mem _ h)) hf h
          refine ⟨i1, i2, i3, fun t ht => ?_, i5⟩
          rcases List.mem_cons.1 ht with rfl | ht
          · exact ⟨i2 _ hs, hm⟩
          · exact i4 t ht
        · have := (hG.snoc hs (ht _ List.mem_cons_self)).len
          rw [List.length_append, List.length_singleton] at this
          omega
  | succ f ihf =>
    induction todo generalizing sn with
    | nil =>
      rw [srch_nil] at h
      injection h with _ h
      subst h
      exact ⟨hG, fun x hx => hx, Nat.le_refl _, fun t ht => (by cases ht), fun x hx hn => absurd hx hn⟩
    | cons m ms ih =>
      by_cases hm : m = a
      · subst hm
        rw [srch_hit] at h
        cases h
      · by_cases hs : m ∈ sn
        · rw [srch_skip hm hs] at h
          obtain ⟨i1, i2, i3, i4, i5⟩ := ih _ hG (fun t h => ht t (List.mem_cons_of_mem _ h)) hf h
          refine ⟨i1, i2, i3, fun t ht => ?_, i5⟩
          rcases List.mem_cons.1 ht with rfl | ht
          · exact ⟨i2 _ hs, hm⟩
          · exact i4 t ht
        · obtain ⟨r, q', hr⟩ : ∃ r q, srch T a f (T m) (path ++ [m]) (sn ++ [m]) = (r, q) := ⟨_, _, rfl⟩
          cases r with
          | some p' => rw [srch_found hm hs hr] at h; cases h
          | none =>
            rw [srch_back hm hs hr] at h
            have hl : (sn ++ [m]).length = sn.length + 1 := by simp
            obtain ⟨j1, j2, j3, j4, j5⟩ := ihf (T m) (path ++ [m]) (sn ++ [m]) _ (hG.snoc hs (ht _ List.mem_cons_self)) (fun t h => List.mem_map.2 ⟨_, hT _ _ h, rfl⟩) (by omega) hr
            obtain ⟨i1, i2, i3, i4, i5⟩ := ih q' j1 (fun t h => ht t (List.mem_cons_of_mem _ h)) (by omega) h
            have hmq : m ∈ q' := j2 m (by simp)
            refine ⟨i1, fun x hx => i2 x (j2 x (List.mem_append_left _ hx)), by omega, fun t ht => ?_, fun x hx hn => ?_⟩
            · rcases List.mem_cons.1 ht with rfl | ht
              · exact ⟨i2 _ hmq, hm⟩
              · exact i4 t ht
            · by_cases hxq : x ∈ q'
              · by_cases hxm : x = m
                · subst hxm
                  exact fun y hy => ⟨i2 y (j4 y hy).1, (j4 y hy).2⟩
                · have hx2 : x ∉ sn ++ [m] := by simp [hn, hxm]
                  exact fun y hy => ⟨i2 y (j5 x hxq hx2 y hy).1, (j5 x hxq hx2 y hy).2⟩
              · exact i5 x hx hxq
/-- A search that found nothing never goes deeper than there are places. -/
theorem srch_room {f : Nat} {m : Int} {sn : List Int} (hG : Gone l a sn) (hm : m ∉ sn) (he : m ∈ l.map (·.2)) (hf : l.length + 1 ≤ f + sn.length) : ∃ g, f = g + 1 := by
  have := (hG.snoc hm he).len
  rw [List.length_append, List.length_singleton] at this
  exact ⟨f - 1, by omega⟩
end
/-- P14.1. -/
def cyc (l : List Ed) (a : Int) : List Int := ((srch (tosOf (srtE l)) a l.length (tosOf (srtE l) a) [a] [a]).1).getD []
theorem tos_mem {l : List Ed} : ∀ p t, t ∈ tosOf (srtE l) p → (p, t) ∈ l := fun _ _ h => mem_srtE.1 (mem_tosOf.1 h)
theorem cyc_cases (l : List Ed) (a : Int) : (∃ q, srch (tosOf (srtE l)) a l.length (tosOf (srtE l) a) [a] [a] = (none, q) ∧ cyc l a = [] ∧ ¬ Rch l a a) ∨
    (∃ p q, srch (tosOf (srtE l)) a l.length (tosOf (srtE l) a) [a] [a] = (some p, q) ∧ cyc l a = p ∧ WayOk l p ∧ p.head? = some a ∧ ∃ y, p.getLast? = some y ∧ (y, a) ∈ l) := by
  obtain ⟨r, q, hr⟩ : ∃ r q, srch (tosOf (srtE l)) a l.length (tosOf (srtE l) a) [a] [a] = (r, q) := ⟨_, _, rfl⟩
  cases r with
  | none =>
    refine .inl ⟨q, hr, by rw [cyc, hr]; rfl, ?_⟩
    obtain ⟨_, i2, _, i4, i5⟩ := srch_none tos_mem _ _ _ _ _ ⟨by simp, by simp⟩ (fun t h => List.mem_map.2 ⟨_, tos_mem _ _ h, rfl⟩) (by simp) hr
    refine Rch.not_of_closed (S := fun x => x ∈ q) (i2 a (by simp)) (fun u v hu he => ?_)
    have hv : v ∈ tosOf (srtE l) u := mem_tosOf.2 (mem_srtE.2 he)
    by_cases hua : u = a
    · subst hua; exact i4 v hv
    · exact i5 u hu (by simpa using hua) v hv
  | some p =>
    obtain ⟨h1, h2, h3⟩ := srch_way tos_mem _ _ _ _ _ _ a (fun i x y hx hy => by simp at hy) (by simp) (fun t h => tos_mem _ _ h) hr
    exact .inr ⟨p, q, hr, by rw [cyc, hr]; rfl, h1, h3, h2⟩
/-- From a way's place on to its end. -/
theorem WayOk.reach {l : List Ed} {p : List Int} (h : WayOk l p) : ∀ (i j : Nat) (x y : Int), i < j → p[i]? = some x → p[j]? = some y → Rch l x y
  | i, 0, _, _, hij, _, _ => absurd hij (by omega)
  | i, j + 1, x, y, hij, hx, hy => by
    have hj : j + 1 < p.length := (List.getElem?_eq_some_iff.1 hy).1
    obtain ⟨z, hz⟩ : ∃ z, p[j]? = some z := ⟨_, List.getElem?_eq_getElem (by omega)⟩
    have he := h j z y hz hy
    rcases Nat.lt_or_ge i j with hlt | hge
    · exact (WayOk.reach h i j x z hlt hx hz).snoc he
    · have : i = j := by omega
      subst this
      rw [hx] at hz
      injection hz with hz
      subst hz
      exact .one he
theorem cyc_ring {l : List Ed} {a : Int} (hne : cyc l a ≠ []) : Rch l a a ∧ WayOk l (cyc l a) ∧ (cyc l a)[0]? = some a ∧ (∃ y, (cyc l a)[(cyc l a).length - 1]? = some y ∧ (y, a) ∈ l) ∧ ∀ v ∈ cyc l a, Rch l v v ∧ (v = a ∨ Rch l a v) ∧ ∃ t, (v, t) ∈ l := by
  rcases cyc_cases l a with ⟨_, _, h, _⟩ | ⟨p, q, _, h2, h3, h4, y, h5, h6⟩
  · exact absurd h hne
  · rw [h2] at hne ⊢
    have h0 : p[0]? = some a := by rw [← List.head?_eq_getElem?]; exact h4
    have hl : p[p.length - 1]? = some y := by rw [← List.getLast?_eq_getElem?]; exact h5
    have hv : ∀ v ∈ p, (v = a ∨ Rch l a v) ∧ Rch l v a := fun v hv => by
      obtain ⟨i, hi⟩ := List.mem_iff_getElem?.1 hv
      have hil : i < p.length := (List.getElem?_eq_some_iff.1 hi).1
      refine ⟨?_, ?_⟩
      · rcases Nat.eq_zero_or_pos i with rfl | hp
        · rw [h0] at hi; exact .inl (Option.some.inj hi).symm
        · exact .inr (h3.reach 0 i a v hp h0 hi)
      · rcases Nat.lt_or_ge i (p.length - 1) with hlt | hge
        · exact (h3.reach i _ v y hlt hi hl).snoc h6
        · have : i = p.length - 1 := by omega
          rw [this, hl] at hi
          injection hi with hi
          subst hi
          exact .one h6
    have hself : Rch l a a := (hv a (List.mem_of_getElem? h0)).2
    refine ⟨hself, h3, h0, ⟨y, hl, h6⟩, fun v hv' => ⟨?_, (hv v hv').1, ?_⟩⟩
    · rcases (hv v hv').1 with rfl | h
      · exact hself
      · exact (hv v hv').2.trans h
    · cases (hv v hv').2 with
      | one h => exact ⟨_, h⟩
      | step h _ => exact ⟨_, h⟩
theorem cyc_iff (l : List Ed) (a : Int) : cyc l a ≠ [] ↔ Rch l a a := by
  refine ⟨fun h => (cyc_ring h).1, fun h => ?_⟩
  rcases cyc_cases l a with ⟨_, _, _, h'⟩ | ⟨p, q, _, h2, _, h4, _⟩
  · exact absurd h h'
  · rw [h2]
    intro e
    subst e
    cases h4
/-- P14.2: the greatest. -/
def young : List Int → Int
  | [] => 0
  | x :: r => r.foldl max x
theorem foldl_max_mem (r : List Int) : ∀ x, r.foldl max x = x ∨ r.foldl max x ∈ r := by
  induction r with
  | nil => exact fun x => .inl rfl
  | cons y r ih =>
    intro x
    rw [List.foldl_cons]
    rcases ih (max x y) with h | h
    · rw [h]
      rcases Int.le_total x y with hxy | hxy
      · rw [Int.max_eq_right hxy]; exact .inr List.mem_cons_self
      · rw [Int.max_eq_left hxy]; exact .inl rfl
    · exact .inr (List.mem_cons_of_mem _ h)
theorem young_mem {l : List Int} (h : l ≠ []) : young l ∈ l := by
  cases l with
  | nil => exact absurd rfl h
  | cons x r =>
    rcases foldl_max_mem r x with h | h
    · show r.foldl max x ∈ _
      rw [h]
      exact List.mem_cons_self
    · exact List.mem_cons_of_mem _ h
/-- The edges but for those from a place. -/
def wout (l : List Ed) (n : Int) : List Ed := l.filter fun e => e.1 != n
theorem mem_wout {l : List Ed} {n : Int} {e : Ed} : e ∈ wout l n ↔ e ∈ l ∧ e.1 ≠ n := by simp [wout, List.mem_filter]
theorem wout_len {l : List Ed} {n t : Int} (h : (n, t) ∈ l) : (wout l n).length < l.length := by
  have h1 : (wout l n).length ≤ l.length := List.length_filter_le _ _
  rcases Nat.lt_or_ge (wout l n).length l.length with h2 | h2
  · exact h2
  · have h3 : (wout l n).length = l.length := by omega
    have h4 := List.length_filter_eq_length_iff.1 h3 _ h
    simp at h4
/-- P14.2: who gives way. -/
def vic (a : Int) : Nat → List Ed → List Int
  | 0, _ => []
  | f + 1, l => if cyc l a = [] then [] else young (cyc l a) :: vic a f (wout l (young (cyc l a)))
theorem vic_nil {a : Int} {f : Nat} {l : List Ed} (h : cyc l a = []) : vic a f l = [] := by
  cases f with
  | zero => rfl
  | succ f => rw [vic, if_pos h]
theorem young_edge {l : List Ed} {a : Int} (h : cyc l a ≠ []) : ∃ t, (young (cyc l a), t) ∈ l := ((cyc_ring h).2.2.2.2 _ (young_mem h)).2.2
theorem vic_cons {a : Int} {f : Nat} {l : List Ed} (h : cyc l a ≠ []) (hf : l.length ≤ f) : ∃ g, f = g + 1 ∧ (wout l (young (cyc l a))).length ≤ g ∧ vic a f l = young (cyc l a) :: vic a g (wout l (young (cyc l a))) := by
  obtain ⟨t, ht⟩ := young_edge h
  have h1 := wout_len ht
  obtain ⟨g, rfl⟩ : ∃ g, f = g + 1 := ⟨f - 1, by omega⟩
  exact ⟨g, rfl, by omega, by rw [vic, if_neg h]⟩
theorem vic_none {a : Int} {l : List Ed} (h : cyc l a ≠ []) : l ≠ [] := by
  obtain ⟨t, ht⟩ := young_edge h
  exact List.ne_nil_of_mem ht
/-- A path that passes no place, or one to it and one from it on. -/
theorem Rch.split {l : List Ed} (a : Int) {x y : Int} (h : Rch l x y) : Rch (wout l a) x y ∨ ((x = a ∨ Rch l x a) ∧ Rch l a y) := by
  induction h with
  | @one x y h =>
    by_cases hx : x = a
    · subst hx; exact .inr ⟨.inl rfl, .one h⟩
    · exact .inl (.one (mem_wout.2 ⟨h, hx⟩))
  | @step x y z h h' ih =>
    by_cases hx : x = a
    · subst hx; exact .inr ⟨.inl rfl, .step h h'⟩
    · rcases ih with ih | ⟨ih1, ih2⟩
      · exact .inl (.step (mem_wout.2 ⟨h, hx⟩) ih)
      · refine .inr ⟨.inr ?_, ih2⟩
        rcases ih1 with rfl | ih1
        · exact .one h
        · exact .step h ih1
/-- No ring at all. -/
def NoRing (l : List Ed) : Prop := ∀ e ∈ l, ¬ Rch l e.1 e.1
theorem NoRing.left {l left : List Ed} {a : Int} (h : NoRing (wout l a)) (hs : ∀ e ∈ left, e ∈ l) (ha : ¬ Rch left a a) : NoRing left := by
  intro e he hr
  rcases hr.split a with h1 | ⟨h1, h2⟩
  · have h3 : Rch (wout l a) e.1 e.1 := h1.mono (fun x hx => mem_wout.2 ⟨hs x (mem_wout.1 hx).1, (mem_wout.1 hx).2⟩)
    have h4 : ∃ e' ∈ wout l a, e'.1 = e.1 := by
      cases h3 with
      | one h => exact ⟨_, h, rfl⟩
      | step h _ => exact ⟨_, h, rfl⟩
    obtain ⟨e', he', e1⟩ := h4
    exact h e' he' (e1 ▸ h3)
  · rcases h1 with h1 | h1
    · exact ha (h1 ▸ h2)
    · exact ha (h2.trans h1)
end Go.Proofs.Ytkbcenddhcnkeaa
