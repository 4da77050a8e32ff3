/-
  THE LEAST EDGE, THE REFERENCE's SEARCH, REACHING BY A ROW; plainly (P14.1). No program.
-/
import Derived.Test.YtkbcenddhcnkeaaGA
namespace Go.Proofs.Ytkbcenddhcnkeaa

/-- The least of numbers, as a round keeps it. -/
def minD (xs : List Int) : Option Int := xs.foldl (fun o x => match o with | none => some x | some m => some (if x < m then x else m)) none
theorem minD_snoc (xs : List Int) (x : Int) : minD (xs ++ [x]) = match minD xs with | none => some x | some m => some (if x < m then x else m) := by
  unfold minD
  rw [List.foldl_append]
  rfl
theorem minD_spec (xs : List Int) : (minD xs = none ∧ xs = []) ∨ ∃ m, minD xs = some m ∧ m ∈ xs ∧ ∀ y ∈ xs, m ≤ y := by
  have : ∀ (n : Nat) (xs : List Int), xs.length = n → (minD xs = none ∧ xs = []) ∨ ∃ m, minD xs = some m ∧ m ∈ xs ∧ ∀ y ∈ xs, m ≤ y := by
    intro n
    induction n with
    | zero =>
      intro xs h
      have := List.eq_nil_of_length_eq_zero h
      subst this
      exact .inl ⟨rfl, rfl⟩
    | succ n ih =>
      intro xs h
      rcases List.eq_nil_or_concat xs with rfl | ⟨ys, x, rfl⟩
      · cases h
      · rw [List.concat_eq_append] at h ⊢
        rw [minD_snoc]
        rcases ih ys (by simp at h; exact h) with ⟨h1, rfl⟩ | ⟨m, h1, h2, h3⟩
        · rw [h1]
          exact .inr ⟨x, rfl, by simp, by simp⟩
        · rw [h1]
          refine .inr ⟨_, rfl, ?_, fun y hy => ?_⟩
          · split
            · simp
            · exact List.mem_append_left _ h2
          · rcases List.mem_append.1 hy with hy | hy
            · have := h3 y hy
              split <;> omega
            · rw [List.mem_singleton] at hy
              subst hy
              split <;> omega
  exact this _ xs rfl
theorem minD_head {xs s : List Int} (hs : s.Pairwise (· ≤ ·)) (h : ∀ x, x ∈ s ↔ x ∈ xs) : minD xs = s.head? := by
  rcases minD_spec xs with ⟨h1, rfl⟩ | ⟨m, h1, h2, h3⟩
  · cases s with
    | nil => exact h1
    | cons x t => exact absurd ((h x).1 List.mem_cons_self) (by simp)
  · cases s with
    | nil => exact absurd ((h m).2 h2) (by simp)
    | cons x t =>
      rw [h1, List.head?_cons]
      have hx := h3 x ((h x).1 List.mem_cons_self)
      rw [List.pairwise_cons] at hs
      rcases List.mem_cons.1 ((h m).2 h2) with e | e
      · rw [e]
      · have := hs.1 m e
        exact congrArg some (by omega)
/-- Is an edge asked for: of this place, above what came last? -/
def askB (n c : Int) (any : Bool) (e : Ed) : Bool := e.1 == n && (any || decide (c < e.2))
def leastD (l : List Ed) (n c : Int) (any : Bool) : Option Int := minD ((l.filter (askB n c any)).map (·.2))
/-- The places that an edge leads to, above what came last. -/
def restD (l : List Ed) (n c : Int) (any : Bool) : List Int := (tosOf (srtE l) n).filter fun t => any || decide (c < t)
theorem restD_sorted (l : List Ed) (n c : Int) (any : Bool) : (restD l n c any).Pairwise (· ≤ ·) := (tosOf_sorted (srtE_sorted l) n).sublist List.filter_sublist
theorem leastD_eq (l : List Ed) (n c : Int) (any : Bool) : leastD l n c any = (restD l n c any).head? := by
  refine minD_head (restD_sorted l n c any) (fun x => ?_)
  unfold restD
  rw [List.mem_filter, mem_tosOf, mem_srtE, List.mem_map]
  constructor
  · rintro ⟨h1, h2⟩
    refine ⟨(n, x), List.mem_filter.2 ⟨h1, ?_⟩, rfl⟩
    simpa [askB] using h2
  · rintro ⟨e, he, rfl⟩
    rw [List.mem_filter] at he
    obtain ⟨h1, h2⟩ := he
    simp only [askB, Bool.and_eq_true, beq_iff_eq] at h2
    refine ⟨?_, h2.2⟩
    rw [← h2.1]
    exact h1
theorem restD_all (l : List Ed) (n c : Int) : restD l n c true = tosOf (srtE l) n := by
  unfold restD
  exact List.filter_eq_self.2 (fun _ _ => by simp)
/-- The next of them. -/
theorem restD_next {l : List Ed} {n c m : Int} {any : Bool} {ms : List Int} (h : restD l n c any = m :: ms) : restD l n m false = ms.filter fun x => decide (m < x) := by
  have h1 : (restD l n c any).filter (fun x => decide (m < x)) = restD l n m false := by
    unfold restD
    rw [List.filter_filter]
    refine List.filter_congr fun x hx => ?_
    have hm : m ∈ restD l n c any := by rw [h]; exact List.mem_cons_self
    unfold restD at hm
    rw [List.mem_filter] at hm
    cases any with
    | true => simp
    | false =>
      have h2 : c < m := by simpa using hm.2
      by_cases hmx : m < x
      · have h3 : c < x := by omega
        simp [hmx, h3]
      · simp [hmx]
  rw [← h1, h, List.filter_cons_of_neg (by simp)]
section
variable {l : List Ed} {n c m a : Int} {any : Bool} {ms : List Int} {f : Nat} {path sn q : List Int}
theorem restD_mem (h : restD l n c any = m :: ms) : (n, m) ∈ l := by
  have hm : m ∈ restD l n c any := by rw [h]; exact List.mem_cons_self
  unfold restD at hm
  rw [List.mem_filter, mem_tosOf, mem_srtE] at hm
  exact hm.1
theorem restD_past (h : restD l n c any = m :: ms) (hm : m ≠ a) (hq : m ∈ q) : srch (tosOf (srtE l)) a f ms path q = srch (tosOf (srtE l)) a f (restD l n m false) path q := by
  have hs := restD_sorted l n c any
  rw [h, List.pairwise_cons] at hs
  rw [restD_next h]
  exact srch_past hm hq hs.2 hs.1
theorem ref_hit (h : restD l n c any = a :: ms) : srch (tosOf (srtE l)) a f (restD l n c any) path sn = (some path, sn) := by rw [h, srch_hit]
theorem ref_skip (h : restD l n c any = m :: ms) (hm : m ≠ a) (hs : m ∈ sn) : srch (tosOf (srtE l)) a f (restD l n c any) path sn = srch (tosOf (srtE l)) a f (restD l n m false) path sn := by
  rw [h, srch_skip hm hs, restD_past h hm hs]
theorem ref_found {p : List Int} (h : restD l n c any = m :: ms) (hm : m ≠ a) (hs : m ∉ sn) (hr : srch (tosOf (srtE l)) a f (tosOf (srtE l) m) (path ++ [m]) (sn ++ [m]) = (some p, q)) : srch (tosOf (srtE l)) a (f + 1) (restD l n c any) path sn = (some p, q) := by
  rw [h, srch_found hm hs hr]
theorem ref_back (h : restD l n c any = m :: ms) (hm : m ≠ a) (hs : m ∉ sn) (hr : srch (tosOf (srtE l)) a f (tosOf (srtE l) m) (path ++ [m]) (sn ++ [m]) = (none, q)) : srch (tosOf (srtE l)) a (f + 1) (restD l n c any) path sn = srch (tosOf (srtE l)) a (f + 1) (restD l n m false) path q := by
  have hg := srch_grows (T := tosOf (srtE l)) (a := a) f (tosOf (srtE l) m) (path ++ [m]) (sn ++ [m]) m (by simp)
  rw [hr] at hg
  rw [h, srch_back hm hs hr, restD_past h hm hg]
end
/-- A row of places that are reached from the first one. -/
def Row (l : List Ed) (a : Int) (all : List Int) : Prop := all[0]? = some a ∧ (∀ x ∈ all, x = a ∨ Rch l a x) ∧ Gone l a all
/-- The places ahead of the i-th lead into the row, and not to b. -/
def Shut (l : List Ed) (b : Int) (all : List Int) (i : Nat) : Prop := ∀ j x t, j < i → all[j]? = some x → (x, t) ∈ l → t ∈ all ∧ t ≠ b
theorem Row.start (l : List Ed) (a : Int) : Row l a [a] := ⟨rfl, by simp, by simp, by simp⟩
theorem Row.snoc {l : List Ed} {a x t : Int} {all : List Int} (h : Row l a all) (hx : x ∈ all) (ht : (x, t) ∈ l) (hn : t ∉ all) : Row l a (all ++ [t]) := by
  refine ⟨?_, fun y hy => ?_, h.2.2.snoc hn (List.mem_map.2 ⟨_, ht, rfl⟩)⟩
  · have := (List.getElem?_eq_some_iff.1 h.1).1
    rw [List.getElem?_append_left this]
    exact h.1
  · rcases List.mem_append.1 hy with hy | hy
    · exact h.2.1 y hy
    · rw [List.mem_singleton] at hy
      subst hy
      rcases h.2.1 x hx with rfl | h1
      · exact .inr (.one ht)
      · exact .inr (h1.snoc ht)
theorem Row.hit {l : List Ed} {a b x : Int} {all : List Int} (h : Row l a all) (hx : x ∈ all) (ht : (x, b) ∈ l) : Rch l a b := by
  rcases h.2.1 x hx with rfl | h1
  · exact .one ht
  · exact h1.snoc ht
theorem Shut.more {l : List Ed} {b t : Int} {all : List Int} {i : Nat} (h : Shut l b all i) (hi : i ≤ all.length) : Shut l b (all ++ [t]) i := by
  intro j x u hj hx hu
  rw [List.getElem?_append_left (by omega)] at hx
  exact ⟨List.mem_append_left _ (h j x u hj hx hu).1, (h j x u hj hx hu).2⟩
theorem Row.none {l : List Ed} {a b : Int} {all : List Int} (h : Row l a all) (hs : Shut l b all all.length) : ¬ Rch l a b := by
  refine Rch.not_of_closed (S := fun x => x ∈ all) (List.mem_of_getElem? h.1) (fun u v hu he => ?_)
  obtain ⟨j, hj⟩ := List.mem_iff_getElem?.1 hu
  exact hs j u v (List.getElem?_eq_some_iff.1 hj).1 hj he
end Go.Proofs.Ytkbcenddhcnkeaa
