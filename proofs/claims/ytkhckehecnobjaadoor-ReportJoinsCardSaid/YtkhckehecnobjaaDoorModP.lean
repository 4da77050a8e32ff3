/-
  THE ABSTRACT MACHINE's STEP, plainly (P9.2), and that it keeps states. No program.
-/
import Derived.Test.YtkhckehecnobjaaDoorMod
namespace Go.Proofs.YtkhckehecnobjaaDoor
open Go.RowKit

theorem bl_irrefl : ∀ x : List UInt8, Op.bytesLess x x = false
  | [] => rfl
  | a :: x => by simp [Op.bytesLess, bl_irrefl x]
theorem bl_trans : ∀ {x y z : List UInt8}, Op.bytesLess x y = true → Op.bytesLess y z = true → Op.bytesLess x z = true
  | [], [], _, h, _ => by simp [Op.bytesLess] at h
  | [], _ :: _, [], _, h => by simp [Op.bytesLess] at h
  | [], _ :: _, _ :: _, _, _ => by simp [Op.bytesLess]
  | _ :: _, [], _, h, _ => by simp [Op.bytesLess] at h
  | _ :: _, _ :: _, [], _, h => by simp [Op.bytesLess] at h
  | a :: x, b :: y, c :: z, h1, h2 => by
    simp only [Op.bytesLess, Bool.or_eq_true, decide_eq_true_eq, Bool.and_eq_true, beq_iff_eq] at h1 h2 ⊢
    rcases h1 with h1 | ⟨rfl, h1⟩
    · rcases h2 with h2 | ⟨rfl, h2⟩
      · exact .inl (UInt8.lt_trans h1 h2)
      · exact .inl h1
    · rcases h2 with h2 | ⟨rfl, h2⟩
      · exact .inl h2
      · exact .inr ⟨rfl, bl_trans h1 h2⟩
theorem bl_tri : ∀ x y : List UInt8, Op.bytesLess x y = true ∨ x = y ∨ Op.bytesLess y x = true
  | [], [] => .inr (.inl rfl)
  | [], _ :: _ => .inl rfl
  | _ :: _, [] => .inr (.inr rfl)
  | a :: x, b :: y => by
    simp only [Op.bytesLess, Bool.or_eq_true, decide_eq_true_eq, Bool.and_eq_true, beq_iff_eq]
    rcases UInt8.lt_or_lt_of_ne (a := a) (b := b) |> fun h => (Classical.em (a = b)) with rfl | hne
    · rcases bl_tri x y with h | rfl | h
      · exact .inl (.inr ⟨rfl, h⟩)
      · exact .inr (.inl rfl)
      · exact .inr (.inr (.inr ⟨rfl, h⟩))
    · rcases UInt8.lt_or_lt_of_ne hne with h | h
      · exact .inl (.inl h)
      · exact .inr (.inr (.inl h))
theorem kless_irrefl (a : ByteArray) : kless a a = false := bl_irrefl _
theorem kless_trans {a b c : ByteArray} (h1 : kless a b = true) (h2 : kless b c = true) : kless a c = true := bl_trans h1 h2
theorem toList_inj {a b : ByteArray} (h : a.toList = b.toList) : a = b := by
  rw [ByteArray.toList_eq, ByteArray.toList_eq] at h
  exact WideShapes.bytes_inj h
theorem kless_tri (a b : ByteArray) : kless a b = true ∨ a = b ∨ kless b a = true := by
  rcases bl_tri a.toList b.toList with h | h | h
  · exact .inl h
  · exact .inr (.inl (toList_inj h))
  · exact .inr (.inr h)
theorem kless_asymm {a b : ByteArray} (h : kless a b = true) : kless b a = false := by
  cases hb : kless b a with
  | false => rfl
  | true => have := kless_trans h hb; rw [kless_irrefl] at this; cases this

/-- Is a list of pairs a state? (P9.3) -/
def RightS (l : List PairD) : Prop := (∀ x ∈ l, goodKey x.key = true ∧ rightC x.cell = true) ∧ l.Pairwise (fun x y => kless x.key y.key = true)
theorem RightS.nil : RightS [] := ⟨fun x hx => (by cases hx), List.Pairwise.nil⟩
theorem RightS.snoc {l : List PairD} {x : PairD} (h : RightS l) (hx : goodKey x.key = true ∧ rightC x.cell = true) (hl : ∀ y, l.getLast? = some y → kless y.key x.key = true) : RightS (l ++ [x]) := by
  refine ⟨fun y hy => ?_, ?_⟩
  · rcases List.mem_append.1 hy with hy | hy
    · exact h.1 y hy
    · rw [List.mem_singleton] at hy; subst hy; exact hx
  · rw [List.pairwise_append]
    refine ⟨h.2, List.pairwise_singleton _ _, fun a ha b hb => ?_⟩
    rw [List.mem_singleton] at hb
    subst hb
    obtain ⟨z, hz⟩ : ∃ z, l.getLast? = some z := by
      cases hl' : l.getLast? with
      | none => rw [List.getLast?_eq_none_iff] at hl'; subst hl'; cases ha
      | some z => exact ⟨z, rfl⟩
    have hzx := hl z hz
    obtain ⟨ys, rfl⟩ := List.getLast?_eq_some_iff.1 hz
    rcases List.mem_append.1 ha with ha | ha
    · have := (List.pairwise_append.1 h.2).2.2 a ha z (by simp)
      exact kless_trans this hzx
    · rw [List.mem_singleton] at ha; subst ha; exact hzx

/-- How many keys are less. -/
def pos (s : List PairD) (k : ByteArray) : Nat := (s.takeWhile (fun x => kless x.key k)).length
def cell0 : CellD := ⟨0, [], 0, 0, 0⟩
/-- What a key has. -/
def hasD (s : List PairD) (k : ByteArray) : Option CellD := match s[pos s k]? with | some x => if x.key.toList = k.toList then some x.cell else none | none => none
def putD (s : List PairD) (k : ByteArray) (c : Option CellD) : List PairD :=
  s.take (pos s k) ++ (match c with | some c => [⟨k, c⟩] | none => []) ++ s.drop (pos s k + if (hasD s k).isSome then 1 else 0)
theorem pos_le (s : List PairD) (k : ByteArray) : pos s k ≤ s.length := (List.takeWhile_prefix _).length_le
theorem pos_before {s : List PairD} {k : ByteArray} {i : Nat} {x : PairD} (hi : i < pos s k) (hx : s[i]? = some x) : kless x.key k = true := by
  have h1 : s.takeWhile (fun x => kless x.key k) <+: s := List.takeWhile_prefix _
  have h2 : (s.takeWhile (fun x => kless x.key k))[i]? = some x := by
    rw [List.prefix_iff_getElem?.1 h1 i hi] at hx
    rw [← hx, List.getElem?_eq_getElem hi]
  have h3 := List.all_eq_true.1 (List.all_takeWhile (p := fun x : PairD => kless x.key k) (l := s)) x (List.mem_of_getElem? h2)
  exact h3
theorem pos_at {s : List PairD} {k : ByteArray} {x : PairD} (hx : s[pos s k]? = some x) : kless x.key k = false := by
  induction s with
  | nil => simp at hx
  | cons y t ih =>
    unfold pos at hx ih
    rw [List.takeWhile_cons] at hx
    split at hx
    · simp only [List.length_cons, List.getElem?_cons_succ] at hx
      exact ih hx
    · rename_i h
      simp only [List.length_nil, List.getElem?_cons_zero, Option.some.injEq] at hx
      subst hx
      simpa using h
/-- From pos on no key is less. -/
theorem pos_from {s : List PairD} {k : ByteArray} (hs : RightS s) {i : Nat} {x : PairD} (hi : pos s k ≤ i) (hx : s[i]? = some x) : kless x.key k = false := by
  obtain ⟨hil, e⟩ := List.getElem?_eq_some_iff.1 hx
  have hpl : pos s k < s.length := by omega
  have h0 := pos_at (List.getElem?_eq_getElem hpl)
  by_cases hpi : pos s k = i
  · subst hpi; rw [← e]; exact h0
  · have h1 := List.pairwise_iff_getElem.1 hs.2 (pos s k) i hpl hil (by omega)
    rw [e] at h1
    cases hk : kless x.key k with
    | false => rfl
    | true => have := kless_trans h1 hk; rw [h0] at this; cases this
/-- pos is the one place that parts less from not less. -/
theorem pos_unique {s : List PairD} {k : ByteArray} (hs : RightS s) {p : Nat} (hp : p ≤ s.length) (h1 : ∀ i x, i < p → s[i]? = some x → kless x.key k = true) (h2 : ∀ i x, p ≤ i → s[i]? = some x → kless x.key k = false) : p = pos s k := by
  rcases Nat.lt_trichotomy p (pos s k) with h | h | h
  · have hl := pos_le s k
    have a := pos_before h (List.getElem?_eq_getElem (by omega))
    have b := h2 p _ (Nat.le_refl _) (List.getElem?_eq_getElem (by omega))
    rw [a] at b; cases b
  · exact h
  · have a := h1 (pos s k) _ h (List.getElem?_eq_getElem (by omega))
    have b := pos_from (k := k) hs (Nat.le_refl _) (List.getElem?_eq_getElem (by omega))
    rw [a] at b; cases b
theorem hasD_some {s : List PairD} {k : ByteArray} {c : CellD} (h : hasD s k = some c) : ∃ x, s[pos s k]? = some x ∧ x.key = k ∧ x.cell = c := by
  unfold hasD at h
  cases hx : s[pos s k]? with
  | none => rw [hx] at h; cases h
  | some x =>
    rw [hx] at h
    simp only at h
    split at h
    · rename_i he
      injection h with h
      exact ⟨x, rfl, toList_inj he, h⟩
    · cases h
theorem hasD_none {s : List PairD} {k : ByteArray} (hs : RightS s) (h : hasD s k = none) : ∀ x ∈ s, x.key ≠ k := by
  intro x hx he
  obtain ⟨i, hi, e⟩ := List.getElem_of_mem hx
  have hxi : s[i]? = some x := by rw [List.getElem?_eq_getElem hi, e]
  rcases Nat.lt_trichotomy i (pos s k) with hlt | heq | hgt
  · have := pos_before hlt hxi; rw [he, kless_irrefl] at this; cases this
  · subst heq
    unfold hasD at h
    rw [hxi] at h
    simp [he] at h
  · have hpl : pos s k < s.length := by omega
    have h1 := List.pairwise_iff_getElem.1 hs.2 (pos s k) i hpl hi hgt
    rw [e, he] at h1
    have := pos_at (List.getElem?_eq_getElem hpl)
    rw [h1] at this; cases this
theorem mem_putD {s : List PairD} {k : ByteArray} {c : Option CellD} {x : PairD} (h : x ∈ putD s k c) : x ∈ s ∨ ∃ c', c = some c' ∧ x = ⟨k, c'⟩ := by
  unfold putD at h
  rw [List.mem_append, List.mem_append] at h
  rcases h with (h | h) | h
  · exact .inl (List.mem_of_mem_take h)
  · cases c with
    | none => cases h
    | some c => rw [List.mem_singleton] at h; exact .inr ⟨c, rfl, h⟩
  · exact .inl (List.mem_of_mem_drop h)
theorem RightS.put {s : List PairD} {k : ByteArray} {c : Option CellD} (hs : RightS s) (hk : goodKey k = true) (hc : ∀ c', c = some c' → rightC c' = true) : RightS (putD s k c) := by
  refine ⟨fun x hx => ?_, ?_⟩
  · rcases mem_putD hx with hx | ⟨c', e, rfl⟩
    · exact hs.1 x hx
    · exact ⟨hk, hc c' e⟩
  · unfold putD
    have hb : ∀ x ∈ s.take (pos s k), kless x.key k = true := fun x hx => by
      obtain ⟨i, hi, e⟩ := List.getElem_of_mem hx
      have hi' := hi
      simp only [List.length_take] at hi'
      exact pos_before (s := s) (i := i) (by omega) (by rw [← e, List.getElem_take, List.getElem?_eq_getElem])
    have ha : ∀ x ∈ s.drop (pos s k + if (hasD s k).isSome then 1 else 0), kless k x.key = true := fun x hx => by
      obtain ⟨i, hi, e⟩ := List.getElem_of_mem hx
      have hxi : s[(pos s k + if (hasD s k).isSome then 1 else 0) + i]? = some x := by rw [← e, List.getElem_drop, List.getElem?_eq_getElem]
      have h1 := pos_from (k := k) hs (by omega) hxi
      rcases kless_tri x.key k with h | h | h
      · rw [h1] at h; cases h
      · exfalso
        cases hh : hasD s k with
        | none => exact hasD_none hs hh x (List.mem_of_getElem? hxi) h
        | some c' =>
          obtain ⟨z, hz, hzk, _⟩ := hasD_some hh
          rw [hh] at hxi
          simp only [Option.isSome_some, if_true] at hxi
          obtain ⟨l1, e1⟩ := List.getElem?_eq_some_iff.1 hz
          obtain ⟨l2, e2⟩ := List.getElem?_eq_some_iff.1 hxi
          have := List.pairwise_iff_getElem.1 hs.2 (pos s k) _ l1 l2 (by omega)
          rw [e1, e2, hzk, h, kless_irrefl] at this
          cases this
      · exact h
    rw [List.pairwise_append, List.pairwise_append]
    refine ⟨⟨hs.2.sublist (List.take_sublist _ _), ?_, ?_⟩, hs.2.sublist (List.drop_sublist _ _), ?_⟩
    · cases c with
      | none => exact .nil
      | some c => exact List.pairwise_singleton _ _
    · intro x hx y hy
      cases c with
      | none => cases hy
      | some c => rw [List.mem_singleton] at hy; subst hy; exact hb x hx
    · intro x hx y hy
      have hyk := ha y hy
      rcases List.mem_append.1 hx with hx | hx
      · exact kless_trans (hb x hx) hyk
      · cases c with
        | none => cases hx
        | some c => rw [List.mem_singleton] at hx; subst hx; exact hyk

/-- P9.2: the state behind an operation, and what it tells: the error, the cell. -/
def stepD (s : List PairD) (x : OpD) : List PairD × Int × CellD :=
  if goodOp x = false then (s, 1, cell0)
  else if x.act = 1 then (if ((hasD s x.key).any fun c => c.kind == 2) = true then (s, 6, cell0) else (putD s x.key (some ⟨1, x.data, 0, 0, 0⟩), 0, cell0))
  else if x.act = 2 then (match hasD s x.key with | some _ => (s, 7, cell0) | none => (putD s x.key (some ⟨2, [], x.lo, x.hi, x.n⟩), 0, cell0))
  else match hasD s x.key with
    | none => (s, 5, cell0)
    | some c =>
      if x.act = 0 then (s, 0, c)
      else if x.act = 3 then (putD s x.key none, 0, cell0)
      else if c.kind ≠ 2 then (s, 6, cell0)
      else
        let v := if x.act = 5 then c.val - x.n else c.val + x.n
        if v < c.lo ∨ c.hi < v then (s, 8, cell0) else (putD s x.key (some ⟨2, [], c.lo, c.hi, v⟩), 0, cell0)

theorem goodOp_key {x : OpD} (h : goodOp x = true) : goodKey x.key = true ∧ 0 ≤ x.act ∧ x.act ≤ 5 := by
  unfold goodOp at h
  simp only [Bool.and_eq_true, decide_eq_true_eq] at h
  exact ⟨h.2.1, h.1⟩
theorem RightS.step {s : List PairD} (hs : RightS s) (x : OpD) : RightS (stepD s x).1 := by
  unfold stepD
  cases hg : goodOp x with
  | false => exact hs
  | true =>
    have hk := (goodOp_key hg).1
    have hg2 := hg
    unfold goodOp at hg2
    simp only [Bool.and_eq_true, decide_eq_true_eq] at hg2
    simp only [Bool.true_eq_false, if_false]
    by_cases h1 : x.act = 1
    · rw [if_pos h1]
      split
      · exact hs
      · show RightS (putD s x.key (some ⟨1, x.data, 0, 0, 0⟩))
        refine hs.put hk (fun c' e => ?_)
        injection e with e
        subst e
        have := hg2.2.2
        rw [if_pos h1] at this
        simpa [rightC] using this
    · rw [if_neg h1]
      by_cases h2 : x.act = 2
      · rw [if_pos h2]
        split
        · exact hs
        · show RightS (putD s x.key (some ⟨2, [], x.lo, x.hi, x.n⟩))
          refine hs.put hk (fun c' e => ?_)
          injection e with e
          subst e
          have := hg2.2.2
          rw [if_neg h1, if_pos h2] at this
          simpa [rightC] using this
      · rw [if_neg h2]
        split
        · exact hs
        · rename_i c hc
          by_cases h0 : x.act = 0
          · rw [if_pos h0]; exact hs
          · rw [if_neg h0]
            by_cases h3 : x.act = 3
            · rw [if_pos h3]
              show RightS (putD s x.key none)
              exact hs.put hk (fun c' e => by cases e)
            · rw [if_neg h3]
              by_cases hk2 : c.kind ≠ 2
              · rw [if_pos hk2]; exact hs
              · rw [if_neg hk2]
                by_cases hb : (if x.act = 5 then c.val - x.n else c.val + x.n) < c.lo ∨ c.hi < (if x.act = 5 then c.val - x.n else c.val + x.n)
                · rw [if_pos hb]; exact hs
                · rw [if_neg hb]
                  show RightS (putD s x.key (some ⟨2, [], c.lo, c.hi, _⟩))
                  refine hs.put hk (fun c' e => ?_)
                  injection e with e
                  subst e
                  simp [rightC]
                  omega
end Go.Proofs.YtkhckehecnobjaaDoor
