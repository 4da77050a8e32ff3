/-
  THE TABLES OF VALUES AND THE ABSTRACT MACHINE: what Find and Put give is hasD and putD. No program.
-/
import Derived.Test.YtkhckehecnobjaaDoorModP
namespace Go.Proofs.YtkhckehecnobjaaDoor
open Go.RowKit

/-- Where a text's pair is, by keys alone. -/
def findL (l : List PairV) (k : ByteArray) : Option PairV := l.find? (fun x => x.d.key.toList == k.toList)
/-- How many leading keys are less. -/
def posV (xs : List PairV) (k : ByteArray) : Nat := (xs.takeWhile (fun x => kless x.d.key k)).length
def hereV (xs : List PairV) (k : ByteArray) : Bool := match xs[posV xs k]? with | some x => x.d.key.toList == k.toList | none => false
def putV (xs : List PairV) (k : ByteArray) (cd : CellD) (cv : Value) : List PairV :=
  xs.take (posV xs k) ++ (if cd.kind = 0 then [] else [⟨⟨k, cd⟩, cv⟩]) ++ xs.drop (posV xs k + if hereV xs k then 1 else 0)

theorem posV_map (xs : List PairV) (k : ByteArray) : posV xs k = pos (xs.map PairV.d) k := by
  unfold posV pos
  rw [List.takeWhile_map, List.length_map]
  rfl
theorem hereV_map (xs : List PairV) (k : ByteArray) : hereV xs k = (hasD (xs.map PairV.d) k).isSome := by
  unfold hereV hasD
  rw [← posV_map, List.getElem?_map]
  cases xs[posV xs k]? with
  | none => rfl
  | some x =>
    by_cases h : x.d.key.toList = k.toList <;> simp [h]
theorem putV_map (xs : List PairV) (k : ByteArray) (cd : CellD) (cv : Value) : (putV xs k cd cv).map PairV.d = putD (xs.map PairV.d) k (if cd.kind = 0 then none else some cd) := by
  unfold putV putD
  rw [← posV_map, hereV_map, List.map_append, List.map_append, List.map_take, List.map_drop]
  by_cases h : cd.kind = 0 <;> simp [h]
theorem findL_map {xs : List PairV} (hs : RightS (xs.map PairV.d)) (k : ByteArray) : (findL xs k).map (fun x => x.d.cell) = hasD (xs.map PairV.d) k := by
  unfold findL
  cases h : hasD (xs.map PairV.d) k with
  | none =>
    have h1 := hasD_none hs h
    have : xs.find? (fun x => x.d.key.toList == k.toList) = none := by
      rw [List.find?_eq_none]
      intro x hx he
      exact h1 x.d (List.mem_map_of_mem hx) (toList_inj (by simpa using he))
    rw [this]
    rfl
  | some c =>
    obtain ⟨y, hy, hk, hc⟩ := hasD_some h
    rw [List.getElem?_map] at hy
    obtain ⟨x, hx, rfl⟩ := Option.map_eq_some_iff.1 hy
    obtain ⟨hl, e⟩ := List.getElem?_eq_some_iff.1 hx
    have : xs.find? (fun x => x.d.key.toList == k.toList) = some x := by
      rw [List.find?_eq_some_iff_getElem]
      refine ⟨by simp [hk], _, hl, e, fun j hj => ?_⟩
      have h2 := pos_before (s := xs.map PairV.d) (k := k) (i := j) (x := (xs[j]'(by omega)).d) hj (by rw [List.getElem?_map, List.getElem?_eq_getElem (by omega)]; rfl)
      cases h3 : (xs[j]'(by omega)).d.key.toList == k.toList with
      | false => rfl
      | true =>
        have h4 := toList_inj (by simpa using h3 : (xs[j]'(by omega)).d.key.toList = k.toList)
        rw [h4, kless_irrefl] at h2
        cases h2
    rw [this]
    simp [hc]
theorem findL_mem {xs : List PairV} {k : ByteArray} {x : PairV} (h : findL xs k = some x) : x ∈ xs := List.mem_of_find?_eq_some h

/-- How far a list goes on the machine, and the state there (P34.2). -/
def sameAns (e : Int) (c : CellD) (e' : Int) (c' : CellD) : Bool := e == e' && cellEq c c'
def replayD (s : List PairD) : List DidD → List PairD × Nat
  | [] => (s, 0)
  | d :: t => if sameAns (stepD s d.op).2.1 (stepD s d.op).2.2 d.err d.cell then ((replayD (stepD s d.op).1 t).1, (replayD (stepD s d.op).1 t).2 + 1) else (s, 0)
/-- The state behind operations. -/
def runD (s : List PairD) : List OpD → List PairD
  | [] => s
  | x :: t => runD (stepD s x).1 t
theorem runD_snoc (s : List PairD) (l : List OpD) (x : OpD) : runD s (l ++ [x]) = (stepD (runD s l) x).1 := by
  induction l generalizing s with
  | nil => rfl
  | cons y t ih => exact ih _
theorem RightS.run {s : List PairD} (hs : RightS s) (l : List OpD) : RightS (runD s l) := by
  induction l generalizing s with
  | nil => exact hs
  | cons x t ih => exact ih (hs.step x)
/-- What operation i tells. -/
def toldD (s : List PairD) (l : List OpD) (x : OpD) : Int × CellD := (stepD (runD s l) x).2
/-- Replay's answer: all before k told the same, and at k it does not (or k is the end). -/
theorem replayD_eq (l : List DidD) (s : List PairD) (k : Nat) (hk : k ≤ l.length)
    (h1 : ∀ i d, i < k → l[i]? = some d → sameAns (toldD s ((l.take i).map DidD.op) d.op).1 (toldD s ((l.take i).map DidD.op) d.op).2 d.err d.cell = true)
    (h2 : ∀ d, l[k]? = some d → sameAns (toldD s ((l.take k).map DidD.op) d.op).1 (toldD s ((l.take k).map DidD.op) d.op).2 d.err d.cell = false) :
    replayD s l = (runD s ((l.take k).map DidD.op), k) := by
  induction l generalizing s k with
  | nil =>
    obtain rfl : k = 0 := by simpa using hk
    rfl
  | cons d t ih =>
    cases k with
    | zero =>
      have := h2 d rfl
      unfold replayD
      rw [if_neg (by rw [show sameAns (stepD s d.op).2.1 (stepD s d.op).2.2 d.err d.cell = false from this]; exact Bool.false_ne_true)]
      rfl
    | succ k =>
      have h0 := h1 0 d (by omega) rfl
      unfold replayD
      rw [if_pos (show sameAns (stepD s d.op).2.1 (stepD s d.op).2.2 d.err d.cell = true from h0)]
      rw [ih (stepD s d.op).1 k (by simpa using hk) (fun i e hi he => h1 (i + 1) e (by omega) (by simpa using he)) (fun e he => h2 e (by simpa using he))]
      rfl
/-- Numbers of 64 bits. -/
def inI (z : Int) : Prop := -9223372036854775808 ≤ z ∧ z ≤ 9223372036854775807
def CellWf (c : CellD) : Prop := inI c.lo ∧ inI c.hi ∧ inI c.val
def WfS (s : List PairD) : Prop := ∀ x ∈ s, CellWf x.cell
def OpWf (x : OpD) : Prop := inI x.lo ∧ inI x.hi ∧ inI x.n ∧ x.key.size ≤ 9223372036854775807
theorem WfS.put {s : List PairD} {k : ByteArray} {c : Option CellD} (hs : WfS s) (hc : ∀ c', c = some c' → CellWf c') : WfS (putD s k c) := fun x hx => by
  rcases mem_putD hx with hx | ⟨c', e, rfl⟩
  · exact hs x hx
  · exact hc c' e
theorem WfS.has {s : List PairD} (hs : WfS s) {k : ByteArray} {c : CellD} (h : hasD s k = some c) : CellWf c := by
  obtain ⟨x, hx, _, rfl⟩ := hasD_some h
  exact hs x (List.mem_of_getElem? hx)
theorem RightS.has {s : List PairD} (hs : RightS s) {k : ByteArray} {c : CellD} (h : hasD s k = some c) : rightC c = true := by
  obtain ⟨x, hx, _, rfl⟩ := hasD_some h
  exact (hs.1 x (List.mem_of_getElem? hx)).2
theorem rightC_kind {c : CellD} (h : rightC c = true) : (c.kind = 1 ∧ c.data.length ≤ 32) ∨ (c.kind = 2 ∧ c.data = []) := by
  unfold rightC at h
  split at h
  · rename_i h1
    simp only [Bool.and_eq_true, decide_eq_true_eq] at h
    exact .inl ⟨h1, h.1⟩
  · simp only [Bool.and_eq_true, beq_iff_eq, decide_eq_true_eq] at h
    exact .inr ⟨h.1, List.eq_nil_of_length_eq_zero h.2.1⟩
theorem WfS.step {s : List PairD} (hs : WfS s) {x : OpD} (hx : OpWf x) : WfS (stepD s x).1 := by
  obtain ⟨h1, h2, h3, _⟩ := hx
  unfold stepD
  split
  · exact hs
  · split
    · split
      · exact hs
      · exact WfS.put (s := s) (c := some ⟨1, x.data, 0, 0, 0⟩) hs (fun c' e => by injection e with e; subst e; refine ⟨?_, ?_, ?_⟩ <;> (unfold inI; dsimp only; omega))
    · split
      · split
        · exact hs
        · exact WfS.put (s := s) (c := some ⟨2, [], x.lo, x.hi, x.n⟩) hs (fun c' e => by injection e with e; subst e; exact ⟨h1, h2, h3⟩)
      · split
        · exact hs
        · rename_i c hc
          have hw := hs.has hc
          split
          · exact hs
          · split
            · exact WfS.put (s := s) (c := none) hs (fun c' e => by cases e)
            · split
              · exact hs
              · by_cases hb : (if x.act = 5 then c.val - x.n else c.val + x.n) < c.lo ∨ c.hi < (if x.act = 5 then c.val - x.n else c.val + x.n)
                · rw [if_pos hb]; exact hs
                · rw [if_neg hb]
                  refine WfS.put (s := s) (c := some ⟨2, [], c.lo, c.hi, _⟩) hs (fun c' e => ?_)
                  injection e with e
                  subst e
                  refine ⟨hw.1, hw.2.1, ?_⟩
                  have a := hw.1
                  have b := hw.2.1
                  unfold inI at *
                  dsimp only
                  omega
theorem WfS.run {s : List PairD} (hs : WfS s) {l : List OpD} (hl : ∀ x ∈ l, OpWf x) : WfS (runD s l) := by
  induction l generalizing s with
  | nil => exact hs
  | cons x t ih => exact ih (hs.step (hl x (by simp))) (fun y hy => hl y (by simp [hy]))
theorem putD_length (s : List PairD) (k : ByteArray) (c : Option CellD) : (putD s k c).length ≤ s.length + 1 := by
  unfold putD
  have := pos_le s k
  simp only [List.length_append, List.length_take, List.length_drop]
  cases c <;> simp <;> omega
theorem stepD_length (s : List PairD) (x : OpD) : (stepD s x).1.length ≤ s.length + 1 := by
  unfold stepD
  split
  · simp
  · split
    · split
      · simp
      · (dsimp only; exact putD_length s _ _)
    · split
      · split
        · simp
        · (dsimp only; exact putD_length s _ _)
      · split
        · simp
        · rename_i c hc
          split
          · simp
          · split
            · (dsimp only; exact putD_length s _ _)
            · split
              · simp
              · by_cases hb : (if x.act = 5 then c.val - x.n else c.val + x.n) < c.lo ∨ c.hi < (if x.act = 5 then c.val - x.n else c.val + x.n)
                · rw [if_pos hb]; simp
                · rw [if_neg hb]; (dsimp only; exact putD_length s _ _)
theorem runD_length (l : List OpD) (s : List PairD) : (runD s l).length ≤ s.length + l.length := by
  induction l generalizing s with
  | nil => simp [runD]
  | cons x t ih =>
    have h1 := ih (stepD s x).1
    have h2 := stepD_length s x
    simp only [runD, List.length_cons]
    omega
end Go.Proofs.YtkhckehecnobjaaDoor
