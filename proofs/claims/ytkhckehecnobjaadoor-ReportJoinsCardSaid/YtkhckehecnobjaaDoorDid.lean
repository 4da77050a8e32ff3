/-
  HOW api.Op, api.Cell, api.Answer, api.Did LIE IN MEMORY, and what they are as data. No program.
-/
import Derived.Test.YtkhckehecnobjaaDoorMem
namespace Go.Proofs.YtkhckehecnobjaaDoor
open Go.RowKit

structure OpD where
  act : Int
  key : ByteArray
  data : List UInt8
  lo : Int
  hi : Int
  n : Int
structure CellD where
  kind : Int
  data : List UInt8
  lo : Int
  hi : Int
  val : Int
structure DidD where
  txn : Int
  op : OpD
  err : Int
  cell : CellD

/-- An Op's six cells; dv: the value of its Data. -/
def opCells (d : OpD) (dv : Value) : List Value := [.int .i64 d.act, .string d.key, dv, .int .i64 d.lo, .int .i64 d.hi, .int .i64 d.n]
def cellCells (d : CellD) (dv : Value) : List Value := [.int .i64 d.kind, dv, .int .i64 d.lo, .int .i64 d.hi, .int .i64 d.val]

/-- A Did with the values of its two slices. -/
structure DidV where
  d : DidD
  dv : Value
  cv : Value
def DidV.cells (x : DidV) : List Value := .int .i64 x.d.txn :: (opCells x.d.op x.dv ++ .int .i64 x.d.err :: cellCells x.d.cell x.cv)
theorem DidV.cells_length (x : DidV) : x.cells.length = 13 := rfl
def DidOk (w : World) (B : Nat) (x : DidV) : Prop := BytesAt w B x.dv x.d.op.data ∧ BytesAt w B x.cv x.d.cell.data
theorem DidOk.below {w w' : World} {B C : Nat} {x : DidV} (h : DidOk w B x) (hb : Below C w w') (hC : B ≤ C) : DidOk w' B x := ⟨h.1.below hb hC, h.2.below hb hC⟩
theorem DidOk.more {w : World} {B B' : Nat} {x : DidV} (h : DidOk w B x) (hB : B ≤ B') : DidOk w B' x := ⟨h.1.more hB, h.2.more hB⟩

theorem BytesAt.one {w : World} {B : Nat} {v : Value} {bs : List UInt8} (h : BytesAt w B v bs) : v.oneCell' = true := by
  obtain ⟨A, n, c, rfl, _⟩ := h
  rfl
theorem DidOk.one {w : World} {B : Nat} {x : DidV} (h : DidOk w B x) : ∀ u ∈ x.cells, u.oneCell' = true := by
  intro u hu
  have h1 := h.1.one
  have h2 := h.2.one
  simp only [DidV.cells, opCells, cellCells, List.cons_append, List.nil_append, List.mem_cons, List.not_mem_nil, or_false] at hu
  rcases hu with rfl | rfl | rfl | rfl | rfl | rfl | rfl | rfl | rfl | rfl | rfl | rfl | rfl <;> first | rfl | assumption

/-- The cells of rows of k cells each, one behind the other. -/
theorem flat_at {α : Type} (f : α → List Value) (k : Nat) (hk : ∀ x, (f x).length = k) (xs : List α) (i j : Nat) (hj : j < k) : (xs.flatMap f)[i * k + j]? = (xs[i]?).bind (fun x => (f x)[j]?) := by
  induction xs generalizing i with
  | nil => simp
  | cons x t ih =>
    cases i with
    | zero => simp [List.getElem?_append_left (show j < (f x).length by rw [hk]; exact hj)]
    | succ i =>
      rw [List.flatMap_cons, List.getElem?_append_right (by rw [hk, Nat.succ_mul]; omega), hk]
      rw [show (i + 1) * k + j - k = i * k + j by rw [Nat.succ_mul]; omega, ih]
      simp
theorem flat_length {α : Type} (f : α → List Value) (k : Nat) (hk : ∀ x, (f x).length = k) (xs : List α) : (xs.flatMap f).length = xs.length * k := by
  induction xs with
  | nil => simp
  | cons x t ih => simp only [List.flatMap_cons, List.length_append, hk, ih, List.length_cons, Nat.succ_mul]; omega
theorem flat_take {α : Type} (f : α → List Value) (k : Nat) (hk : ∀ x, (f x).length = k) (xs : List α) (i : Nat) : (xs.flatMap f).take (i * k) = (xs.take i).flatMap f := by
  induction xs generalizing i with
  | nil => simp
  | cons x t ih =>
    cases i with
    | zero => simp
    | succ i =>
      rw [List.flatMap_cons, List.take_append, hk, List.take_of_length_le (by rw [hk, Nat.succ_mul]; omega)]
      rw [show (i + 1) * k - k = i * k by rw [Nat.succ_mul]; omega, ih]
      simp
theorem flat_drop {α : Type} (f : α → List Value) (k : Nat) (hk : ∀ x, (f x).length = k) (xs : List α) (i : Nat) : (xs.flatMap f).drop (i * k) = (xs.drop i).flatMap f := by
  induction xs generalizing i with
  | nil => simp
  | cons x t ih =>
    cases i with
    | zero => simp
    | succ i =>
      rw [List.flatMap_cons, List.drop_append, hk, List.drop_of_length_le (by rw [hk, Nat.succ_mul]; omega)]
      rw [show (i + 1) * k - k = i * k by rw [Nat.succ_mul]; omega, ih]
      simp

/-- The slice '.slice A n c' holds the Dids xs; all of it lies below B. -/
def Dids (w : World) (B : Nat) (A : Option Addr) (n : Nat) (xs : List DidV) : Prop :=
  n = xs.length ∧ Reads w B 13 A n (xs.flatMap DidV.cells) ∧ ∀ x ∈ xs, DidOk w B x
section
variable {w w' : World} {B B' C n : Nat} {A : Option Addr} {xs : List DidV}
theorem Dids.below (h : Dids w B A n xs) (hb : Below C w w') (hC : B ≤ C) : Dids w' B A n xs := ⟨h.1, h.2.1.below hb hC, fun x hx => (h.2.2 x hx).below hb hC⟩
theorem Dids.more (h : Dids w B A n xs) (hB : B ≤ B') : Dids w B' A n xs := ⟨h.1, h.2.1.more hB, fun x hx => (h.2.2 x hx).more hB⟩
theorem Dids.drewN (h : Dids w B A n xs) (k : Nat) : Dids (w.drewN k) B A n xs := h.below (C := B) (below_of_drewN w k) (Nat.le_refl _)
theorem Dids.one (h : Dids w B A n xs) {ys : List DidV} (hs : ∀ y ∈ ys, y ∈ xs) : ∀ u ∈ ys.flatMap DidV.cells, u.oneCell' = true := by
  intro u hu
  obtain ⟨x, hx, hu⟩ := List.mem_flatMap.1 hu
  exact (h.2.2 x (hs x hx)).one u hu
/-- Element k: its thirteen cells. -/
theorem Dids.at_ {k : Nat} (h : Dids w B A n xs) (hk : k < n) : ∃ b o x, A = some ⟨b, o, none⟩ ∧ b < B ∧ xs[k]? = some x ∧ DidOk w B x ∧ ∀ j u, x.cells[j]? = some u → w.cell? ⟨b, o + k * 13 + j, none⟩ = some u := by
  obtain ⟨rfl, hr, hok⟩ := h
  obtain ⟨b, o, e, hb, hc⟩ := hr.plain (by omega) (by omega)
  refine ⟨b, o, xs[k], e, hb, List.getElem?_eq_getElem hk, hok _ (List.getElem_mem _), fun j u hu => ?_⟩
  have hj : j < 13 := by
    have := (List.getElem?_eq_some_iff.1 hu).1
    rwa [DidV.cells_length] at this
  rw [Nat.add_assoc]
  refine hc _ u ?_
  rw [flat_at _ 13 DidV.cells_length _ _ _ hj, List.getElem?_eq_getElem hk]
  exact hu
end
theorem Dids.row {w : World} {B n k b o : Nat} {xs : List DidV} {x : DidV} (h : Dids w B (some ⟨b, o, none⟩) n xs) (hx : xs[k]? = some x) : w.cell? ⟨b, o + k * 13, none⟩ = some (.int .i64 x.d.txn) ∧ w.cell? ⟨b, o + k * 13 + 1, none⟩ = some (.int .i64 x.d.op.act) ∧ w.cell? ⟨b, o + k * 13 + 1 + 1, none⟩ = some (.string x.d.op.key) ∧ w.cell? ⟨b, o + k * 13 + 1 + 2, none⟩ = some (x.dv) ∧ w.cell? ⟨b, o + k * 13 + 1 + 3, none⟩ = some (.int .i64 x.d.op.lo) ∧ w.cell? ⟨b, o + k * 13 + 1 + 4, none⟩ = some (.int .i64 x.d.op.hi) ∧ w.cell? ⟨b, o + k * 13 + 1 + 5, none⟩ = some (.int .i64 x.d.op.n) ∧ w.cell? ⟨b, o + k * 13 + 7, none⟩ = some (.int .i64 x.d.err) ∧ w.cell? ⟨b, o + k * 13 + 7 + 1, none⟩ = some (.int .i64 x.d.cell.kind) ∧ w.cell? ⟨b, o + k * 13 + 7 + 2, none⟩ = some (x.cv) ∧ w.cell? ⟨b, o + k * 13 + 7 + 3, none⟩ = some (.int .i64 x.d.cell.lo) ∧ w.cell? ⟨b, o + k * 13 + 7 + 4, none⟩ = some (.int .i64 x.d.cell.hi) ∧ w.cell? ⟨b, o + k * 13 + 7 + 5, none⟩ = some (.int .i64 x.d.cell.val) := by
  obtain ⟨hk, _⟩ := List.getElem?_eq_some_iff.1 hx
  obtain ⟨b', o', x', e, _, hx', _, hc⟩ := h.at_ (k := k) (by rw [h.1]; exact hk)
  have e1 : (⟨b, o, none⟩ : Addr) = ⟨b', o', none⟩ := by injection e
  obtain ⟨rfl, rfl⟩ : b = b' ∧ o = o' := by simpa using e1
  obtain rfl : x = x' := by rw [hx] at hx'; injection hx'
  exact ⟨hc 0 _ rfl, hc 1 _ rfl, hc 2 _ rfl, hc 3 _ rfl, hc 4 _ rfl, hc 5 _ rfl, hc 6 _ rfl, hc 7 _ rfl, hc 8 _ rfl, hc 9 _ rfl, hc 10 _ rfl, hc 11 _ rfl, hc 12 _ rfl⟩
/-- ints in memory -/
def Ints (w : World) (B : Nat) (A : Option Addr) (n : Nat) (zs : List Int) : Prop := n = zs.length ∧ Reads w B 1 A n (zs.map (Value.int .i64))
section
variable {w w' : World} {B B' C n : Nat} {A : Option Addr} {zs : List Int}
theorem Ints.below (h : Ints w B A n zs) (hb : Below C w w') (hC : B ≤ C) : Ints w' B A n zs := ⟨h.1, h.2.below hb hC⟩
theorem Ints.more (h : Ints w B A n zs) (hB : B ≤ B') : Ints w B' A n zs := ⟨h.1, h.2.more hB⟩
theorem Ints.drewN (h : Ints w B A n zs) (k : Nat) : Ints (w.drewN k) B A n zs := h
theorem Ints.at_ {k : Nat} (h : Ints w B A n zs) (hk : k < n) : ∃ b o x, A = some ⟨b, o, none⟩ ∧ b < B ∧ zs[k]? = some x ∧ w.cell? ⟨b, o + k, none⟩ = some (.int .i64 x) := by
  obtain ⟨rfl, hr⟩ := h
  obtain ⟨b, o, e, hb, hc⟩ := hr.plain (by omega) (by omega)
  exact ⟨b, o, zs[k], e, hb, List.getElem?_eq_getElem hk, hc _ _ (by simp [hk])⟩
end
/-- P34.1: the first place of a number. -/
def plc (zs : List Int) (x : Int) : Int := match zs.idxOf? x with | some i => (i : Int) | none => -1
theorem plc_none {zs : List Int} {x : Int} (h : ∀ j, j < zs.length → zs[j]? ≠ some x) : plc zs x = -1 := by
  unfold plc
  have : zs.idxOf? x = none := by
    rw [List.idxOf?_eq_none_iff]
    intro hm
    obtain ⟨j, hj, e⟩ := List.getElem_of_mem hm
    exact h j hj (by rw [List.getElem?_eq_getElem hj, e])
  rw [this]
theorem plc_some {zs : List Int} {x : Int} {k : Nat} (h : zs[k]? = some x) (hb : ∀ j, j < k → zs[j]? ≠ some x) : plc zs x = k := by
  unfold plc
  have : zs.idxOf? x = some k := by
    obtain ⟨hk, e⟩ := List.getElem?_eq_some_iff.1 h
    unfold List.idxOf?
    rw [List.findIdx?_eq_some_iff_getElem]
    refine ⟨hk, by simp [e], fun j hj => ?_⟩
    have := hb j hj
    rw [List.getElem?_eq_getElem (by omega)] at this
    simpa using this
  rw [this]
theorem plc_le (zs : List Int) (x : Int) : -1 ≤ plc zs x ∧ plc zs x < zs.length + 1 := by
  unfold plc
  split
  · rename_i i h
    have := (List.findIdx?_eq_some_iff_getElem.1 h).1
    omega
  · omega
theorem plc_neg {zs : List Int} {x : Int} : plc zs x < 0 ↔ x ∉ zs := by
  unfold plc
  split
  · rename_i i h
    have h1 : x ∈ zs := by
      apply Classical.byContradiction
      intro hn
      have := List.idxOf?_eq_none_iff.2 hn
      rw [this] at h; cases h
    constructor
    · intro h; omega
    · intro h; exact absurd h1 h
  · rename_i h
    have := List.idxOf?_eq_none_iff.1 h
    constructor
    · intro _; exact this
    · intro _; omega

/-- A number of 64 bits. -/
def wfI (x : Int) : Prop := (Lit.int .i64 x).wf = true
theorem plc_snoc_mem {l : List Int} {x : Int} (y : Int) (h : x ∈ l) : plc (l ++ [y]) x = plc l x := by
  unfold plc
  have h1 : (l ++ [y]).idxOf? x = l.idxOf? x := by
    unfold List.idxOf?
    rw [List.findIdx?_append]
    have : (List.findIdx? (fun z => z == x) l).isSome = true := by
      rw [List.findIdx?_isSome, List.any_eq_true]
      exact ⟨x, h, by simp⟩
    obtain ⟨i, hi⟩ := Option.isSome_iff_exists.1 this
    rw [hi]
    rfl
  rw [h1]
theorem plc_snoc_new {l : List Int} {y : Int} (h : y ∉ l) : plc (l ++ [y]) y = l.length := by
  refine plc_some (k := l.length) (by simp) (fun j hj e => h ?_)
  rw [List.getElem?_append_left hj] at e
  exact List.mem_of_getElem? e
def cellEq (a b : CellD) : Bool := a.kind == b.kind && a.data == b.data && a.lo == b.lo && a.hi == b.hi && a.val == b.val
end Go.Proofs.YtkhckehecnobjaaDoor
