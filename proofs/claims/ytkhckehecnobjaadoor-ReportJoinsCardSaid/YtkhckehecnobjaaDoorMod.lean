/-
  THE ABSTRACT MACHINE, plainly: keys, cells, states (P9), and how pairs lie in memory. No program.
-/
import Derived.Test.YtkhckehecnobjaaDoorDid
import Derived.Test.YtkhckehecnobjaaDoorPut
namespace Go.Proofs.YtkhckehecnobjaaDoor
open Go.RowKit

def okByte (b : UInt8) : Bool := decide (33 ≤ b.toNat ∧ b.toNat ≤ 126)
/-- May a text be a key? (P4.1) -/
def goodKey (k : ByteArray) : Bool := k.data.toList.all okByte && (decide (0 < k.size) && decide (k.size ≤ 16))
/-- May a cell be? (P5.1) -/
def rightC (c : CellD) : Bool :=
  if c.kind = 1 then decide (c.data.length ≤ 32) && (c.lo == 0 && (c.hi == 0 && c.val == 0))
  else c.kind == 2 && (decide (c.data.length = 0) && (decide (c.lo ≤ c.val) && decide (c.val ≤ c.hi)))

structure PairD where
  key : ByteArray
  cell : CellD
/-- A pair with the value of its slice. -/
structure PairV where
  d : PairD
  cv : Value
def PairV.cells (x : PairV) : List Value := .string x.d.key :: cellCells x.d.cell x.cv
theorem PairV.cells_length (x : PairV) : x.cells.length = 6 := rfl
def PairOk (w : World) (B : Nat) (x : PairV) : Prop := BytesAt w B x.cv x.d.cell.data
theorem PairOk.below {w w' : World} {B C : Nat} {x : PairV} (h : PairOk w B x) (hb : Below C w w') (hC : B ≤ C) : PairOk w' B x := BytesAt.below h hb hC
theorem PairOk.more {w : World} {B B' : Nat} {x : PairV} (h : PairOk w B x) (hB : B ≤ B') : PairOk w B' x := BytesAt.more h hB
theorem PairOk.one {w : World} {B : Nat} {x : PairV} (h : PairOk w B x) : ∀ u ∈ x.cells, u.oneCell' = true := by
  intro u hu
  have h1 := BytesAt.one h
  simp only [PairV.cells, cellCells, List.mem_cons, List.not_mem_nil, or_false] at hu
  rcases hu with rfl | rfl | rfl | rfl | rfl | rfl <;> first | rfl | assumption

def Pairs (w : World) (B : Nat) (A : Option Addr) (n : Nat) (xs : List PairV) : Prop :=
  n = xs.length ∧ Reads w B 6 A n (xs.flatMap PairV.cells) ∧ ∀ x ∈ xs, PairOk w B x
section
variable {w w' : World} {B B' C n : Nat} {A : Option Addr} {xs : List PairV}
theorem Pairs.below (h : Pairs w B A n xs) (hb : Below C w w') (hC : B ≤ C) : Pairs w' B A n xs := ⟨h.1, h.2.1.below hb hC, fun x hx => (h.2.2 x hx).below hb hC⟩
theorem Pairs.more (h : Pairs w B A n xs) (hB : B ≤ B') : Pairs w B' A n xs := ⟨h.1, h.2.1.more hB, fun x hx => (h.2.2 x hx).more hB⟩
theorem Pairs.drewN (h : Pairs w B A n xs) (k : Nat) : Pairs (w.drewN k) B A n xs := h.below (C := B) (below_of_drewN w k) (Nat.le_refl _)
theorem Pairs.one (h : Pairs w B A n xs) {ys : List PairV} (hs : ∀ y ∈ ys, y ∈ xs) : ∀ u ∈ ys.flatMap PairV.cells, u.oneCell' = true := by
  intro u hu
  obtain ⟨x, hx, hu⟩ := List.mem_flatMap.1 hu
  exact (h.2.2 x (hs x hx)).one u hu
theorem Pairs.at_ {k : Nat} (h : Pairs w B A n xs) (hk : k < n) : ∃ b o x, A = some ⟨b, o, none⟩ ∧ b < B ∧ xs[k]? = some x ∧ PairOk w B x ∧ ∀ j u, x.cells[j]? = some u → w.cell? ⟨b, o + k * 6 + j, none⟩ = some u := by
  obtain ⟨rfl, hr, hok⟩ := h
  obtain ⟨b, o, e, hb, hc⟩ := hr.plain (by omega) (by omega)
  refine ⟨b, o, xs[k], e, hb, List.getElem?_eq_getElem hk, hok _ (List.getElem_mem _), fun j u hu => ?_⟩
  have hj : j < 6 := by
    have := (List.getElem?_eq_some_iff.1 hu).1
    rwa [PairV.cells_length] at this
  rw [Nat.add_assoc]
  refine hc _ u ?_
  rw [flat_at _ 6 PairV.cells_length _ _ _ hj, List.getElem?_eq_getElem hk]
  exact hu
theorem Pairs.row {k b o : Nat} {x : PairV} (h : Pairs w B (some ⟨b, o, none⟩) n xs) (hx : xs[k]? = some x) :
    w.cell? ⟨b, o + k * 6, none⟩ = some (.string x.d.key) ∧ w.cell? ⟨b, o + k * 6 + 1, none⟩ = some (.int .i64 x.d.cell.kind) ∧ w.cell? ⟨b, o + k * 6 + 1 + 1, none⟩ = some x.cv ∧ w.cell? ⟨b, o + k * 6 + 1 + 2, none⟩ = some (.int .i64 x.d.cell.lo) ∧ w.cell? ⟨b, o + k * 6 + 1 + 3, none⟩ = some (.int .i64 x.d.cell.hi) ∧ w.cell? ⟨b, o + k * 6 + 1 + 4, none⟩ = some (.int .i64 x.d.cell.val) := by
  obtain ⟨hk, _⟩ := List.getElem?_eq_some_iff.1 hx
  obtain ⟨b', o', x', e, _, hx', _, hc⟩ := h.at_ (k := k) (by rw [h.1]; exact hk)
  have e1 : (⟨b, o, none⟩ : Addr) = ⟨b', o', none⟩ := by injection e
  obtain ⟨rfl, rfl⟩ : b = b' ∧ o = o' := by simpa using e1
  obtain rfl : x = x' := by rw [hx] at hx'; injection hx'
  exact ⟨hc 0 _ rfl, hc 1 _ rfl, hc 2 _ rfl, hc 3 _ rfl, hc 4 _ rfl, hc 5 _ rfl⟩
end

/-- The order of keys, as Go's '<' on strings. -/
def kless (a b : ByteArray) : Bool := Op.bytesLess a.toList b.toList
/-- May an operation be? (P9.1) -/
def goodOp (x : OpD) : Bool :=
  decide (0 ≤ x.act ∧ x.act ≤ 5) && (goodKey x.key &&
    (if x.act = 1 then decide (x.data.length ≤ 32) else if x.act = 2 then decide (x.lo ≤ x.n) && decide (x.n ≤ x.hi) else decide (x.act < 4) || decide (0 ≤ x.n)))
end Go.Proofs.YtkhckehecnobjaaDoor
