/-
  EVENTS AS DATA, AND AS TEXT (P31.2, P39.1, P40.1): plain, no program.
-/
import Derived.Test.YtkhckehecnobjaaDoorSA
import Derived.Test.YtkhckehecnobjaaDoorMLaw
namespace Go.Proofs.YtkhckehecnobjaaDoor
open Go.RowKit

structure EvD where
  act : Int
  client : Int
  txn : Int
  op : OpD
  err : Int
  cell : CellD
/-- An Event with the values of its two slices. -/
structure EvV where
  d : EvD
  dv : Value
  cv : Value
def EvV.cells (x : EvV) : List Value := .int .i64 x.d.act :: .int .i64 x.d.client :: .int .i64 x.d.txn :: (opCells x.d.op x.dv ++ .int .i64 x.d.err :: cellCells x.d.cell x.cv)
theorem EvV.cells_length (x : EvV) : x.cells.length = 15 := rfl
def EvOk (w : World) (B : Nat) (x : EvV) : Prop := BytesAt w B x.dv x.d.op.data ∧ BytesAt w B x.cv x.d.cell.data
theorem EvOk.below {w w' : World} {B C : Nat} {x : EvV} (h : EvOk w B x) (hb : Below C w w') (hC : B ≤ C) : EvOk w' B x := ⟨h.1.below hb hC, h.2.below hb hC⟩
theorem EvOk.more {w : World} {B B' : Nat} {x : EvV} (h : EvOk w B x) (hB : B ≤ B') : EvOk w B' x := ⟨h.1.more hB, h.2.more hB⟩
theorem EvOk.one {w : World} {B : Nat} {x : EvV} (h : EvOk w B x) : ∀ u ∈ x.cells, u.oneCell' = true := by
  intro u hu
  have h1 := h.1.one
  have h2 := h.2.one
  simp only [EvV.cells, opCells, cellCells, List.cons_append, List.nil_append, List.mem_cons, List.not_mem_nil, or_false] at hu
  rcases hu with rfl | rfl | rfl | rfl | rfl | rfl | rfl | rfl | rfl | rfl | rfl | rfl | rfl | rfl | rfl <;> first | rfl | assumption
/-- The slice '.slice A n c' holds the Events xs; all of it lies below B. -/
def Evs (w : World) (B : Nat) (A : Option Addr) (n : Nat) (xs : List EvV) : Prop :=
  n = xs.length ∧ Reads w B 15 A n (xs.flatMap EvV.cells) ∧ ∀ x ∈ xs, EvOk w B x
section
variable {w w' : World} {B B' C n : Nat} {A : Option Addr} {xs : List EvV}
theorem Evs.below (h : Evs w B A n xs) (hb : Below C w w') (hC : B ≤ C) : Evs w' B A n xs := ⟨h.1, h.2.1.below hb hC, fun x hx => (h.2.2 x hx).below hb hC⟩
theorem Evs.more (h : Evs w B A n xs) (hB : B ≤ B') : Evs w B' A n xs := ⟨h.1, h.2.1.more hB, fun x hx => (h.2.2 x hx).more hB⟩
theorem Evs.one (h : Evs w B A n xs) {ys : List EvV} (hs : ∀ y ∈ ys, y ∈ xs) : ∀ u ∈ ys.flatMap EvV.cells, u.oneCell' = true := by
  intro u hu
  obtain ⟨x, hx, hu⟩ := List.mem_flatMap.1 hu
  exact (h.2.2 x (hs x hx)).one u hu
theorem Evs.at_ {k : Nat} (h : Evs w B A n xs) (hk : k < n) : ∃ b o x, A = some ⟨b, o, none⟩ ∧ b < B ∧ xs[k]? = some x ∧ EvOk w B x ∧ ∀ j u, x.cells[j]? = some u → w.cell? ⟨b, o + k * 15 + j, none⟩ = some u := by
  obtain ⟨rfl, hr, hok⟩ := h
  obtain ⟨b, o, e, hb, hc⟩ := hr.plain (by omega) (by omega)
  refine ⟨b, o, xs[k], e, hb, List.getElem?_eq_getElem hk, hok _ (List.getElem_mem _), fun j u hu => ?_⟩
  have hj : j < 15 := by
    have := (List.getElem?_eq_some_iff.1 hu).1
    rwa [EvV.cells_length] at this
  rw [Nat.add_assoc]
  refine hc _ u ?_
  rw [flat_at _ 15 EvV.cells_length _ _ _ hj, List.getElem?_eq_getElem hk]
  exact hu
end
/-- The fifteen cells of one Event in memory, as the walk spells their places. -/
def EvRow (w : World) (b p : Nat) (x : EvV) : Prop :=
  w.cell? ⟨b, p, none⟩ = some (.int .i64 x.d.act) ∧ w.cell? ⟨b, p + 1, none⟩ = some (.int .i64 x.d.client) ∧ w.cell? ⟨b, p + 2, none⟩ = some (.int .i64 x.d.txn) ∧
  w.cell? ⟨b, p + 3, none⟩ = some (.int .i64 x.d.op.act) ∧ w.cell? ⟨b, p + 3 + 1, none⟩ = some (.string x.d.op.key) ∧ w.cell? ⟨b, p + 3 + 2, none⟩ = some (x.dv) ∧ w.cell? ⟨b, p + 3 + 3, none⟩ = some (.int .i64 x.d.op.lo) ∧ w.cell? ⟨b, p + 3 + 4, none⟩ = some (.int .i64 x.d.op.hi) ∧ w.cell? ⟨b, p + 3 + 5, none⟩ = some (.int .i64 x.d.op.n) ∧
  w.cell? ⟨b, p + 9, none⟩ = some (.int .i64 x.d.err) ∧ w.cell? ⟨b, p + 9 + 1, none⟩ = some (.int .i64 x.d.cell.kind) ∧ w.cell? ⟨b, p + 9 + 2, none⟩ = some (x.cv) ∧ w.cell? ⟨b, p + 9 + 3, none⟩ = some (.int .i64 x.d.cell.lo) ∧ w.cell? ⟨b, p + 9 + 4, none⟩ = some (.int .i64 x.d.cell.hi) ∧ w.cell? ⟨b, p + 9 + 5, none⟩ = some (.int .i64 x.d.cell.val)
theorem Evs.row {w : World} {B n k b o : Nat} {xs : List EvV} {x : EvV} (h : Evs w B (some ⟨b, o, none⟩) n xs) (hx : xs[k]? = some x) : EvRow w b (o + k * 15) x := by
  obtain ⟨hk, _⟩ := List.getElem?_eq_some_iff.1 hx
  obtain ⟨b', o', x', e, _, hx', _, hc⟩ := h.at_ (k := k) (by rw [h.1]; exact hk)
  have e1 : (⟨b, o, none⟩ : Addr) = ⟨b', o', none⟩ := by injection e
  obtain ⟨rfl, rfl⟩ : b = b' ∧ o = o' := by simpa using e1
  obtain rfl : x = x' := by rw [hx] at hx'; injection hx'
  exact ⟨hc 0 _ rfl, hc 1 _ rfl, hc 2 _ rfl, hc 3 _ rfl, hc 4 _ rfl, hc 5 _ rfl, hc 6 _ rfl, hc 7 _ rfl, hc 8 _ rfl, hc 9 _ rfl, hc 10 _ rfl, hc 11 _ rfl, hc 12 _ rfl, hc 13 _ rfl, hc 14 _ rfl⟩

/-- An Event as one value. -/
def evA (d : EvD) (dv cv : Value) : Value := .agg #[.int .i64 d.act, .int .i64 d.client, .int .i64 d.txn, .int .i64 d.op.act, .string d.op.key, dv, .int .i64 d.op.lo, .int .i64 d.op.hi, .int .i64 d.op.n, .int .i64 d.err, .int .i64 d.cell.kind, cv, .int .i64 d.cell.lo, .int .i64 d.cell.hi, .int .i64 d.cell.val]

/-! ### texts -/
def hexC (n : Nat) : UInt8 := [48, 49, 50, 51, 52, 53, 54, 55, 56, 57, 97, 98, 99, 100, 101, 102].getD n 0
def hexB (b : UInt8) : List UInt8 := [hexC (b.toNat / 16), hexC (b.toNat % 16)]
/-- Bytes as text. -/
def hexT (bs : List UInt8) : List UInt8 := if bs = [] then [45] else bs.flatMap hexB
theorem hexT_len (bs : List UInt8) : (hexT bs).length ≤ 2 * bs.length + 1 := by
  unfold hexT
  split
  · simp
  · have : ∀ l : List UInt8, (l.flatMap hexB).length = 2 * l.length := fun l => by
      induction l with
      | nil => rfl
      | cons a t ih => simp only [List.flatMap_cons, List.length_append, ih, hexB, List.length_cons, List.length_nil]; omega
    rw [this]
    omega
abbrev num (n : Int) : List UInt8 := Lib.itoa n
/-- P31.2: what is called for. -/
def callT (x : OpD) : List UInt8 :=
  if x.act = 6 then [98, 101, 103, 105, 110] else if x.act = 7 then [99, 111, 109, 109, 105, 116] else if x.act = 8 then [97, 98, 111, 114, 116]
  else if x.act = 0 then [114, 101, 97, 100] ++ 32 :: x.key.data.toList
  else if x.act = 1 then [119, 114, 105, 116, 101] ++ 32 :: (x.key.data.toList ++ 32 :: hexT x.data)
  else if x.act = 2 then [99, 114, 101, 97, 116, 101] ++ 32 :: (x.key.data.toList ++ 32 :: (num x.lo ++ 32 :: (num x.hi ++ 32 :: num x.n)))
  else if x.act = 3 then [100, 114, 111, 112] ++ 32 :: x.key.data.toList
  else if x.act = 4 then [105, 110, 99] ++ 32 :: (x.key.data.toList ++ 32 :: num x.n)
  else [100, 101, 99] ++ 32 :: (x.key.data.toList ++ 32 :: num x.n)
/-- May a client call for it? -/
def isCallB (x : OpD) : Bool := decide (x.act = 6) || decide (x.act = 7) || decide (x.act = 8) || goodOp x
def opT (x : OpD) : List UInt8 := if isCallB x = true then callT x else [63]
def cellT (c : CellD) : List UInt8 :=
  if c.kind = 1 then [114, 101, 99, 111, 114, 100, 32] ++ hexT c.data
  else if c.kind = 2 then [99, 111, 117, 110, 116, 101, 114, 32] ++ (num c.lo ++ 32 :: (num c.hi ++ 32 :: num c.val))
  else [110, 111, 110, 101]
def isZero (c : CellD) : Bool := decide (c.kind = 0) && decide (c.data = []) && decide (c.lo = 0) && decide (c.hi = 0) && decide (c.val = 0)
def ansT (er : Int) (c : CellD) : List UInt8 :=
  if er ≠ 0 then [101, 114, 114, 111, 114, 32] ++ num er else if isZero c = true then [100, 111, 110, 101] else cellT c
def happT (x : EvD) : List UInt8 :=
  if x.act = 0 then [98, 101, 103, 105, 110]
  else if x.act = 1 then opT x.op ++ 32 :: 61 :: 32 :: ansT x.err x.cell
  else if x.act = 2 then [99, 111, 109, 109, 105, 116]
  else if x.act = 3 then [101, 110, 100]
  else if x.act = 4 then (if x.err ≠ 0 then [97, 98, 111, 114, 116, 32, 101, 114, 114, 111, 114, 32] ++ num x.err else [97, 98, 111, 114, 116])
  else [63]
/-- P40.1: an event's line. -/
def lineT (x : EvD) : List UInt8 := num x.txn ++ 32 :: (num x.client ++ 32 :: happT x)
def linesT (l : List EvD) : List UInt8 := l.flatMap fun x => lineT x ++ [10]

/-! ### how long they are -/
def OpSm (x : OpD) : Prop := x.key.size ≤ 1000 ∧ x.data.length ≤ 1000 ∧ inI x.act ∧ inI x.lo ∧ inI x.hi ∧ inI x.n
def CellSm (c : CellD) : Prop := c.data.length ≤ 1000 ∧ inI c.kind ∧ inI c.lo ∧ inI c.hi ∧ inI c.val
def EvSm (x : EvD) : Prop := OpSm x.op ∧ CellSm x.cell ∧ inI x.err ∧ inI x.txn ∧ inI x.client ∧ inI x.act
theorem num_len {n : Int} (h : inI n) : (num n).length ≤ 21 := itoa_len n h.1 h.2
theorem key_len (k : ByteArray) : k.data.toList.length = k.size := Array.length_toList (xs := k.data)
theorem callT_len {x : OpD} (h : OpSm x) : (callT x).length ≤ 4000 := by
  obtain ⟨h1, h2, _, h4, h5, h6⟩ := h
  have a1 := num_len h4
  have a2 := num_len h5
  have a3 := num_len h6
  have a4 := hexT_len x.data
  have a5 := key_len x.key
  unfold callT
  repeat' split
  all_goals (simp only [List.length_append, List.length_cons, List.length_nil]; omega)
theorem opT_len {x : OpD} (h : OpSm x) : (opT x).length ≤ 4000 := by
  unfold opT
  split
  · exact callT_len h
  · simp
theorem cellT_len {c : CellD} (h : CellSm c) : (cellT c).length ≤ 4000 := by
  obtain ⟨h2, _, h4, h5, h6⟩ := h
  have a1 := num_len h4
  have a2 := num_len h5
  have a3 := num_len h6
  have a4 := hexT_len c.data
  unfold cellT
  repeat' split
  all_goals (simp only [List.length_append, List.length_cons, List.length_nil]; omega)
theorem ansT_len {er : Int} {c : CellD} (h0 : inI er) (h : CellSm c) : (ansT er c).length ≤ 4000 := by
  have a1 := num_len h0
  have a2 := cellT_len h
  unfold ansT
  repeat' split
  all_goals (first | exact a2 | (simp only [List.length_append, List.length_cons, List.length_nil]; omega))
theorem happT_len {x : EvD} (h : EvSm x) : (happT x).length ≤ 9000 := by
  obtain ⟨h1, h2, h3, _⟩ := h
  have a1 := num_len h3
  have a2 := opT_len h1
  have a3 := ansT_len h3 h2
  unfold happT
  repeat' split
  all_goals (simp only [List.length_append, List.length_cons, List.length_nil]; omega)
theorem lineT_len {x : EvD} (h : EvSm x) : (lineT x).length ≤ 9999 := by
  have a1 := num_len h.2.2.2.1
  have a2 := num_len h.2.2.2.2.1
  have a3 := happT_len h
  unfold lineT
  simp only [List.length_append, List.length_cons]
  omega
theorem linesT_len {l : List EvD} (h : ∀ x ∈ l, EvSm x) : (linesT l).length ≤ 10000 * l.length := by
  induction l with
  | nil => simp [linesT]
  | cons a t ih =>
    have h1 := lineT_len (h a (by simp))
    have h2 := ih (fun x hx => h x (by simp [hx]))
    unfold linesT at h2 ⊢
    simp only [List.flatMap_cons, List.length_append, List.length_cons, List.length_nil] at h2 ⊢
    omega
end Go.Proofs.YtkhckehecnobjaaDoor
