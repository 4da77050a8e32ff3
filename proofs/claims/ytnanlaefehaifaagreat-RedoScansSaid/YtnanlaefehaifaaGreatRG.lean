/-
  RECORDS OF THE LOG IN MEMORY (api.Rec, api.Patch, api.Run), and how they are kept.
-/
import Derived.Test.YtnanlaefehaifaaGreatMem
namespace Go.Proofs.YtnanlaefehaifaaGreat
open Go.RowKit

/-- A run with the value of its bytes. -/
structure RunV where
  place : Int
  data : List UInt8
  dv : Value
def RunV.cells (x : RunV) : List Value := [.int .i64 x.place, x.dv]
theorem RunV.cells_length (x : RunV) : x.cells.length = 2 := rfl
/-- A patch with the value of its runs. -/
structure PatV where
  page : Int
  fresh : Bool
  runs : List RunV
  rv : Value
def PatV.cells (x : PatV) : List Value := [.int .i64 x.page, .bool x.fresh, x.rv]
theorem PatV.cells_length (x : PatV) : x.cells.length = 3 := rfl
/-- An undo with the value of its bytes. -/
structure UndoV where
  act : Int
  key : ByteArray
  state : Int
  ikey : ByteArray
  cell : CellD
  cv : Value
  n : Int
def itemCells (state : Int) (ikey : ByteArray) (cell : CellD) (cv : Value) : List Value := [.int .i64 state, .string ikey, .int .i64 cell.kind, cv, .int .i64 cell.lo, .int .i64 cell.hi, .int .i64 cell.val]
def UndoV.cells (x : UndoV) : List Value := [.int .i64 x.act, .string x.key, .int .i64 x.state, .string x.ikey, .int .i64 x.cell.kind, x.cv, .int .i64 x.cell.lo, .int .i64 x.cell.hi, .int .i64 x.cell.val, .int .i64 x.n]
/-- A record with the values of its lists. -/
structure RecV where
  kind : Int
  txn : Int
  prev : Int
  next : Int
  pats : List PatV
  pv : Value
  undo : UndoV
def RecV.cells (x : RecV) : List Value := [.int .i64 x.kind, .int .i64 x.txn, .int .i64 x.prev, .int .i64 x.next, x.pv, .int .i64 x.undo.act, .string x.undo.key, .int .i64 x.undo.state, .string x.undo.ikey, .int .i64 x.undo.cell.kind, x.undo.cv, .int .i64 x.undo.cell.lo, .int .i64 x.undo.cell.hi, .int .i64 x.undo.cell.val, .int .i64 x.undo.n]
theorem RecV.cells_length (x : RecV) : x.cells.length = 15 := rfl

/-- The value v is a slice whose elements' cells are xs, below B. -/
def SliceAt (w : World) (B size : Nat) (v : Value) (n : Nat) (xs : List Value) : Prop := ∃ (A : Option Addr) (c : Nat), v = .slice A n c ∧ n ≤ c ∧ c ≤ maxLen ∧ (A = none → c = 0) ∧ Reads w B size A n xs
def Runs (w : World) (B : Nat) (v : Value) (xs : List RunV) : Prop := SliceAt w B 2 v xs.length (xs.flatMap RunV.cells) ∧ ∀ x ∈ xs, BytesAt w B x.dv x.data
def Pats (w : World) (B : Nat) (v : Value) (xs : List PatV) : Prop := SliceAt w B 3 v xs.length (xs.flatMap PatV.cells) ∧ ∀ x ∈ xs, Runs w B x.rv x.runs
def UndoOk (w : World) (B : Nat) (x : UndoV) : Prop := BytesAt w B x.cv x.cell.data
def RecOk (w : World) (B : Nat) (x : RecV) : Prop := Pats w B x.pv x.pats ∧ UndoOk w B x.undo
section
variable {w w' : World} {B B' C size n : Nat} {v : Value} {xs : List Value}
theorem BytesAt.keep {bs : List UInt8} (h : BytesAt w B v bs) (hk : ∀ p : Addr, p.block < B → w'.cell? p = w.cell? p) : BytesAt w' B v bs := by
  obtain ⟨A, n, c, h1, h2, h3, h4, h5, h6⟩ := h
  exact ⟨A, n, c, h1, h2, h3, h4, h5, h6.keep hk⟩
theorem SliceAt.keep (h : SliceAt w B size v n xs) (hk : ∀ p : Addr, p.block < B → w'.cell? p = w.cell? p) : SliceAt w' B size v n xs := by
  obtain ⟨A, c, h1, h2, h3, h5, h6⟩ := h
  exact ⟨A, c, h1, h2, h3, h5, h6.keep hk⟩
theorem SliceAt.more (h : SliceAt w B size v n xs) (hB : B ≤ B') : SliceAt w B' size v n xs := by
  obtain ⟨A, c, h1, h2, h3, h5, h6⟩ := h
  exact ⟨A, c, h1, h2, h3, h5, h6.more hB⟩
theorem SliceAt.one (h : SliceAt w B size v n xs) : v.oneCell' = true := by
  obtain ⟨A, c, rfl, _⟩ := h
  rfl
theorem Runs.keep {rs : List RunV} (h : Runs w B v rs) (hk : ∀ p : Addr, p.block < B → w'.cell? p = w.cell? p) : Runs w' B v rs := ⟨h.1.keep hk, fun x hx => (h.2 x hx).keep hk⟩
theorem Runs.more {rs : List RunV} (h : Runs w B v rs) (hB : B ≤ B') : Runs w B' v rs := ⟨h.1.more hB, fun x hx => (h.2 x hx).more hB⟩
theorem Pats.keep {rs : List PatV} (h : Pats w B v rs) (hk : ∀ p : Addr, p.block < B → w'.cell? p = w.cell? p) : Pats w' B v rs := ⟨h.1.keep hk, fun x hx => (h.2 x hx).keep hk⟩
theorem Pats.more {rs : List PatV} (h : Pats w B v rs) (hB : B ≤ B') : Pats w B' v rs := ⟨h.1.more hB, fun x hx => (h.2 x hx).more hB⟩
theorem RecOk.keep {x : RecV} (h : RecOk w B x) (hk : ∀ p : Addr, p.block < B → w'.cell? p = w.cell? p) : RecOk w' B x := ⟨h.1.keep hk, BytesAt.keep h.2 hk⟩
theorem RecOk.more {x : RecV} (h : RecOk w B x) (hB : B ≤ B') : RecOk w B' x := ⟨h.1.more hB, BytesAt.more h.2 hB⟩
theorem Runs.below {rs : List RunV} (h : Runs w B v rs) (hb : Below C w w') (hC : B ≤ C) : Runs w' B v rs := h.keep fun _ hp => hb.cell (by omega)
theorem Pats.below {rs : List PatV} (h : Pats w B v rs) (hb : Below C w w') (hC : B ≤ C) : Pats w' B v rs := h.keep fun _ hp => hb.cell (by omega)
theorem UndoOk.below {x : UndoV} (h : UndoOk w B x) (hb : Below C w w') (hC : B ≤ C) : UndoOk w' B x := BytesAt.below h hb hC
theorem RecOk.below {x : RecV} (h : RecOk w B x) (hb : Below C w w') (hC : B ≤ C) : RecOk w' B x := h.keep fun _ hp => hb.cell (by omega)
end
/-- The rows of k cells, element by element. -/
theorem SliceAt.at_ {α : Type} {w : World} {B size : Nat} {v : Value} {xs : List α} {f : α → List Value} (hf : ∀ x, (f x).length = size) (hs : 0 < size) (h : SliceAt w B size v xs.length (xs.flatMap f)) {k : Nat} (hk : k < xs.length) :
    ∃ b o c x, v = .slice (some ⟨b, o, none⟩) xs.length c ∧ b < B ∧ xs[k]? = some x ∧ xs.length ≤ c ∧ c ≤ maxLen ∧ ∀ j u, (f x)[j]? = some u → w.cell? ⟨b, o + k * size + j, none⟩ = some u := by
  obtain ⟨A, c, rfl, hc, hm, _, hr⟩ := h
  obtain ⟨b, o, rfl, hb, hcl⟩ := hr.plain (by omega) hs
  refine ⟨b, o, c, xs[k], rfl, hb, List.getElem?_eq_getElem hk, hc, hm, fun j u hu => ?_⟩
  have hj : j < size := by
    have := (List.getElem?_eq_some_iff.1 hu).1
    rwa [hf] at this
  rw [Nat.add_assoc]
  refine hcl _ u ?_
  rw [flat_at _ size hf _ _ _ hj, List.getElem?_eq_getElem hk]
  exact hu
/-- A row: its form; nil or not. -/
theorem SliceAt.form {w : World} {B size : Nat} {v : Value} {n : Nat} {xs : List Value} (h : SliceAt w B size v n xs) : ∃ A c, v = .slice A n c ∧ n ≤ c ∧ c ≤ maxLen ∧ (A = none → c = 0) ∧ Reads w B size A n xs := h

/-- The record's lists lie in blocks from L up to H: whoever keeps these keeps it. -/
def RecIn (w : World) (L H : Nat) (x : RecV) : Prop := ∀ W : World, (∀ q, L ≤ q → q < H → W.heap[q]? = w.heap[q]?) → RecOk W H x
theorem RecIn.ok {w : World} {L H : Nat} {x : RecV} (h : RecIn w L H x) : RecOk w H x := h w fun _ _ _ => rfl
theorem RecIn.keep {w w' : World} {L H : Nat} {x : RecV} (h : RecIn w L H x) (hk : ∀ q, L ≤ q → q < H → w'.heap[q]? = w.heap[q]?) : RecIn w' L H x := fun W hW => h W fun q h1 h2 => (hW q h1 h2).trans (hk q h1 h2)
/-- What is asked of a record's sizes in the statement. -/
def RunSm (x : RunV) : Prop := x.data.length ≤ 600
def PatSm (x : PatV) : Prop := x.runs.length ≤ 60 ∧ ∀ r ∈ x.runs, RunSm r
def UndoSm (x : UndoV) : Prop := x.key.size ≤ 300 ∧ x.ikey.size ≤ 300 ∧ x.cell.data.length ≤ 300
def RecSm (x : RecV) : Prop := x.pats.length ≤ 6 ∧ (∀ p ∈ x.pats, PatSm p) ∧ UndoSm x.undo
end Go.Proofs.YtnanlaefehaifaaGreat
