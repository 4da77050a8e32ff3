/-
  ACTS AS DATA AND AS TEXT (P31.1, P31.2): plain; how api.Act lies in memory.
-/
import Derived.Test.YtgokkbocboonnaaDoorST
namespace Go.Proofs.YtgokkbocboonnaaDoor
open Go.RowKit

structure ActD where
  act : Int
  client : Int
  op : OpD
  n : Int
  pages : List Int
  log : Int
/-- An Act with the values of its two slices. -/
structure ActV where
  d : ActD
  dv : Value
  pv : Value
def ActV.cells (x : ActV) : List Value := .int .i64 x.d.act :: .int .i64 x.d.client :: (opCells x.d.op x.dv ++ [.int .i64 x.d.n, x.pv, .int .i64 x.d.log])
theorem ActV.cells_length (x : ActV) : x.cells.length = 11 := rfl
/-- The value v is a slice of the numbers ns, below block B. -/
def IntsAt (w : World) (B : Nat) (v : Value) (ns : List Int) : Prop := ∃ A c, v = .slice A ns.length c ∧ ns.length ≤ c ∧ Ints w B A ns.length ns
def ActOk (w : World) (B : Nat) (x : ActV) : Prop := BytesAt w B x.dv x.d.op.data ∧ IntsAt w B x.pv x.d.pages
section
variable {w w' : World} {B B' C : Nat} {x : ActV} {v : Value} {ns : List Int}
theorem IntsAt.below (h : IntsAt w B v ns) (hb : Below C w w') (hC : B ≤ C) : IntsAt w' B v ns := by
  obtain ⟨A, c, h1, h2, h3⟩ := h
  exact ⟨A, c, h1, h2, h3.below hb hC⟩
theorem IntsAt.more (h : IntsAt w B v ns) (hB : B ≤ B') : IntsAt w B' v ns := by
  obtain ⟨A, c, h1, h2, h3⟩ := h
  exact ⟨A, c, h1, h2, h3.more hB⟩
theorem ActOk.below (h : ActOk w B x) (hb : Below C w w') (hC : B ≤ C) : ActOk w' B x := ⟨h.1.below hb hC, h.2.below hb hC⟩
theorem ActOk.more (h : ActOk w B x) (hB : B ≤ B') : ActOk w B' x := ⟨h.1.more hB, h.2.more hB⟩
end
/-- P31.1: may an act be? -/
def isActB (a : ActD) : Bool :=
  decide (0 ≤ a.act ∧ a.act ≤ 5) && (!decide (a.act < 2) || decide (0 ≤ a.client ∧ a.client < 16)) && (!decide (a.act = 0) || isCallB a.op) && (!decide (a.act = 4) || decide (a.pages.length ≤ 60))
/-- The numbers behind a word, a blank ahead of each. -/
def numsT (ns : List Int) : List UInt8 := ns.flatMap fun n => 32 :: num n
/-- P31.2: an act that may be, as text. -/
def actT (a : ActD) : List UInt8 :=
  if a.act = 0 then ([99, 97, 108, 108] ++ 32 :: num a.client) ++ 32 :: callT a.op
  else if a.act = 1 then [115, 116, 101, 112] ++ 32 :: num a.client
  else if a.act = 2 then [99, 104, 101, 99, 107]
  else if a.act = 3 then [102, 117, 115, 101] ++ 32 :: num a.n
  else if a.act = 4 then [99, 114, 97, 115, 104] ++ numsT (a.log :: a.pages)
  else [111, 112, 101, 110]
/-- P31.4: what counts of an operation, of an act. -/
def plainOp (x : OpD) : OpD :=
  if 5 < x.act then ⟨x.act, ⟨#[]⟩, [], 0, 0, 0⟩
  else if x.act = 1 then ⟨x.act, x.key, x.data, 0, 0, 0⟩
  else if x.act = 2 then ⟨x.act, x.key, [], x.lo, x.hi, x.n⟩
  else if 3 < x.act then ⟨x.act, x.key, [], 0, 0, x.n⟩
  else ⟨x.act, x.key, [], 0, 0, 0⟩
def op00 : OpD := ⟨0, ⟨#[]⟩, [], 0, 0, 0⟩
def plainAct (a : ActD) : ActD :=
  ⟨a.act, if a.act < 2 then a.client else 0, if a.act = 0 then plainOp a.op else op00, if a.act = 3 then a.n else 0, if a.act = 4 then a.pages else [], if a.act = 4 then a.log else 0⟩
end Go.Proofs.YtgokkbocboonnaaDoor
