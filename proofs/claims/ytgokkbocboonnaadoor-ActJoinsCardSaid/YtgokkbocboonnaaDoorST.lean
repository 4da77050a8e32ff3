/-
  EVENTS AS TEXT (P31.2, P39.1, P40.1): plain, no program.
-/
import Derived.Test.YtgokkbocboonnaaDoorSA
import Derived.Test.YtgokkbocboonnaaDoorMem
namespace Go.Proofs.YtgokkbocboonnaaDoor
open Go.RowKit

/-! ### texts -/
def hexC (n : Nat) : UInt8 := [48, 49, 50, 51, 52, 53, 54, 55, 56, 57, 97, 98, 99, 100, 101, 102].getD n 0
def hexB (b : UInt8) : List UInt8 := [hexC (b.toNat / 16), hexC (b.toNat % 16)]
/-- Bytes as text. -/
def hexT (bs : List UInt8) : List UInt8 := if bs = [] then [45] else bs.flatMap hexB
theorem hexT_len (bs : List UInt8) : (hexT bs).length ≤ 2 * bs.length + 1 := by
  unfold hexT
  split
  · simp
  · have : ∀ l : List UInt8, (l.flatMap hexB).length = 2 * l.length := fun l => by
      induction l with
      | nil => rfl
      | cons a t ih => simp only [List.flatMap_cons, List.length_append, ih, hexB, List.length_cons, List.length_nil]; omega
    rw [this]
    omega
abbrev num (n : Int) : List UInt8 := Lib.itoa n
/-- P31.2: what is called for. -/
def callT (x : OpD) : List UInt8 :=
  if x.act = 6 then [98, 101, 103, 105, 110] else if x.act = 7 then [99, 111, 109, 109, 105, 116] else if x.act = 8 then [97, 98, 111, 114, 116]
  else if x.act = 0 then [114, 101, 97, 100] ++ 32 :: x.key.data.toList
  else if x.act = 1 then [119, 114, 105, 116, 101] ++ 32 :: (x.key.data.toList ++ 32 :: hexT x.data)
  else if x.act = 2 then [99, 114, 101, 97, 116, 101] ++ 32 :: (x.key.data.toList ++ 32 :: (num x.lo ++ 32 :: (num x.hi ++ 32 :: num x.n)))
  else if x.act = 3 then [100, 114, 111, 112] ++ 32 :: x.key.data.toList
  else if x.act = 4 then [105, 110, 99] ++ 32 :: (x.key.data.toList ++ 32 :: num x.n)
  else [100, 101, 99] ++ 32 :: (x.key.data.toList ++ 32 :: num x.n)
/-- May a client call for it? -/
def isCallB (x : OpD) : Bool := decide (x.act = 6) || decide (x.act = 7) || decide (x.act = 8) || goodOp x
def opT (x : OpD) : List UInt8 := if isCallB x = true then callT x else [63]
def cellT (c : CellD) : List UInt8 :=
  if c.kind = 1 then [114, 101, 99, 111, 114, 100, 32] ++ hexT c.data
  else if c.kind = 2 then [99, 111, 117, 110, 116, 101, 114, 32] ++ (num c.lo ++ 32 :: (num c.hi ++ 32 :: num c.val))
  else [110, 111, 110, 101]
def isZero (c : CellD) : Bool := decide (c.kind = 0) && decide (c.data = []) && decide (c.lo = 0) && decide (c.hi = 0) && decide (c.val = 0)
def ansT (er : Int) (c : CellD) : List UInt8 :=
  if er ≠ 0 then [101, 114, 114, 111, 114, 32] ++ num er else if isZero c = true then [100, 111, 110, 101] else cellT c
def happT (x : EvD) : List UInt8 :=
  if x.act = 0 then [98, 101, 103, 105, 110]
  else if x.act = 1 then opT x.op ++ 32 :: 61 :: 32 :: ansT x.err x.cell
  else if x.act = 2 then [99, 111, 109, 109, 105, 116]
  else if x.act = 3 then [101, 110, 100]
  else if x.act = 4 then (if x.err ≠ 0 then [97, 98, 111, 114, 116, 32, 101, 114, 114, 111, 114, 32] ++ num x.err else [97, 98, 111, 114, 116])
  else [63]
/-- P40.1: an event's line. -/
def lineT (x : EvD) : List UInt8 := num x.txn ++ 32 :: (num x.client ++ 32 :: happT x)
def linesT (l : List EvD) : List UInt8 := l.flatMap fun x => lineT x ++ [10]

/-! ### how long they are -/
def OpSm (x : OpD) : Prop := x.key.size ≤ 1000 ∧ x.data.length ≤ 1000 ∧ inI x.act ∧ inI x.lo ∧ inI x.hi ∧ inI x.n
def CellSm (c : CellD) : Prop := c.data.length ≤ 1000 ∧ inI c.kind ∧ inI c.lo ∧ inI c.hi ∧ inI c.val
def EvSm (x : EvD) : Prop := OpSm x.op ∧ CellSm x.cell ∧ inI x.err ∧ inI x.txn ∧ inI x.client ∧ inI x.act
theorem num_len {n : Int} (h : inI n) : (num n).length ≤ 21 := itoa_len n h.1 h.2
theorem key_len (k : ByteArray) : k.data.toList.length = k.size := Array.length_toList (xs := k.data)
theorem callT_len {x : OpD} (h : OpSm x) : (callT x).length ≤ 4000 := by
  obtain ⟨h1, h2, _, h4, h5, h6⟩ := h
  have a1 := num_len h4
  have a2 := num_len h5
  have a3 := num_len h6
  have a4 := hexT_len x.data
  have a5 := key_len x.key
  unfold callT
  repeat' split
  all_goals (simp only [List.length_append, List.length_cons, List.length_nil]; omega)
theorem opT_len {x : OpD} (h : OpSm x) : (opT x).length ≤ 4000 := by
  unfold opT
  split
  · exact callT_len h
  · simp
theorem cellT_len {c : CellD} (h : CellSm c) : (cellT c).length ≤ 4000 := by
  obtain ⟨h2, _, h4, h5, h6⟩ := h
  have a1 := num_len h4
  have a2 := num_len h5
  have a3 := num_len h6
  have a4 := hexT_len c.data
  unfold cellT
  repeat' split
  all_goals (simp only [List.length_append, List.length_cons, List.length_nil]; omega)
theorem ansT_len {er : Int} {c : CellD} (h0 : inI er) (h : CellSm c) : (ansT er c).length ≤ 4000 := by
  have a1 := num_len h0
  have a2 := cellT_len h
  unfold ansT
  repeat' split
  all_goals (first | exact a2 | (simp only [List.length_append, List.length_cons, List.length_nil]; omega))
theorem happT_len {x : EvD} (h : EvSm x) : (happT x).length ≤ 9000 := by
  obtain ⟨h1, h2, h3, _⟩ := h
  have a1 := num_len h3
  have a2 := opT_len h1
  have a3 := ansT_len h3 h2
  unfold happT
  repeat' split
  all_goals (simp only [List.length_append, List.length_cons, List.length_nil]; omega)
theorem lineT_len {x : EvD} (h : EvSm x) : (lineT x).length ≤ 9999 := by
  have a1 := num_len h.2.2.2.1
  have a2 := num_len h.2.2.2.2.1
  have a3 := happT_len h
  unfold lineT
  simp only [List.length_append, List.length_cons]
  omega
theorem linesT_len {l : List EvD} (h : ∀ x ∈ l, EvSm x) : (linesT l).length ≤ 10000 * l.length := by
  induction l with
  | nil => simp [linesT]
  | cons a t ih =>
    have h1 := lineT_len (h a (by simp))
    have h2 := ih (fun x hx => h x (by simp [hx]))
    unfold linesT at h2 ⊢
    simp only [List.flatMap_cons, List.length_append, List.length_cons, List.length_nil] at h2 ⊢
    omega
end Go.Proofs.YtgokkbocboonnaaDoor
