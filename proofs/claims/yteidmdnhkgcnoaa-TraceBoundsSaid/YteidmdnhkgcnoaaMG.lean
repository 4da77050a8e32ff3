/-
  WALK: moneyerref09.move.
-/
import Derived.Test.YteidmdnhkgcnoaaMF
import Derived.Test.YteidmdnhkgcnoaaMB
import Derived.Deep.DeepCutAuto
import Derived.Deep.DrawnRows
namespace Go.Proofs.Yteidmdnhkgcnoaa
open Go.RowKit BigFrame
attribute [local go_sem ↓] Go.wp_at_zero Go.wp_at_succ

/-- What a counter's move gives. -/
def moveV (x : OpD) (c : CellD) : Int := if x.act = 5 then c.val - x.n else c.val + x.n
def moveR (x : OpD) (c : CellD) : CellD × Int :=
  if c.kind ≠ 2 then (c, 6) else if moveV x c < c.lo ∨ c.hi < moveV x c then (c, 8) else ({ c with val := moveV x c }, 0)

/-- What lies in memory while move goes: the operation, the cell, the result. -/
structure MvSt (w : World) (x : OpD) (c : CellD) (v1 v2 : Value) (W : World) : Prop where
  k0 : Blk W w.heap.size 31 #[.int .i64 x.act, .string x.key, v1, .int .i64 x.lo, .int .i64 x.hi, .int .i64 x.n]
  k1 : Blk W (w.heap.size + 1) 27 #[.int .i64 c.kind, v2, .int .i64 c.lo, .int .i64 c.hi, .int .i64 c.val]
  k2 : Blk W (w.heap.size + 2) 27 #[.int .i64 0, .slice none 0 0, .int .i64 0, .int .i64 0, .int .i64 0]
  b : Below w.heap.size w W
section
variable {w W W' : World} {x : OpD} {c : CellD} {v1 v2 : Value}
theorem MvSt.lt (h : MvSt w x c v1 v2 W) : w.heap.size + 3 ≤ W.heap.size := h.k2.lt
theorem MvSt.drew (h : MvSt w x c v1 v2 W) : MvSt w x c v1 v2 W.drew := ⟨h.k0, h.k1, h.k2, h.b.drew⟩
theorem MvSt.alloc (h : MvSt w x c v1 v2 W) (o : Obj) : MvSt w x c v1 v2 (W.alloc o) := ⟨h.k0.alloc _, h.k1.alloc _, h.k2.alloc _, h.b.alloc (by have := h.lt; omega) _⟩
theorem MvSt.via (h : MvSt w x c v1 v2 W) (hb : Below W.heap.size W W') : MvSt w x c v1 v2 W' := ⟨Blk.via hb h.k0, Blk.via hb h.k1, Blk.via hb h.k2, below_via h.b hb (by have := h.lt; omega)⟩
theorem MvSt.set (h : MvSt w x c v1 v2 W) {g i : Nat} (hg : w.heap.size + 3 ≤ g) (u : Value) : MvSt w x c v1 v2 (W.setCell ⟨g, i, none⟩ u) :=
  ⟨h.k0.far (by simp; omega) _, h.k1.far (by simp; omega) _, h.k2.far (by simp; omega) _, h.b.setCell (by simp; omega) _⟩
theorem MvSt.two (h : MvSt w x c v1 v2 W) : W.cell? ⟨w.heap.size, 5, none⟩ = some (.int .i64 x.n) ∧ W.cell? ⟨w.heap.size + 1, 4, none⟩ = some (.int .i64 c.val) := ⟨h.k0.cell 5, h.k1.cell 4⟩
theorem MvSt.start (w : World) (x : OpD) (c : CellD) (v1 v2 : Value) : MvSt w x c v1 v2 (((w.alloc (.cells #[.int .i64 x.act, .string x.key, v1, .int .i64 x.lo, .int .i64 x.hi, .int .i64 x.n] 31)).alloc (.cells #[.int .i64 c.kind, v2, .int .i64 c.lo, .int .i64 c.hi, .int .i64 c.val] 27)).alloc (.cells #[.int .i64 0, .slice none 0 0, .int .i64 0, .int .i64 0, .int .i64 0] 27)) :=
  ⟨((Blk.new w _ _).alloc _).alloc _, (show Blk ((w.alloc (.cells #[.int .i64 x.act, .string x.key, v1, .int .i64 x.lo, .int .i64 x.hi, .int .i64 x.n] 31)).alloc (.cells #[.int .i64 c.kind, v2, .int .i64 c.lo, .int .i64 c.hi, .int .i64 c.val] 27)) (w.heap.size + 1) 27 _ by simpa using Blk.new (w.alloc (.cells #[.int .i64 x.act, .string x.key, v1, .int .i64 x.lo, .int .i64 x.hi, .int .i64 x.n] 31)) 27 #[.int .i64 c.kind, v2, .int .i64 c.lo, .int .i64 c.hi, .int .i64 c.val]).alloc _,
   by simpa using Blk.new ((w.alloc (.cells #[.int .i64 x.act, .string x.key, v1, .int .i64 x.lo, .int .i64 x.hi, .int .i64 x.n] 31)).alloc (.cells #[.int .i64 c.kind, v2, .int .i64 c.lo, .int .i64 c.hi, .int .i64 c.val] 27)) 27 #[.int .i64 0, .slice none 0 0, .int .i64 0, .int .i64 0, .int .i64 0],
   (below2 _ _ _).alloc (by simp; omega) _⟩
theorem genM {R : World → Prop} (h : MvSt w x c v1 v2 W) (k : ∀ W, MvSt w x c v1 v2 W → R W) : R W := k W h
end
end Go.Proofs.Yteidmdnhkgcnoaa
