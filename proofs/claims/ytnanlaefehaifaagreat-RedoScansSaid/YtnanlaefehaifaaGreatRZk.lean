/-
  A LOG THAT IS GONE THROUGH: what a round of the caller keeps; what is handed; the log as it is read. No walk.
-/
import Derived.Test.YtnanlaefehaifaaGreatRZj
import Derived.Test.YtnanlaefehaifaaGreatRH
import Derived.RangeFuncNested
namespace Go.Proofs.YtnanlaefehaifaaGreat
open Go.RowKit

/-- What is the caller's own: some blocks, and the memory of a slice that lies in a box. -/
def OwnS (Fs : Nat → Prop) (bx : Nat) (W : World) (q : Nat) : Prop := Fs q ∨ ∃ v t fr, W.heap[bx]? = some (.cells #[v] t fr) ∧ v.ownBlock = some q
/-- What a round of the caller keeps: all that is not its own. -/
structure KeepS (Fs : Nat → Prop) (bx N1 : Nat) (W W' : World) : Prop where
  size : W.heap.size ≤ W'.heap.size
  block : ∀ q, q < W.heap.size → ¬ OwnS Fs bx W q → (q < N1 ∨ ∃ o, W.heap[q]? = some o ∧ (o.isCells = true ∨ o.isWalk = true)) → W'.heap[q]? = W.heap[q]?
  own : ∀ q, OwnS Fs bx W' q → OwnS Fs bx W q ∨ W.heap.size ≤ q
section
variable {Fs : Nat → Prop} {bx N1 : Nat}
theorem KeepS.refl (W : World) : KeepS Fs bx N1 W W := ⟨Nat.le_refl _, fun _ _ _ _ => rfl, fun _ h => .inl h⟩
theorem KeepS.trans {A B C : World} (h : KeepS Fs bx N1 A B) (k : KeepS Fs bx N1 B C) : KeepS Fs bx N1 A C := by
  refine ⟨Nat.le_trans h.size k.size, fun q hq hn hc => ?_, fun q hq => ?_⟩
  · have hB := h.block q hq hn hc
    refine (k.block q (Nat.lt_of_lt_of_le hq h.size) (fun ho => ?_) ?_).trans hB
    · rcases h.own q ho with h1 | h1
      · exact hn h1
      · omega
    · rcases hc with hc | ⟨o, ho, hc⟩
      · exact .inl hc
      · exact .inr ⟨o, hB.trans ho, hc⟩
  · rcases k.own q hq with h1 | h1
    · exact h.own q h1
    · exact .inr (Nat.le_trans h.size h1)
theorem OwnS.same {W W' : World} {q : Nat} (h : OwnS Fs bx W' q) (hb : W'.heap[bx]? = W.heap[bx]?) : OwnS Fs bx W q := by
  rcases h with h | ⟨v, t, fr, h1, h2⟩
  · exact .inl h
  · exact .inr ⟨v, t, fr, hb.symm.trans h1, h2⟩
theorem KeepS.of_below {W W' : World} (hb : Below W.heap.size W W') (hx : bx < W.heap.size) : KeepS Fs bx N1 W W' := ⟨hb.size, fun q hq _ _ => hb.block q hq, fun _ hq => .inl (hq.same (hb.block bx hx))⟩
theorem KeepS.putObj {w : World} (hN : N1 ≤ w.heap.size) (hx : bx < N1) (W : World) (l : Nat) (o o' : Obj) (hl : w.heap.size ≤ l) (h : W.heap[l]? = some o) (h1 : o.isCells = false) (h2 : o.isWalk = false) : KeepS Fs bx N1 W (W.putObj l o') := by
  refine ⟨by simp [World.putObj], fun q hq _ hc => World.putObj_heap_other (fun e => ?_), fun _ hq => .inl (hq.same (World.putObj_heap_other (by omega)))⟩
  subst e
  rcases hc with hc | ⟨o2, e2, hc⟩
  · omega
  · rw [h] at e2
    injection e2 with e2
    subst e2
    rcases hc with hc | hc
    · rw [h1] at hc; cases hc
    · rw [h2] at hc; cases hc
/-- A store in a block of the caller's own. -/
theorem KeepS.set {W : World} {p : Addr} (hp : OwnS Fs bx W p.block) (hx : p.block ≠ bx) (u : Value) : KeepS Fs bx N1 W (W.setCell p u) :=
  ⟨by simp [World.setCell], fun q hq hn _ => Below.heap_setCell W p u q (fun e => hn (e ▸ hp)), fun q hq => .inl (hq.same (Below.heap_setCell W p u bx (fun e => hx e.symm)))⟩
end
/-- What is handed: a place, and a record. -/
structure Hnd where
  place : Int
  x : RecV
  p2 : (Lit.int .i64 x.txn).wf = true
  p3 : ∃ A n c, x.pv = .slice A n c
  p4 : ∃ A n c, x.undo.cv = .slice A n c
def Hnd.ent (h : Hnd) : EntD := ⟨h.place, h.x.kind, h.x.txn⟩
def hndArg (h : Hnd) : Array Value := #[.int .i64 h.place, recV h.x]
/-- A record of the log, in memory below N. -/
def RecE (W : World) (N : Nat) (f : Int → Option Value) (e : EntD) : Prop := (Lit.int .i64 e.lsn).wf = true ∧ (Lit.int .i64 e.txn).wf = true ∧ ∃ y L H, f e.lsn = some (recV y) ∧ y.kind = e.kind ∧ y.txn = e.txn ∧ RecSm y ∧ RecIn W L H y ∧ H ≤ N
theorem RecE.keep {W W' : World} {N : Nat} {f : Int → Option Value} {e : EntD} (h : RecE W N f e) (hk : ∀ q, q < N → W'.heap[q]? = W.heap[q]?) : RecE W' N f e := by
  obtain ⟨g1, g2, y, L, H, g3, g4, g5, g6, g7, g8⟩ := h
  exact ⟨g1, g2, y, L, H, g3, g4, g5, g6, g7.keep fun q _ hq => hk q (Nat.lt_of_lt_of_le hq g8), g8⟩
/-- The log as it is gone through: its object, its records, all below N. -/
structure LogQ (W : World) (N l m k : Nat) (cs : Array Value) (f : Int → Option Value) (es : List EntD) : Prop where
  kl : Blk W l 97 cs
  c4 : cs[4]? = some (.map (some m))
  mf : MapF W m k f
  rc : ∀ e ∈ es, RecE W N f e
  ln : l < N
  mn : m < N
/-- .. and the row of the places. -/
structure LogR (W : World) (N l m k L : Nat) (cs : Array Value) (pv : Value) (f : Int → Option Value) (es : List EntD) : Prop where
  q : LogQ W N l m k cs f es
  c5 : cs[5]? = some pv
  op : W.ownsRow L 3 1 pv es.length (es.map fun e => Value.int .i64 e.lsn)
theorem LogQ.keep {W W' : World} {N l m k : Nat} {cs : Array Value} {f : Int → Option Value} {es : List EntD} (h : LogQ W N l m k cs f es) (hk : ∀ q, q < N → W'.heap[q]? = W.heap[q]?) : LogQ W' N l m k cs f es :=
  ⟨(hk l h.ln).trans h.kl, h.c4, h.mf.kept (hk m h.mn), fun e he => (h.rc e he).keep hk, h.ln, h.mn⟩
theorem LogQ.via {W W' : World} {N l m k : Nat} {cs : Array Value} {f : Int → Option Value} {es : List EntD} (h : LogQ W N l m k cs f es) (hb : Below W.heap.size W W') (hN : N ≤ W.heap.size) : LogQ W' N l m k cs f es := h.keep fun q hq => hb.block q (Nat.lt_of_lt_of_le hq hN)
theorem LogR.via {W W' : World} {N l m k L : Nat} {cs : Array Value} {pv : Value} {f : Int → Option Value} {es : List EntD} (h : LogR W N l m k L cs pv f es) (hb : Below W.heap.size W W') (hN : N ≤ W.heap.size) : LogR W' N l m k L cs pv f es := ⟨h.q.via hb hN, h.c5, own_via h.op hb⟩
end Go.Proofs.YtnanlaefehaifaaGreat
