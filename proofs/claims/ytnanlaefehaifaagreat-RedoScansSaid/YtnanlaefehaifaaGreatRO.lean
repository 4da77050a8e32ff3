/-
  BYTES OF THE PROGRAM'S OWN.
-/
import Derived.Test.YtnanlaefehaifaaGreatMem
namespace Go.Proofs.YtnanlaefehaifaaGreat
open Go.RowKit

theorem row_keep {W W' : World} {base n : Nat} {e : TypeId} {size : Nat} {v : Value} {xs : List Value} (h : W.ownsRow base e size v n xs) (hk : ∀ q, v.ownBlock = some q → W'.heap[q]? = W.heap[q]?) : W'.ownsRow base e size v n xs := by
  obtain ⟨h1, h2 | ⟨g, cap, cur, e, hg, hh, r⟩⟩ := h
  · exact ⟨h1, .inl h2⟩
  · exact ⟨h1, .inr ⟨g, cap, cur, e, hg, (hk g (by rw [e]; rfl)).trans hh, r⟩⟩
theorem row_obj {W : World} {base n : Nat} {e : TypeId} {size : Nat} {v : Value} {xs : List Value} (h : W.ownsRow base e size v n xs) {q : Nat} (hq : v.ownBlock = some q) : ∃ cur, W.heap[q]? = some (.cells cur e (0, 0)) := by
  obtain ⟨h1, ⟨rfl, h2⟩ | ⟨g, cap, cur, rfl, hg, hh, r⟩⟩ := h
  · cases hq
  · obtain rfl : g = q := by simpa [Value.ownBlock] using hq
    exact ⟨cur, hh⟩
/-- Bytes of the program's own, in blocks from 'base' on. -/
def OwnB (w : World) (base : Nat) (v : Value) (bs : List UInt8) : Prop := w.ownsRow base 5 1 v bs.length (bs.map byteV)
section
variable {w w' : World} {base base' : Nat} {v : Value} {bs : List UInt8}
theorem OwnB.nil (w : World) (base : Nat) : OwnB w base (.slice none 0 0) [] := World.ownsRow_nil _ _ _ _
theorem OwnB.low (h : OwnB w base v bs) (hb : base' ≤ base) : OwnB w base' v bs := by
  obtain ⟨h1, h2 | ⟨g, cap, cur, e, hg, r⟩⟩ := h
  · exact ⟨h1, .inl h2⟩
  · exact ⟨h1, .inr ⟨g, cap, cur, e, Nat.le_trans hb hg, r⟩⟩
theorem OwnB.keep (h : OwnB w base v bs) (hk : ∀ q, v.ownBlock = some q → w'.heap[q]? = w.heap[q]?) : OwnB w' base v bs := by
  obtain ⟨h1, h2 | ⟨g, cap, cur, e, hg, hh, r⟩⟩ := h
  · exact ⟨h1, .inl h2⟩
  · exact ⟨h1, .inr ⟨g, cap, cur, e, hg, (hk g (by rw [e]; rfl)).trans hh, r⟩⟩
theorem OwnB.lt (h : OwnB w base v bs) : ∀ q, v.ownBlock = some q → base ≤ q ∧ q < w.heap.size := World.ownsRow.lt h
theorem OwnB.via (h : OwnB w base v bs) (hb : Below w.heap.size w w') : OwnB w' base v bs := h.keep fun q hq => hb.block q (h.lt q hq).2
theorem OwnB.alloc (h : OwnB w base v bs) (o : Obj) : OwnB (w.alloc o) base v bs := World.ownsRow.alloc h o
theorem OwnB.touch {L H : Nat} (h : OwnB w base v bs) (ht : Touch L H w w') (hH : H ≤ base) : OwnB w' base v bs := h.keep fun q hq => ht.block q (.inr (Nat.le_trans hH (h.lt q hq).1))
theorem OwnB.far {g i : Nat} {t : TypeId} {cs : Array Value} (h : OwnB w base v bs) (k : Blk w g t cs) (hne : t ≠ 5) (u : Value) : OwnB (w.setCell ⟨g, i, none⟩ u) base v bs := h.keep fun q hq => by
  refine Below.heap_setCell w ⟨g, i, none⟩ u q ?_
  intro e
  have e' : q = g := e
  obtain ⟨h1, ⟨rfl, h2⟩ | ⟨g', cap, cur, rfl, hg, hh, r⟩⟩ := h
  · cases hq
  · have : g' = q := by simpa [Value.ownBlock] using hq
    rw [this, e'] at hh
    unfold Blk at k
    rw [hh] at k
    injection k with k
    injection k with _ k
    exact hne k.symm
theorem OwnB.bytes (h : OwnB w base v bs) : BytesAt w w.heap.size v bs := BytesAt.of_own h
theorem OwnB.form (h : OwnB w base v bs) : ∃ A n c, v = .slice A n c := by
  obtain ⟨A, c, e, _⟩ := own_slice h
  exact ⟨A, _, c, e⟩
end
end Go.Proofs.YtnanlaefehaifaaGreat
