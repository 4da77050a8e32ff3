/-
  THE ANSWER OF serial.Order, ELEMENT BY ELEMENT: thirteen cells are stored at a time.
-/
import Derived.Test.YtkhckehecnobjaaDoorDid
namespace Go.Proofs.YtkhckehecnobjaaDoor
open Go.RowKit

/-- Values stored one behind the other, from offset o of block g on. -/
def putL (w : World) (g o : Nat) : List Value → World
  | [] => w
  | v :: t => putL (w.setCell ⟨g, o, none⟩ v) g (o + 1) t
def setL (cs : Array Value) (o : Nat) : List Value → Array Value
  | [] => cs
  | v :: t => setL (cs.setIfInBounds o v) (o + 1) t
theorem putL_touch (g : Nat) (vs : List Value) : ∀ (w a : World) (o : Nat), Touch g (g + 1) a w → Touch g (g + 1) a (putL w g o vs) := by
  induction vs with
  | nil => intro w a o h; exact h
  | cons v t ih => intro w a o h; exact ih _ _ _ (h.set (by simp) v)
theorem setL_spec (vs : List Value) : ∀ (cs : Array Value) (o : Nat), o + vs.length ≤ cs.size → (setL cs o vs).size = cs.size ∧ (∀ q, (q < o ∨ o + vs.length ≤ q) → (setL cs o vs)[q]? = cs[q]?) ∧ ∀ (j : Nat) u, vs[j]? = some u → (setL cs o vs)[o + j]? = some u := by
  induction vs with
  | nil => intro cs o _; exact ⟨rfl, fun _ _ => rfl, fun j u hu => by simp at hu⟩
  | cons v t ih =>
    intro cs o ho
    simp only [List.length_cons] at ho
    obtain ⟨h1, h2, h3⟩ := ih (cs.setIfInBounds o v) (o + 1) (by simp; omega)
    refine ⟨by simpa [setL] using h1, fun q hq => ?_, fun j u hu => ?_⟩
    · simp only [List.length_cons] at hq
      show (setL (cs.setIfInBounds o v) (o + 1) t)[q]? = _
      rw [h2 q (by omega), Array.getElem?_setIfInBounds, if_neg (by omega)]
    · show (setL (cs.setIfInBounds o v) (o + 1) t)[o + j]? = _
      cases j with
      | zero =>
        simp only [List.getElem?_cons_zero, Option.some.injEq] at hu
        subst hu
        rw [h2 (o + 0) (by omega), Array.getElem?_setIfInBounds, if_pos (by omega), if_pos (by omega)]
      | succ j =>
        have := h3 j u (by simpa using hu)
        rwa [show o + 1 + j = o + (j + 1) by omega] at this
theorem putL_blk {g : Nat} {t : TypeId} (vs : List Value) : ∀ {w : World} {cs : Array Value} (o : Nat), Blk w g t cs → Blk (putL w g o vs) g t (setL cs o vs) := by
  induction vs with
  | nil => intro w cs o k; exact k
  | cons v r ih => intro w cs o k; exact ih _ (k.set_ o v)

/-- What has been told so far. -/
structure TSt (t : TypeId) (k g i : Nat) (cur done : List DidV) (W : World) : Prop where
  len : done.length = i
  eqd : done.map DidV.d = (cur.take i).map DidV.d
  blk : ∃ cs : Array Value, Blk W g t cs ∧ cs.size = k * 13 ∧ ∀ (q : Nat) (u : Value), (done.flatMap DidV.cells)[q]? = some u → cs[q]? = some u
  ok : ∀ y ∈ done, DidOk W W.heap.size y ∧ Fresh (g + 1) y.dv ∧ Fresh (g + 1) y.cv
theorem DidOk.keepIn {w w' : World} {L B : Nat} {x : DidV} (h : DidOk w B x) (h1 : Fresh L x.dv) (h2 : Fresh L x.cv) (hk : ∀ q, L ≤ q → q < B → w'.heap[q]? = w.heap[q]?) : DidOk w' B x := ⟨h.1.keepIn h1 hk, h.2.keepIn h2 hk⟩
theorem TSt.step {t : TypeId} {k g i : Nat} {cur done : List DidV} {W w' : World} {x y : DidV} (h : TSt t k g i cur done W) (hik : i < k) (hx : cur[i]? = some x) (hb : Below W.heap.size W w') (hy : y.d = x.d) (hok : DidOk w' w'.heap.size y) (hf1 : Fresh W.heap.size y.dv) (hf2 : Fresh W.heap.size y.cv) :
    TSt t k g (i + 1) cur (done ++ [y]) (putL w' g (i * 13) y.cells) := by
  obtain ⟨cs, hk, hcs, hcl⟩ := h.blk
  have hgz := hk.lt
  have k' := Blk.via hb hk
  have hlt : i * 13 + 13 ≤ cs.size := by rw [hcs]; have := Nat.mul_le_mul_right 13 (show i + 1 ≤ k from hik); omega
  have k2 := putL_blk y.cells (i * 13) k'
  obtain ⟨hs2, hq2, hj2⟩ := setL_spec y.cells cs (i * 13) (by rw [DidV.cells_length]; exact hlt)
  have htch := putL_touch g y.cells w' w' (i * 13) (Touch.refl _)
  have hz := hb.size
  have hz2 := htch.size
  refine ⟨by simp [h.len], ?_, ⟨_, k2, by omega, fun q u hu => ?_⟩, fun z hz => ?_⟩
  · obtain ⟨hi, e⟩ := List.getElem?_eq_some_iff.1 hx
    rw [List.take_succ_eq_append_getElem hi, List.map_append, List.map_append, h.eqd, e]
    simp [hy]
  · rw [List.flatMap_append] at hu
    have hfl : (done.flatMap DidV.cells).length = i * 13 := by rw [flat_length _ 13 DidV.cells_length, h.len]
    by_cases hqi : q < i * 13
    · rw [List.getElem?_append_left (by omega)] at hu
      rw [hq2 q (.inl hqi)]
      exact hcl q u hu
    · rw [List.getElem?_append_right (by omega), hfl] at hu
      have := hj2 (q - i * 13) u (by simpa using hu)
      rwa [show i * 13 + (q - i * 13) = q by omega] at this
  · rcases List.mem_append.1 hz with hz | hz
    · obtain ⟨o1, o2, o3⟩ := h.ok z hz
      refine ⟨DidOk.more (o1.keepIn o2 o3 (fun q h1 h2 => ?_)) (B := W.heap.size) (by omega), o2, o3⟩
      rw [htch.block q (by omega), hb.block q h2]
    · rw [List.mem_singleton] at hz
      subst hz
      refine ⟨DidOk.more (hok.keepIn (L := W.heap.size) hf1 hf2 (fun q h1 h2 => ?_)) (B := w'.heap.size) (by omega), hf1.mono (by omega), hf2.mono (by omega)⟩
      rw [htch.block q (by omega)]
theorem TSt.dids {t : TypeId} {k g : Nat} {cur done : List DidV} {W : World} (h : TSt t k g k cur done W) : Dids W W.heap.size (some ⟨g, 0, none⟩) k done := by
  obtain ⟨cs, hk, hcs, hcl⟩ := h.blk
  refine ⟨h.len.symm, ⟨by rw [flat_length _ 13 DidV.cells_length, h.len], fun _ => ⟨_, rfl, hk.lt, fun j u hu => ?_⟩⟩, fun y hy => (h.ok y hy).1⟩
  rw [add_plain, Nat.zero_add, hk.cell]
  exact hcl j u hu
end Go.Proofs.YtkhckehecnobjaaDoor
