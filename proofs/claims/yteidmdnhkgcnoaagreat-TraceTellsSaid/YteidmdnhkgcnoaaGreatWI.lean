/-
  WALK: serial.Order$1 (the closure 'wrong').
  WALK: serial.Order.
-/
import Derived.Test.YteidmdnhkgcnoaaGreatWA
import Derived.Deep.QuietTactic
import Derived.BigQuiet
import Derived.Test.YteidmdnhkgcnoaaGreatWF
import Derived.Test.YteidmdnhkgcnoaaGreatWG
import Derived.Test.YteidmdnhkgcnoaaGreatMem
import Derived.BigRegion
import Derived.RegionTactic
namespace Go.Proofs.YteidmdnhkgcnoaaGreat
open Go.RowKit
end Go.Proofs.YteidmdnhkgcnoaaGreat
namespace Go.Proofs.YteidmdnhkgcnoaaGreat
open Go.RowKit

/-- The places as they are turned, and what stands there. -/
def AtOk (n : Nat) (xs cur : List DidV) (ps : List Nat) : Prop := ps.length = n ∧ cur.length = n ∧ ∀ j, j < n → ∃ a x, ps[j]? = some a ∧ a < n ∧ xs[a]? = some x ∧ cur[j]? = some x
theorem AtOk.swp {n : Nat} {xs cur : List DidV} {ps : List Nat} {i : Nat} (h : AtOk n xs cur ps) (hi : i + 1 < n) : AtOk n xs (swp cur i) (swp ps i) := by
  obtain ⟨h1, h2, h3⟩ := h
  refine ⟨by rw [swp_length, h1], by rw [swp_length, h2], fun j hj => ?_⟩
  rw [swp_at _ _ _ (by omega), swp_at _ _ _ (by omega)]
  split
  · exact h3 _ hi
  · split
    · exact h3 _ (by omega)
    · exact h3 j hj

/-- What lies in memory while Order goes: the two captured variables, the ranks, the places. -/
structure OSt (w : World) (n : Nat) (rs : List Int) (gR S : Nat) (f : Nat → Value) (wr : World) : Prop where
  kB : Blk wr S 24 #[.slice (some ⟨gR, 0, none⟩) n n]
  kA : wr.rowIs (S + 1) 3 n f
  kX : Blk wr (S + 2) 24 #[.slice (some ⟨S + 1, 0, none⟩) n n]
  kR : Blk wr gR 3 (rs.map (Value.int .i64)).toArray
  b : Below w.heap.size w wr
theorem OSt.start {w w1 : World} {n gR : Nat} {rs : List Int} (kR : Blk w1 gR 3 (rs.map (Value.int .i64)).toArray) (hb : Below w.heap.size w w1) :
    OSt w n rs gR w1.heap.size (fun _ => .int .i64 0) (((w1.alloc (.cells #[.slice (some ⟨gR, 0, none⟩) n n] 24)).alloc (.cells (madeCells #[.int .i64 0] n) 3)).alloc (.cells #[.slice (some ⟨w1.heap.size + 1, 0, none⟩) n n] 24)) := by
  have hz := hb.size
  refine ⟨((Blk.new w1 _ _).alloc _).alloc _, ?_, ?_, ((kR.alloc _).alloc _).alloc _, ((hb.alloc hz _).alloc (by simp; omega) _).alloc (by simp; omega) _⟩
  · have := World.rowIs_made (w1.alloc (.cells #[.slice (some ⟨gR, 0, none⟩) n n] 24)) (.int .i64 0) n 3
    simp only [World.size_alloc] at this
    exact this.alloc _
  · have := Blk.new ((w1.alloc (.cells #[.slice (some ⟨gR, 0, none⟩) n n] 24)).alloc (.cells (madeCells #[.int .i64 0] n) 3)) 24 #[.slice (some ⟨w1.heap.size + 1, 0, none⟩) n n]
    simpa using this
theorem genO {w wr : World} {n gR S : Nat} {rs : List Int} {f : Nat → Value} {R : World → Prop} (h : OSt w n rs gR S f wr) (k : ∀ W, OSt w n rs gR S f W → R W) : R wr := k _ h
theorem OSt.congr {w wr : World} {n gR S : Nat} {rs : List Int} {f f' : Nat → Value} (h : OSt w n rs gR S f wr) (hf : ∀ j, j < n → f j = f' j) : OSt w n rs gR S f' wr := ⟨h.kB, h.kA.congr hf, h.kX, h.kR, h.b⟩
theorem OSt.drewN {w wr : World} {n gR S : Nat} {rs : List Int} {f : Nat → Value} (h : OSt w n rs gR S f wr) (q : Nat) : OSt w n rs gR S f (wr.drewN q) := ⟨h.kB, h.kA, h.kX, h.kR, below_drewN h.b q⟩
theorem OSt.set {w wr : World} {n gR S : Nat} {rs : List Int} {f : Nat → Value} (h : OSt w n rs gR S f wr) (hgS : gR < S) (hwS : w.heap.size ≤ S) (i : Nat) (v : Value) : OSt w n rs gR S (fun j => if j = i then v else f j) (wr.setCell ⟨S + 1, i, none⟩ v) :=
  ⟨h.kB.far (by simp) _, h.kA.set i v, h.kX.far (by simp) _, h.kR.far (by simp; omega) _, h.b.setCell (by simp; omega) _⟩
theorem OSt.via {w wr w' : World} {n gR S : Nat} {rs : List Int} {f : Nat → Value} (h : OSt w n rs gR S f wr) (hwS : w.heap.size ≤ S) (hb : Below wr.heap.size wr w') : OSt w n rs gR S f w' :=
  have hs := h.kB.lt
  ⟨Blk.via hb h.kB, by obtain ⟨c, h1, h2, h3⟩ := h.kA; exact ⟨c, (hb.block _ (Blk.lt (t := 3) (cs := c) h1)).trans h1, h2, h3⟩, Blk.via hb h.kX, Blk.via hb h.kR, h.b.trans (hb.mono (by omega))⟩

theorem at_cells {w W : World} {n gR S j a a' : Nat} {rs : List Int} {ps : List Nat} (h : OSt w n rs gR S (fun t => .int .i64 (ps.getD t 0 : Nat)) W) (h1 : ps[j]? = some a) (h2 : ps[j + 1]? = some a') (hj : j < n) (hj1 : j + 1 < n) :
    W.cell? ⟨S + 1 + 1, 0, none⟩ = some (.slice (some ⟨S + 1, 0, none⟩) n n) ∧ W.cell? ⟨S + 1, j, none⟩ = some (.int .i64 a) ∧ W.cell? ⟨S + 1, j + 1, none⟩ = some (.int .i64 a') :=
  ⟨h.kX.cell 0, by have := h.kA.cell (i := j) hj; simpa [List.getD, h1] using this, by have := h.kA.cell (i := j + 1) hj1; simpa [List.getD, h2] using this⟩

theorem sorted_swp {cur : List DidV} {zs : List Int} {j : Nat} (h : ∀ t (ht : t + 1 < (cur.map (rank zs)).length), t < j → (cur.map (rank zs))[t] ≤ (cur.map (rank zs))[t + 1]) :
    ∀ t (ht : t + 1 < ((swp cur j).map (rank zs)).length), t < j - 1 → ((swp cur j).map (rank zs))[t] ≤ ((swp cur j).map (rank zs))[t + 1] := by
  intro t ht htj
  by_cases hj : j + 1 < cur.length
  · have hl : t + 1 < (cur.map (rank zs)).length := by simpa [swp_length] using ht
    have e1 : ((swp cur j).map (rank zs))[t]? = (cur.map (rank zs))[t]? := by
      rw [swp_map, swp_at _ _ _ (by simpa using hj), if_neg (by omega), if_neg (by omega)]
    have e2 : ((swp cur j).map (rank zs))[t + 1]? = (cur.map (rank zs))[t + 1]? := by
      rw [swp_map, swp_at _ _ _ (by simpa using hj), if_neg (by omega), if_neg (by omega)]
    rw [List.getElem?_eq_getElem (by omega), List.getElem?_eq_getElem (by omega)] at e1 e2
    injection e1 with e1
    injection e2 with e2
    rw [e1, e2]
    exact h t hl (by omega)
  · have : swp cur j = cur := swp_far cur j hj
    simp only [this] at ht ⊢
    exact h t ht (by omega)
theorem ord_swap {w W : World} {n gR S j a a' : Nat} {rs : List Int} {ps : List Nat} (h : OSt w n rs gR S (fun t => .int .i64 (ps.getD t 0 : Nat)) W) (hgS : gR < S) (hwS : w.heap.size ≤ S) (h1 : ps[j]? = some a) (h2 : ps[j + 1]? = some a') (hl : ps.length = n) (hj : j + 1 < n) :
    OSt w n rs gR S (fun t => .int .i64 ((swp ps j).getD t 0 : Nat)) (((W.setCell ⟨S + 1, j, none⟩ (.int .i64 a')).setCell ⟨S + 1, j + 1, none⟩ (.int .i64 a)).drew) := by
  refine OSt.congr (((h.set hgS hwS j (.int .i64 a')).set hgS hwS (j + 1) (.int .i64 a)).drewN 1) (fun t ht => ?_)
  simp only [List.getD, swp_at ps j t (by omega)]
  by_cases e1 : t = j + 1
  · subst e1; simp [h1]
  · by_cases e2 : t = j
    · subst e2; simp [h2]
    · simp [e1, e2]

theorem genT {w wr : World} {n gR S k g i : Nat} {rs : List Int} {f : Nat → Value} {t : TypeId} {cur done : List DidV} {R : World → Prop} (h : OSt w n rs gR S f wr) (h2 : TSt t k g i cur done wr) (kk : ∀ W, OSt w n rs gR S f W → TSt t k g i cur done W → R W) : R wr := kk _ h h2
theorem tcell {w : World} {g : Nat} {t : TypeId} {cs : Array Value} (k : Blk w g t cs) {i : Nat} (hi : i < cs.size) : w.cell? ⟨g, i, none⟩ = some (cs.getD i undef) := by rw [k.cell]; simp [hi]
theorem OSt.touch {w wr w' : World} {n gR S T : Nat} {rs : List Int} {f : Nat → Value} (h : OSt w n rs gR S f wr) (ht : Touch T (T + 1) wr w') (hT : S + 2 < T) (hwS : w.heap.size ≤ S) (hgS : gR < S) : OSt w n rs gR S f w' :=
  ⟨ht.blk h.kB (by omega), by obtain ⟨c, h1, h2, h3⟩ := h.kA; exact ⟨c, (ht.block _ (by omega)).trans h1, h2, h3⟩, ht.blk h.kX (by omega), ht.blk h.kR (by omega), ht.below h.b (by omega)⟩
theorem made_size (k : Nat) : (madeCells (Value.cells (.agg didZ)) (k * 13)).size = k * 13 := by simp [madeCells]

end Go.Proofs.YteidmdnhkgcnoaaGreat
