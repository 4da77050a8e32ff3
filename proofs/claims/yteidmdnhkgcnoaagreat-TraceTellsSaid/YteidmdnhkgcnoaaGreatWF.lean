/-
  WALK: serial.ranksOf: of each of l the first place of its transaction in order.
-/
import Derived.Test.YteidmdnhkgcnoaaGreatWA
import Derived.Maps.OwnSet
import Derived.Maps.OwnOps
import Derived.Maps.Own
import Derived.Deep.OwnRows
namespace Go.Proofs.YteidmdnhkgcnoaaGreat
open Go.RowKit Go.Maps

theorem law_int : Keyed Tryz.prog 3 := int_keyed Tryz.underlying3
theorem zero_int (w : World) : (zeroValue 3).run Tryz.prog w = .ok (.int .i64 0) w := by kernel_rfl
theorem info_int : (Tryz.prog.info? 3).map (fun i => (i.zero, i.size, i.bytes)) = some (some (.int .i64 0), 1, 8) := by kernel_rfl
theorem run_makeMap_hint {P : Program} (t k e : TypeId) (kd : IntKind) (n : Int) (ht : P.underlying t = some (.map k e)) (w : World) :
    (Instr.makeMap t (some (.int kd n))).run P w = .ok (.map (some w.heap.size)) (w.alloc (.map #[] 0)) := by
  simp [Instr.makeMap, run_underlying ht]; rfl

/-- The map 'first': of each number of l its first place. -/
def RankMap (D : DataW Unit) (l : List Int) : Prop :=
  ∀ x : Int, Maps.has D (.int .i64 x) = decide (x ∈ l) ∧ (x ∈ l → D.atKey (.int .i64 x) (.lit (.int .i64 0)) = .lit (.int .i64 (plc l x)))
theorem RankMap.start : RankMap (.map []) [] := fun x => ⟨by simp [Maps.has], fun h => by cases h⟩
theorem RankMap.old {D : DataW Unit} {l : List Int} {y : Int} (h : RankMap D l) (hy : y ∈ l) : RankMap D (l ++ [y]) := fun x => by
  have he : x ∈ l ++ [y] ↔ x ∈ l := by
    simp only [List.mem_append, List.mem_singleton]
    exact ⟨fun h => by rcases h with h | rfl <;> assumption, Or.inl⟩
  refine ⟨by rw [(h x).1]; simp only [he], fun hx => ?_⟩
  rw [plc_snoc_mem y (he.1 hx)]
  exact (h x).2 (he.1 hx)
theorem RankMap.new {D : DataW Unit} {l : List Int} {y : Int} (h : RankMap D l) (hm : IsMap D) (hy : y ∉ l) : RankMap (D.put (.int .i64 y) (.lit (.int .i64 (l.length : Int)))) (l ++ [y]) := fun x => by
  by_cases hx : x = y
  · subst hx
    refine ⟨by rw [has_put_same hm (by trivial)]; simp, fun _ => ?_⟩
    rw [atKey_put_same hm (by trivial), plc_snoc_new hy]
  · have hk : Lit.int .i64 x ≠ Lit.int .i64 y := fun e => hx (by injection e)
    have he : x ∈ l ++ [y] ↔ x ∈ l := by simp [hx]
    refine ⟨by rw [has_put_other hk, (h x).1]; simp only [he], fun hm' => ?_⟩
    rw [atKey_put_other hk, plc_snoc_mem y (he.1 hm')]
    exact (h x).2 (he.1 hm')

theorem take_snoc' {α : Type} {l : List α} {k : Nat} {x : α} (h : l[k]? = some x) : l.take (k + 1) = l.take k ++ [x] := by
  obtain ⟨hk, e⟩ := List.getElem?_eq_some_iff.1 h
  rw [List.take_succ_eq_append_getElem hk, e]
theorem gen1' {H : Type} {P : Program} {k : TypeId} {E : Value → Option (DataW H × List MemPlace)} {b q : Nat} {D : DataW H} {wr : World} {o : Obj} {G n B : Nat} {t : TypeId} {f : Nat → Value} {w : World} {R : World → Prop}
    (h1 : (wr.alloc o).ownsMap P k E b q D) (h2 : (wr.alloc o).rowIs G t n f) (h3 : Below B w (wr.alloc o)) (h : ∀ W, W.ownsMap P k E b q D → W.rowIs G t n f → Below B w W → R W) : R (wr.alloc o) := h _ h1 h2 h3

/-- What ranksOf tells: each one's rank, if all have one. -/
def RanksPost (w : World) (n : Nat) (xs : List DidV) (zs : List Int) (e : Ending) (w' : World) : Prop :=
  (((∀ x ∈ xs, 0 ≤ rank zs x) ∧ ∃ g, w.heap.size ≤ g ∧ e = .returned (.tuple #[.slice (some ⟨g, 0, none⟩) n n, .bool true]) ∧ Blk w' g 3 ((xs.map (rank zs)).map (Value.int .i64)).toArray) ∨
    ((∃ x ∈ xs, rank zs x < 0) ∧ e = .returned (.tuple #[.slice none 0 0, .bool false]))) ∧ Below w.heap.size w w'
theorem blk_of_rowIs {w : World} {g n : Nat} {t : TypeId} {f : Nat → Value} {l : List Value} (h : w.rowIs g t n f) (hl : l.length = n) (hf : ∀ i, i < n → l[i]? = some (f i)) : Blk w g t l.toArray := by
  obtain ⟨cc, h1, h2, h3⟩ := h
  have : cc = l.toArray := by
    apply Array.ext_getElem?
    intro i
    by_cases hi : i < n
    · rw [h3 i hi]; simp [hf i hi]
    · rw [Array.getElem?_eq_none (by omega), Array.getElem?_eq_none (by simp; omega)]
  rw [← this]
  exact h1

end Go.Proofs.YteidmdnhkgcnoaaGreat
