/-
  FROM THE READING OF THE ARGUMENTS TO 'Pairs': a []api.Pair that came in.
  FROM THE READING OF THE ARGUMENTS TO 'Evs': a []api.Event that came in.
-/
import Derived.Test.YteidmdnhkgcnoaaGreatOpen
import Derived.Test.YteidmdnhkgcnoaaGreatMem
namespace Go.Proofs.YteidmdnhkgcnoaaGreat
open Go.RowKit Go.ChangeShapes Go.WideShapes Go.Deep

theorem cells_pair : Tryz.prog.cellsOf 55 = 6 := by kernel_rfl
theorem inI_of {z : Int} (h : wfI z) : inI z := bounds_i64 h
theorem opWf_of {d : DidD} (h : DidWf d) : OpWf d.op := by
  obtain ⟨_, _, h2, h3, h4, h5, _⟩ := h
  unfold maxLen at h5
  exact ⟨inI_of h2, inI_of h3, inI_of h4, by omega⟩

section
variable {H : Type} {enc : TypeId × Value → H} {w : World} {base : Nat} {spare : Nat → Bool} {held : Bool}
theorem open_pair {fuel : Nat} {cs : List Value} {x : DataW H × List MemPlace} (h : DataW.trod enc Tryz.prog w base spare held fuel 55 cs = some x) :
    ∃ v : PairV, cs = v.cells ∧ PairOk w w.heap.size v ∧ CellWf v.d.cell ∧ v.d.key.size ≤ maxLen := by
  obtain ⟨xs, n, _, _, hlen, hxl, hf⟩ := DataW.trod_struct Tryz.underlying55 h
  rw [cells_pair] at hlen
  have hxl' : xs.length = 2 := hxl
  obtain ⟨c0, c1, c2, c3, c4, c5, rfl⟩ := list_of6 hlen
  obtain ⟨y0, j0⟩ := some_of (hf 0 _ rfl) hxl' (by omega)
  have g0 : DataW.trod enc Tryz.prog w base spare held n 9 [c0] = some y0 := by simpa [cells_string] using j0
  obtain ⟨y1, j1⟩ := some_of (hf 1 _ rfl) hxl' (by omega)
  have g1 : DataW.trod enc Tryz.prog w base spare held n 34 [c1, c2, c3, c4, c5] = some y1 := by simpa [cells_cell] using j1
  obtain ⟨ks, e0, _, w0⟩ := DataW.trod_string Tryz.underlying9 g0
  obtain ⟨d, dv, e1, hb, _, h2, h3, h4⟩ := open_cell g1
  simp only [List.cons.injEq, and_true] at e0
  subst e0
  exact ⟨⟨⟨ks, d⟩, dv⟩, by rw [e1]; rfl, hb, ⟨inI_of h2, inI_of h3, inI_of h4⟩, w0⟩

/-- A []api.Pair that came in. -/
theorem open_pairs {fuel : Nat} {A : Option Addr} {n c : Nat} {x : DataW H × List MemPlace} (h : DataW.trod enc Tryz.prog w base spare held fuel 22 [.slice A n c] = some x) :
    ∃ xs : List PairV, Pairs w w.heap.size A n xs ∧ n ≤ c ∧ c ≤ maxLen ∧ ∀ v ∈ xs, CellWf v.d.cell ∧ v.d.key.size ≤ maxLen := by
  rcases open_slice Tryz.underlying22 h with ⟨hcs, _⟩ | ⟨a, len, cap, m, fl, D, Pl, hcs, hb, hl, hm, hmm, hx, hi⟩
  · injection hcs with hcs
    injection hcs with e1 e2 e3
    subst e1 e2 e3
    exact ⟨[], ⟨rfl, Reads.none_, fun v hv => by cases hv⟩, Nat.le_refl _, Nat.zero_le _, fun v hv => by cases hv⟩
  · injection hcs with hcs
    injection hcs with e1 e2 e3
    subst e1 e2 e3
    have hlm : n ≤ m := by rw [hmm]; split <;> omega
    have hex : ∀ i, i < n → ∃ v : PairV, (∀ j u, v.cells[j]? = some u → w.cell? (a.add (i * 6 + j)) = some u) ∧ PairOk w w.heap.size v ∧ CellWf v.d.cell ∧ v.d.key.size ≤ maxLen := fun i hin => by
      obtain ⟨cs', hc, ht⟩ := hi i (by omega)
      rw [cells_pair] at hc
      obtain ⟨v, rfl, hok, hwf⟩ := open_pair ht
      obtain ⟨_, _, hat⟩ := World.cells?_some hc
      refine ⟨v, fun j u hu => ?_, hok, hwf⟩
      have hj : j < 6 := by
        have := (List.getElem?_eq_some_iff.1 hu).1
        rwa [PairV.cells_length] at this
      rw [← Go.Deep.add_add, hat j hj, hu]
    obtain ⟨f, hf⟩ := @Go.Deep.choose_lt PairV ⟨⟨⟨.empty, ⟨0, [], 0, 0, 0⟩⟩, undef⟩⟩ n _ hex
    refine ⟨(List.range n).map f, ⟨by simp, ⟨by rw [flat_length _ 6 PairV.cells_length]; simp, fun hn => ⟨a, rfl, ?_, fun j u hu => ?_⟩⟩, fun v hv => ?_⟩, hl, hm, fun v hv => ?_⟩
    · exact cell_lt' ((hf 0 hn).1 0 _ rfl)
    · have hj : j < n * 6 := by
        have := (List.getElem?_eq_some_iff.1 hu).1
        rw [flat_length _ 6 PairV.cells_length] at this
        simpa using this
      have h1 : j / 6 < n := by omega
      have h2 : j = (j / 6) * 6 + j % 6 := by omega
      rw [h2, flat_at _ 6 PairV.cells_length _ _ _ (Nat.mod_lt _ (by omega))] at hu
      simp only [List.getElem?_map, List.getElem?_range h1, Option.map_some, Option.bind_some] at hu
      rw [h2]
      exact (hf (j / 6) h1).1 _ u hu
    · obtain ⟨i, hi', rfl⟩ := List.mem_map.1 hv
      exact (hf i (List.mem_range.1 hi')).2.1
    · obtain ⟨i, hi', rfl⟩ := List.mem_map.1 hv
      exact (hf i (List.mem_range.1 hi')).2.2
end
end Go.Proofs.YteidmdnhkgcnoaaGreat
namespace Go.Proofs.YteidmdnhkgcnoaaGreat
open Go.RowKit Go.ChangeShapes Go.WideShapes Go.Deep

/-- The numbers of an event are of 64 bits. -/
def EvWfV (d : EvD) : Prop := OpWf d.op ∧ wfI d.txn
theorem cells_event : Tryz.prog.cellsOf 38 = 15 := by kernel_rfl
theorem list_of15 {α : Type} {l : List α} (h : l.length = 15) : ∃ c0 c1 c2 c3 c4 c5 c6 c7 c8 c9 c10 c11 c12 c13 c14, l = [c0, c1, c2, c3, c4, c5, c6, c7, c8, c9, c10, c11, c12, c13, c14] := by
  match l, h with
  | [c0, c1, c2, c3, c4, c5, c6, c7, c8, c9, c10, c11, c12, c13, c14], _ => exact ⟨_, _, _, _, _, _, _, _, _, _, _, _, _, _, _, rfl⟩

section
variable {H : Type} {enc : TypeId × Value → H} {w : World} {base : Nat} {spare : Nat → Bool} {held : Bool}
theorem open_event {fuel : Nat} {cs : List Value} {x : DataW H × List MemPlace} (h : DataW.trod enc Tryz.prog w base spare held fuel 38 cs = some x) :
    ∃ v : EvV, cs = v.cells ∧ EvOk w w.heap.size v ∧ EvWfV v.d := by
  obtain ⟨xs, n, _, _, hlen, hxl, hf⟩ := DataW.trod_struct Tryz.underlying38 h
  rw [cells_event] at hlen
  have hxl' : xs.length = 5 := hxl
  obtain ⟨c0, c1, c2, c3, c4, c5, c6, c7, c8, c9, c10, c11, c12, c13, c14, rfl⟩ := list_of15 hlen
  obtain ⟨y0, j0⟩ := some_of (hf 0 _ rfl) hxl' (by omega)
  have g0 : DataW.trod enc Tryz.prog w base spare held n 3 [c0] = some y0 := by simpa [cells_int] using j0
  obtain ⟨y1, j1⟩ := some_of (hf 1 _ rfl) hxl' (by omega)
  have g1 : DataW.trod enc Tryz.prog w base spare held n 3 [c1] = some y1 := by simpa [cells_int] using j1
  obtain ⟨y2, j2⟩ := some_of (hf 2 _ rfl) hxl' (by omega)
  have g2 : DataW.trod enc Tryz.prog w base spare held n 3 [c2] = some y2 := by simpa [cells_int] using j2
  obtain ⟨y3, j3⟩ := some_of (hf 3 _ rfl) hxl' (by omega)
  have g3 : DataW.trod enc Tryz.prog w base spare held n 31 [c3, c4, c5, c6, c7, c8] = some y3 := by simpa [cells_op] using j3
  obtain ⟨y4, j4⟩ := some_of (hf 4 _ rfl) hxl' (by omega)
  have g4 : DataW.trod enc Tryz.prog w base spare held n 36 [c9, c10, c11, c12, c13, c14] = some y4 := by simpa [cells_answer] using j4
  obtain ⟨t0, e0, _, w0⟩ := DataW.trod_int Tryz.underlying3 g0
  obtain ⟨t1, e1, _, w1⟩ := DataW.trod_int Tryz.underlying3 g1
  obtain ⟨t2, e2, _, w2⟩ := DataW.trod_int Tryz.underlying3 g2
  obtain ⟨d, dv, e3, hb1, a1, a2, a3, a4, a5⟩ := open_op g3
  obtain ⟨er, d2, cv, e4, hb2, b0, b1, b2, b3, b4⟩ := open_answer g4
  simp only [List.cons.injEq, and_true] at e0 e1 e2
  subst e0 e1 e2
  refine ⟨⟨⟨t0, t1, t2, d, er, d2⟩, dv, cv⟩, ?_, ⟨hb1, hb2⟩, ⟨inI_of a2, inI_of a3, inI_of a4, by unfold maxLen at a5; omega⟩, w2⟩
  simp only [EvV.cells, ← e3, ← e4]
  rfl

/-- A []api.Event that came in. -/
theorem open_events {fuel : Nat} {A : Option Addr} {n c : Nat} {x : DataW H × List MemPlace} (h : DataW.trod enc Tryz.prog w base spare held fuel 23 [.slice A n c] = some x) :
    ∃ xs : List EvV, Evs w w.heap.size A n xs ∧ n ≤ c ∧ c ≤ maxLen ∧ ∀ v ∈ xs, EvWfV v.d := by
  rcases open_slice Tryz.underlying23 h with ⟨hcs, _⟩ | ⟨a, len, cap, m, fl, D, Pl, hcs, hb, hl, hm, hmm, hx, hi⟩
  · injection hcs with hcs
    injection hcs with e1 e2 e3
    subst e1 e2 e3
    exact ⟨[], ⟨rfl, Reads.none_, fun v hv => by cases hv⟩, Nat.le_refl _, Nat.zero_le _, fun v hv => by cases hv⟩
  · injection hcs with hcs
    injection hcs with e1 e2 e3
    subst e1 e2 e3
    have hlm : n ≤ m := by rw [hmm]; split <;> omega
    have hex : ∀ i, i < n → ∃ v : EvV, (∀ j u, v.cells[j]? = some u → w.cell? (a.add (i * 15 + j)) = some u) ∧ EvOk w w.heap.size v ∧ EvWfV v.d := fun i hin => by
      obtain ⟨cs', hc, ht⟩ := hi i (by omega)
      rw [cells_event] at hc
      obtain ⟨v, rfl, hok, hwf⟩ := open_event ht
      obtain ⟨_, _, hat⟩ := World.cells?_some hc
      refine ⟨v, fun j u hu => ?_, hok, hwf⟩
      have hj : j < 15 := by
        have := (List.getElem?_eq_some_iff.1 hu).1
        rwa [EvV.cells_length] at this
      rw [← Go.Deep.add_add, hat j hj, hu]
    obtain ⟨f, hf⟩ := @Go.Deep.choose_lt EvV ⟨⟨⟨0, 0, 0, ⟨0, .empty, [], 0, 0, 0⟩, 0, ⟨0, [], 0, 0, 0⟩⟩, undef, undef⟩⟩ n _ hex
    refine ⟨(List.range n).map f, ⟨by simp, ⟨by rw [flat_length _ 15 EvV.cells_length]; simp, fun hn => ⟨a, rfl, ?_, fun j u hu => ?_⟩⟩, fun v hv => ?_⟩, hl, hm, fun v hv => ?_⟩
    · exact cell_lt' ((hf 0 hn).1 0 _ rfl)
    · have hj : j < n * 15 := by
        have := (List.getElem?_eq_some_iff.1 hu).1
        rw [flat_length _ 15 EvV.cells_length] at this
        simpa using this
      have h1 : j / 15 < n := by omega
      have h2 : j = (j / 15) * 15 + j % 15 := by omega
      rw [h2, flat_at _ 15 EvV.cells_length _ _ _ (Nat.mod_lt _ (by omega))] at hu
      simp only [List.getElem?_map, List.getElem?_range h1, Option.map_some, Option.bind_some] at hu
      rw [h2]
      exact (hf (j / 15) h1).1 _ u hu
    · obtain ⟨i, hi', rfl⟩ := List.mem_map.1 hv
      exact (hf i (List.mem_range.1 hi')).2.1
    · obtain ⟨i, hi', rfl⟩ := List.mem_map.1 hv
      exact (hf i (List.mem_range.1 hi')).2.2
end
end Go.Proofs.YteidmdnhkgcnoaaGreat
