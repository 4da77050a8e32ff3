/-
  FROM THE READING OF THE ARGUMENTS TO 'Eps': a []api.Epoch that came in; an api.Report by value.
-/
import Derived.Test.YtkhckehecnobjaaDoorOpenE
import Derived.Test.YtkhckehecnobjaaDoorSP
import Derived.Lib.SmallJoins
namespace Go.Proofs.YtkhckehecnobjaaDoor
open Go.RowKit Go.ChangeShapes Go.WideShapes Go.Deep Go.Joins

theorem cells_epoch : Tryd.prog.cellsOf 42 = 2 := by kernel_rfl
theorem cells_events : Tryd.prog.cellsOf 22 = 1 := by kernel_rfl
theorem cells_pairs : Tryd.prog.cellsOf 40 = 1 := by kernel_rfl
theorem cells_report : Tryd.prog.cellsOf 38 = 7 := by kernel_rfl
theorem list_of2 {α : Type} {l : List α} (h : l.length = 2) : ∃ c0 c1, l = [c0, c1] := by
  match l, h with
  | [c0, c1], _ => exact ⟨_, _, rfl⟩
theorem list_of7 {α : Type} {l : List α} (h : l.length = 7) : ∃ c0 c1 c2 c3 c4 c5 c6, l = [c0, c1, c2, c3, c4, c5, c6] := by
  match l, h with
  | [c0, c1, c2, c3, c4, c5, c6], _ => exact ⟨_, _, _, _, _, _, _, rfl⟩
section
variable {H : Type} {enc : TypeId × Value → H} {w : World} {base : Nat} {spare : Nat → Bool} {held : Bool}
theorem open_epoch {fuel : Nat} {cs : List Value} {x : DataW H × List MemPlace} (h : DataW.trod enc Tryd.prog w base spare held fuel 42 cs = some x) :
    ∃ v : EpV, cs = v.cells ∧ EpOk w w.heap.size v ∧ ∀ y ∈ v.xs, EvWf y.d := by
  obtain ⟨xs, n, _, _, hlen, hxl, hf⟩ := DataW.trod_struct Tryd.underlying42 h
  rw [cells_epoch] at hlen
  have hxl' : xs.length = 2 := hxl
  obtain ⟨c0, c1, rfl⟩ := list_of2 hlen
  · skip
    obtain ⟨y0, j0⟩ := some_of (hf 0 _ rfl) hxl' (by omega)
    have g0 : DataW.trod enc Tryd.prog w base spare held n 40 [c0] = some y0 := by simpa [cells_pairs] using j0
    obtain ⟨y1, j1⟩ := some_of (hf 1 _ rfl) hxl' (by omega)
    have g1 : DataW.trod enc Tryd.prog w base spare held n 22 [c1] = some y1 := by simpa [cells_events] using j1
    have h0 : ∃ A n c, c0 = .slice A n c := by
      rcases open_slice Tryd.underlying40 g0 with ⟨hcs, _⟩ | ⟨a, len, cap, m, fl, D, Pl, hcs, _⟩
      · injection hcs with hcs
        exact ⟨_, _, _, hcs⟩
      · injection hcs with hcs
        exact ⟨_, _, _, hcs⟩
    have h1 : ∃ A n c, c1 = .slice A n c := by
      rcases open_slice Tryd.underlying22 g1 with ⟨hcs, _⟩ | ⟨a, len, cap, m, fl, D, Pl, hcs, _⟩
      · injection hcs with hcs
        exact ⟨_, _, _, hcs⟩
      · injection hcs with hcs
        exact ⟨_, _, _, hcs⟩
    obtain ⟨A, n', c, rfl⟩ := h1
    obtain ⟨ys, hE, hnc, hcm, hwf⟩ := open_events g1
    unfold maxLen at hcm
    exact ⟨⟨c0, .slice A n' c, ys⟩, rfl, ⟨h0, A, n', c, rfl, by omega, hE⟩, hwf⟩

/-- A []api.Epoch that came in. -/
theorem open_epochs {fuel : Nat} {A : Option Addr} {n c : Nat} {x : DataW H × List MemPlace} (h : DataW.trod enc Tryd.prog w base spare held fuel 43 [.slice A n c] = some x) :
    ∃ es : List EpV, Eps w w.heap.size A n es ∧ n ≤ c ∧ c ≤ maxLen := by
  rcases open_slice Tryd.underlying43 h with ⟨hcs, _⟩ | ⟨a, len, cap, m, fl, D, Pl, hcs, hb, hl, hm, hmm, hx, hi⟩
  · injection hcs with hcs
    injection hcs with e1 e2 e3
    subst e1 e2 e3
    exact ⟨[], ⟨rfl, Reads.none_, fun v hv => by cases hv⟩, Nat.le_refl _, Nat.zero_le _⟩
  · injection hcs with hcs
    injection hcs with e1 e2 e3
    subst e1 e2 e3
    have hlm : n ≤ m := by rw [hmm]; split <;> omega
    have hex : ∀ i, i < n → ∃ v : EpV, (∀ j u, v.cells[j]? = some u → w.cell? (a.add (i * 2 + j)) = some u) ∧ EpOk w w.heap.size v := fun i hin => by
      obtain ⟨cs', hc, ht⟩ := hi i (by omega)
      rw [cells_epoch] at hc
      obtain ⟨v, rfl, hok, _⟩ := open_epoch ht
      obtain ⟨_, _, hat⟩ := World.cells?_some hc
      refine ⟨v, fun j u hu => ?_, hok⟩
      have hj : j < 2 := by
        have := (List.getElem?_eq_some_iff.1 hu).1
        rwa [EpV.cells_length] at this
      rw [← Go.Deep.add_add, hat j hj, hu]
    obtain ⟨f, hf⟩ := @Go.Deep.choose_lt EpV ⟨⟨undef, undef, []⟩⟩ n _ hex
    refine ⟨(List.range n).map f, ⟨by simp, ⟨by rw [flat_length _ 2 EpV.cells_length]; simp, fun hn => ⟨a, rfl, ?_, fun j u hu => ?_⟩⟩, fun v hv => ?_⟩, hl, hm⟩
    · exact cell_lt' ((hf 0 hn).1 0 _ rfl)
    · have hj : j < n * 2 := by
        have := (List.getElem?_eq_some_iff.1 hu).1
        rw [flat_length _ 2 EpV.cells_length] at this
        simpa using this
      have h1 : j / 2 < n := by omega
      have h2 : j = (j / 2) * 2 + j % 2 := by omega
      rw [h2, flat_at _ 2 EpV.cells_length _ _ _ (Nat.mod_lt _ (by omega))] at hu
      simp only [List.getElem?_map, List.getElem?_range h1, Option.map_some, Option.bind_some] at hu
      rw [h2]
      exact (hf (j / 2) h1).1 _ u hu
    · obtain ⟨i, hi', rfl⟩ := List.mem_map.1 hv
      exact (hf i (List.mem_range.1 hi')).2

set_option maxRecDepth 100000 in
/-- An api.Report by value. -/
theorem open_report {r : Reach} {b0 : Nat} {v : Value} {d : DataW H} {p : List MemPlace} (hv : Value.okWide Tryd.prog w r b0 38 v) (h : DataW.Trod enc Tryd.prog w base spare held 38 v d p) :
    ∃ R : RepD, v = .agg (repCells R) ∧ RepIn R := by
  obtain ⟨cs, rfl, hsz⟩ := okWide_struct Tryd.underlying38 hv
  obtain ⟨l⟩ := cs
  have hl7 : l.length = 7 := hsz.trans cells_report
  obtain ⟨c0, c1, c2, c3, c4, c5, c6, rfl⟩ := list_of7 hl7
  · skip
    obtain ⟨fuel, hf⟩ := h
    obtain ⟨xs, n, _, hx, _, hlen, hg⟩ := DataW.trod_struct Tryd.underlying38 hf
    have hxl' : xs.length = 7 := hlen
    obtain ⟨y0, j0⟩ := some_of (hg 0 _ rfl) hxl' (by omega)
    have g0 : DataW.trod enc Tryd.prog w base spare held n 3 [c0] = some y0 := by simpa [Value.cells, cells_int] using j0
    obtain ⟨y1, j1⟩ := some_of (hg 1 _ rfl) hxl' (by omega)
    have g1 : DataW.trod enc Tryd.prog w base spare held n 3 [c1] = some y1 := by simpa [Value.cells, cells_int] using j1
    obtain ⟨y2, j2⟩ := some_of (hg 2 _ rfl) hxl' (by omega)
    have g2 : DataW.trod enc Tryd.prog w base spare held n 3 [c2] = some y2 := by simpa [Value.cells, cells_int] using j2
    obtain ⟨y3, j3⟩ := some_of (hg 3 _ rfl) hxl' (by omega)
    have g3 : DataW.trod enc Tryd.prog w base spare held n 3 [c3] = some y3 := by simpa [Value.cells, cells_int] using j3
    obtain ⟨y4, j4⟩ := some_of (hg 4 _ rfl) hxl' (by omega)
    have g4 : DataW.trod enc Tryd.prog w base spare held n 3 [c4] = some y4 := by simpa [Value.cells, cells_int] using j4
    obtain ⟨y5, j5⟩ := some_of (hg 5 _ rfl) hxl' (by omega)
    have g5 : DataW.trod enc Tryd.prog w base spare held n 3 [c5] = some y5 := by simpa [Value.cells, cells_int] using j5
    obtain ⟨y6, j6⟩ := some_of (hg 6 _ rfl) hxl' (by omega)
    have g6 : DataW.trod enc Tryd.prog w base spare held n 3 [c6] = some y6 := by simpa [Value.cells, cells_int] using j6
    obtain ⟨t0, e0, _, w0⟩ := DataW.trod_int Tryd.underlying3 g0
    obtain ⟨t1, e1, _, w1⟩ := DataW.trod_int Tryd.underlying3 g1
    obtain ⟨t2, e2, _, w2⟩ := DataW.trod_int Tryd.underlying3 g2
    obtain ⟨t3, e3, _, w3⟩ := DataW.trod_int Tryd.underlying3 g3
    obtain ⟨t4, e4, _, w4⟩ := DataW.trod_int Tryd.underlying3 g4
    obtain ⟨t5, e5, _, w5⟩ := DataW.trod_int Tryd.underlying3 g5
    obtain ⟨t6, e6, _, w6⟩ := DataW.trod_int Tryd.underlying3 g6
    simp only [List.cons.injEq, and_true] at e0 e1 e2 e3 e4 e5 e6
    subst e0 e1 e2 e3 e4 e5 e6
    exact ⟨⟨t0, t1, t2, t3, t4, t5, t6⟩, rfl, inI_of w0, inI_of w1, inI_of w2, inI_of w3, inI_of w4, inI_of w5, inI_of w6⟩
end
end Go.Proofs.YtkhckehecnobjaaDoor
