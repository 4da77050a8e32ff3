/-
  FROM THE READING OF THE ARGUMENTS TO 'Eds': a []api.Edge that came in.
-/
import Derived.Test.YtkbcenddhcnkeaaOpen
import Derived.Test.YtkbcenddhcnkeaaGP
namespace Go.Proofs.Ytkbcenddhcnkeaa
open Go.RowKit Go.ChangeShapes Go.WideShapes Go.Deep

theorem cells_edge : Try.prog.cellsOf 29 = 2 := by kernel_rfl
theorem list_of2 {α : Type} {l : List α} (h : l.length = 2) : ∃ c0 c1, l = [c0, c1] := by
  match l, h with
  | [c0, c1], _ => exact ⟨_, _, rfl⟩
section
variable {H : Type} {enc : TypeId × Value → H} {w : World} {base : Nat} {spare : Nat → Bool} {held : Bool}
theorem open_edge {fuel : Nat} {cs : List Value} {x : DataW H × List MemPlace} (h : DataW.trod enc Try.prog w base spare held fuel 29 cs = some x) :
    ∃ e : Ed, cs = edC e ∧ (Lit.int .i64 e.1).wf = true ∧ (Lit.int .i64 e.2).wf = true := by
  obtain ⟨xs, n, _, _, hlen, hxl, hf⟩ := DataW.trod_struct Try.underlying29 h
  rw [cells_edge] at hlen
  have hxl' : xs.length = 2 := hxl
  obtain ⟨c0, c1, rfl⟩ := list_of2 hlen
  obtain ⟨y0, j0⟩ := some_of (hf 0 _ rfl) hxl' (by omega)
  have g0 : DataW.trod enc Try.prog w base spare held n 3 [c0] = some y0 := by simpa [cells_int] using j0
  obtain ⟨y1, j1⟩ := some_of (hf 1 _ rfl) hxl' (by omega)
  have g1 : DataW.trod enc Try.prog w base spare held n 3 [c1] = some y1 := by simpa [cells_int] using j1
  obtain ⟨p, e0, _, w0⟩ := DataW.trod_int Try.underlying3 g0
  obtain ⟨q, e1, _, w1⟩ := DataW.trod_int Try.underlying3 g1
  simp only [List.cons.injEq, and_true] at e0 e1
  subst e0 e1
  exact ⟨(p, q), rfl, w0, w1⟩
/-- A []api.Edge that came in. -/
theorem open_edges {fuel : Nat} {A : Option Addr} {n c : Nat} {x : DataW H × List MemPlace} (h : DataW.trod enc Try.prog w base spare held fuel 22 [.slice A n c] = some x) :
    ∃ es : List Ed, Eds w w.heap.size A n es ∧ (A = none → c = 0) ∧ wfE es := by
  rcases open_slice Try.underlying22 h with ⟨hcs, _⟩ | ⟨a, len, cap, m, fl, D, Pl, hcs, hb, hl, hm, hmm, hx, hi⟩
  · injection hcs with hcs
    injection hcs with e1 e2 e3
    subst e1 e2 e3
    exact ⟨[], ⟨rfl, Reads.none_⟩, fun _ => rfl, fun e he => by cases he⟩
  · injection hcs with hcs
    injection hcs with e1 e2 e3
    subst e1 e2 e3
    have hlm : n ≤ m := by rw [hmm]; split <;> omega
    have hex : ∀ i, i < n → ∃ e : Ed, (∀ j u, (edC e)[j]? = some u → w.cell? (a.add (i * 2 + j)) = some u) ∧ (Lit.int .i64 e.1).wf = true ∧ (Lit.int .i64 e.2).wf = true := fun i hin => by
      obtain ⟨cs', hc, ht⟩ := hi i (by omega)
      rw [cells_edge] at hc
      obtain ⟨e, rfl, hwf⟩ := open_edge ht
      obtain ⟨_, _, hat⟩ := World.cells?_some hc
      refine ⟨e, fun j u hu => ?_, hwf⟩
      have hj : j < 2 := by
        have := (List.getElem?_eq_some_iff.1 hu).1
        rwa [edC_length] at this
      rw [← Go.Deep.add_add, hat j hj, hu]
    obtain ⟨f, hf⟩ := @Go.Deep.choose_lt Ed ⟨(0, 0)⟩ n _ hex
    refine ⟨(List.range n).map f, ⟨by simp, ⟨by rw [flat_length _ 2 edC_length]; simp, fun hn => ⟨a, rfl, ?_, fun j u hu => ?_⟩⟩⟩, fun h => (by cases h), fun e he => ?_⟩
    · exact cell_lt' ((hf 0 hn).1 0 _ rfl)
    · have hj : j < n * 2 := by
        have := (List.getElem?_eq_some_iff.1 hu).1
        rw [flat_length _ 2 edC_length] at this
        simpa using this
      have h1 : j / 2 < n := by omega
      have h2 : j = (j / 2) * 2 + j % 2 := by omega
      rw [h2, flat_at _ 2 edC_length _ _ _ (Nat.mod_lt _ (by omega))] at hu
      simp only [List.getElem?_map, List.getElem?_range h1, Option.map_some, Option.bind_some] at hu
      rw [h2]
      exact (hf (j / 2) h1).1 _ u hu
    · obtain ⟨i, hi', rfl⟩ := List.mem_map.1 he
      exact (hf i (List.mem_range.1 hi')).2
end
end Go.Proofs.Ytkbcenddhcnkeaa
