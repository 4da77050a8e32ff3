/-
  FROM THE READING OF THE ARGUMENTS: a []api.Act that came in.
-/
import Derived.Test.YtgokkbocboonnaaDoorOpenB
import Derived.Test.YtgokkbocboonnaaDoorBB
namespace Go.Proofs.YtgokkbocboonnaaDoor
open Go.RowKit Go.ChangeShapes Go.WideShapes Go.Deep

section
variable {H : Type} {enc : TypeId × Value → H} {w : World} {base : Nat} {spare : Nat → Bool} {held : Bool}
/-- A []api.Act that came in. -/
theorem open_acts {fuel : Nat} {A : Option Addr} {n c : Nat} {x : DataW H × List MemPlace} (h : DataW.trod enc Tryd.prog w base spare held fuel 44 [.slice A n c] = some x) :
    ∃ xs : List ActV, Acts w w.heap.size A n xs ∧ n ≤ c ∧ c ≤ maxLen ∧ ∀ v ∈ xs, ActIn v.d ∧ v.d.pages.length ≤ maxLen := by
  rcases open_slice Tryd.underlying44 h with ⟨hcs, _⟩ | ⟨a, len, cap, m, fl, D, Pl, hcs, hb, hl, hm, hmm, hx, hi⟩
  · injection hcs with hcs
    injection hcs with e1 e2 e3
    subst e1 e2 e3
    exact ⟨[], ⟨rfl, Reads.none_, fun v hv => by cases hv⟩, Nat.le_refl _, Nat.zero_le _, fun v hv => by cases hv⟩
  · injection hcs with hcs
    injection hcs with e1 e2 e3
    subst e1 e2 e3
    have hlm : n ≤ m := by rw [hmm]; split <;> omega
    have hex : ∀ i, i < n → ∃ v : ActV, (∀ j u, v.cells[j]? = some u → w.cell? (a.add (i * 11 + j)) = some u) ∧ ActOk w w.heap.size v ∧ ActIn v.d ∧ v.d.pages.length ≤ maxLen := fun i hin => by
      obtain ⟨cs', hc, ht⟩ := hi i (by omega)
      rw [cells_act] at hc
      obtain ⟨v, rfl, hok, hwf, _, hpl⟩ := open_actC ht
      obtain ⟨_, _, hat⟩ := World.cells?_some hc
      refine ⟨v, fun j u hu => ?_, hok, hwf, hpl⟩
      have hj : j < 11 := by
        have := (List.getElem?_eq_some_iff.1 hu).1
        rwa [ActV.cells_length] at this
      rw [← Go.Deep.add_add, hat j hj, hu]
    obtain ⟨f, hf⟩ := @Go.Deep.choose_lt ActV ⟨⟨⟨0, 0, ⟨0, .empty, [], 0, 0, 0⟩, 0, [], 0⟩, undef, undef⟩⟩ n _ hex
    refine ⟨(List.range n).map f, ⟨by simp, ⟨by rw [flat_length _ 11 ActV.cells_length]; simp, fun hn => ⟨a, rfl, ?_, fun j u hu => ?_⟩⟩, fun v hv => ?_⟩, hl, hm, fun v hv => ?_⟩
    · exact cell_lt' ((hf 0 hn).1 0 _ rfl)
    · have hj : j < n * 11 := by
        have := (List.getElem?_eq_some_iff.1 hu).1
        rw [flat_length _ 11 ActV.cells_length] at this
        simpa using this
      have h1 : j / 11 < n := by omega
      have h2 : j = (j / 11) * 11 + j % 11 := by omega
      rw [h2, flat_at _ 11 ActV.cells_length _ _ _ (Nat.mod_lt _ (by omega))] at hu
      simp only [List.getElem?_map, List.getElem?_range h1, Option.map_some, Option.bind_some] at hu
      rw [h2]
      exact (hf (j / 11) h1).1 _ u hu
    · obtain ⟨i, hi', rfl⟩ := List.mem_map.1 hv
      exact (hf i (List.mem_range.1 hi')).2.1
    · obtain ⟨i, hi', rfl⟩ := List.mem_map.1 hv
      exact (hf i (List.mem_range.1 hi')).2.2
end
end Go.Proofs.YtgokkbocboonnaaDoor
