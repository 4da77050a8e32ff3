/-
  FROM THE READING OF THE ARGUMENTS: an api.Act by value; a []api.Act that came in.
-/
import Derived.Test.YtgokkbocboonnaaDoorOpenA
import Derived.Lib.SmallJoins
namespace Go.Proofs.YtgokkbocboonnaaDoor
open Go.RowKit Go.ChangeShapes Go.WideShapes Go.Deep Go.Joins

theorem cells_act : Tryd.prog.cellsOf 30 = 11 := by kernel_rfl
theorem cells_fates : Tryd.prog.cellsOf 28 = 2 := by kernel_rfl
theorem cells_ints : Tryd.prog.cellsOf 26 = 1 := by kernel_rfl
theorem list_of2 {α : Type} {l : List α} (h : l.length = 2) : ∃ c0 c1, l = [c0, c1] := by
  match l, h with
  | [c0, c1], _ => exact ⟨_, _, rfl⟩
theorem list_of11 {α : Type} {l : List α} (h : l.length = 11) : ∃ c0 c1 c2 c3 c4 c5 c6 c7 c8 c9 c10, l = [c0, c1, c2, c3, c4, c5, c6, c7, c8, c9, c10] := by
  match l, h with
  | [c0, c1, c2, c3, c4, c5, c6, c7, c8, c9, c10], _ => exact ⟨_, _, _, _, _, _, _, _, _, _, _, rfl⟩
theorem inI_ofA {z : Int} (h : wfI z) : inI z := bounds_i64 h
section
variable {H : Type} {enc : TypeId × Value → H} {w : World} {base : Nat} {spare : Nat → Bool} {held : Bool}
theorem open_fates {fuel : Nat} {cs : List Value} {x : DataW H × List MemPlace} (h : DataW.trod enc Tryd.prog w base spare held fuel 28 cs = some x) :
    ∃ (pv : Value) (pages : List Int) (lg : Int), cs = [pv, .int .i64 lg] ∧ IntsAt w w.heap.size pv pages ∧ pages.length ≤ maxLen ∧ inI lg ∧ ∀ p ∈ pages, inI p := by
  obtain ⟨xs, n, _, _, hlen, hxl, hf⟩ := DataW.trod_struct Tryd.underlying28 h
  rw [cells_fates] at hlen
  have hxl' : xs.length = 2 := hxl
  obtain ⟨c0, c1, rfl⟩ := list_of2 hlen
  obtain ⟨y0, j0⟩ := some_of (hf 0 _ rfl) hxl' (by omega)
  have g0 : DataW.trod enc Tryd.prog w base spare held n 26 [c0] = some y0 := by simpa [cells_ints] using j0
  obtain ⟨y1, j1⟩ := some_of (hf 1 _ rfl) hxl' (by omega)
  have g1 : DataW.trod enc Tryd.prog w base spare held n 3 [c1] = some y1 := by simpa [cells_int] using j1
  have h0 : ∃ A n c, c0 = .slice A n c := by
    rcases open_ints Tryd.underlying26 Tryd.underlying3 cells_int g0 with ⟨hcs, _⟩ | ⟨a, len, cap, zs, hcs, _⟩
    · injection hcs with hcs
      exact ⟨_, _, _, hcs⟩
    · injection hcs with hcs
      exact ⟨_, _, _, hcs⟩
  obtain ⟨A, m, c, rfl⟩ := h0
  obtain ⟨zs, hz, hmc, hcm, hwz⟩ := open_ints' g0
  obtain ⟨t1, e1, _, w1⟩ := DataW.trod_int Tryd.underlying3 g1
  simp only [List.cons.injEq, and_true] at e1
  subst e1
  have hm := hz.1
  exact ⟨.slice A m c, zs, t1, rfl, ⟨A, c, by rw [hm], by omega, by rw [← hm]; exact hz⟩, by omega, inI_ofA w1, fun p hp => inI_ofA (hwz p hp)⟩
theorem open_actC {fuel : Nat} {cs : List Value} {x : DataW H × List MemPlace} (h : DataW.trod enc Tryd.prog w base spare held fuel 30 cs = some x) :
    ∃ v : ActV, cs = v.cells ∧ ActOk w w.heap.size v ∧ ActIn v.d ∧ v.d.op.key.size ≤ maxLen ∧ v.d.pages.length ≤ maxLen := by
  obtain ⟨xs, n, _, _, hlen, hxl, hf⟩ := DataW.trod_struct Tryd.underlying30 h
  rw [cells_act] at hlen
  have hxl' : xs.length = 5 := hxl
  obtain ⟨c0, c1, c2, c3, c4, c5, c6, c7, c8, c9, c10, rfl⟩ := list_of11 hlen
  obtain ⟨y0, j0⟩ := some_of (hf 0 _ rfl) hxl' (by omega)
  have g0 : DataW.trod enc Tryd.prog w base spare held n 3 [c0] = some y0 := by simpa [cells_int] using j0
  obtain ⟨y1, j1⟩ := some_of (hf 1 _ rfl) hxl' (by omega)
  have g1 : DataW.trod enc Tryd.prog w base spare held n 3 [c1] = some y1 := by simpa [cells_int] using j1
  obtain ⟨y2, j2⟩ := some_of (hf 2 _ rfl) hxl' (by omega)
  have g2 : DataW.trod enc Tryd.prog w base spare held n 25 [c2, c3, c4, c5, c6, c7] = some y2 := by simpa [cells_op] using j2
  obtain ⟨y3, j3⟩ := some_of (hf 3 _ rfl) hxl' (by omega)
  have g3 : DataW.trod enc Tryd.prog w base spare held n 3 [c8] = some y3 := by simpa [cells_int] using j3
  obtain ⟨y4, j4⟩ := some_of (hf 4 _ rfl) hxl' (by omega)
  have g4 : DataW.trod enc Tryd.prog w base spare held n 28 [c9, c10] = some y4 := by simpa [cells_fates] using j4
  obtain ⟨t0, e0, _, w0⟩ := DataW.trod_int Tryd.underlying3 g0
  obtain ⟨t1, e1, _, w1⟩ := DataW.trod_int Tryd.underlying3 g1
  obtain ⟨d, dv, e2, hb, a1, a2, a3, a4, a5⟩ := open_op g2
  obtain ⟨t3, e3, _, w3⟩ := DataW.trod_int Tryd.underlying3 g3
  obtain ⟨pv, pages, lg, e4, hp, hpl, hlg, hpi⟩ := open_fates g4
  simp only [List.cons.injEq, and_true] at e0 e1 e3 e4
  obtain ⟨e4, e5⟩ := e4
  subst e0 e1 e3 e4 e5
  refine ⟨⟨⟨t0, t1, d, t3, pages, lg⟩, dv, c9⟩, ?_, ⟨hb, hp⟩, ⟨inI_ofA w0, inI_ofA w1, ⟨inI_ofA a1, inI_ofA a2, inI_ofA a3, inI_ofA a4⟩, inI_ofA w3, hlg, hpi⟩, a5, hpl⟩
  simp only [ActV.cells, ← e2]
  rfl
set_option maxRecDepth 100000 in
/-- An api.Act by value. -/
theorem open_act {r : Reach} {b0 : Nat} {v : Value} {d : DataW H} {p : List MemPlace} (hv : Value.okWide Tryd.prog w r b0 30 v) (h : DataW.Trod enc Tryd.prog w base spare held 30 v d p) :
    ∃ x : ActV, v = actV x ∧ ActOk w w.heap.size x ∧ ActIn x.d ∧ x.d.op.key.size ≤ maxLen ∧ x.d.pages.length ≤ maxLen := by
  obtain ⟨cs, rfl, hsz⟩ := okWide_struct Tryd.underlying30 hv
  obtain ⟨fuel, hf⟩ := h
  obtain ⟨x, e, h1, h2, h3, h4⟩ := open_actC hf
  refine ⟨x, ?_, h1, h2, h3, h4⟩
  have e' : cs.toList = x.cells := e
  have : cs = x.cells.toArray := by rw [← e']
  rw [this]
  rfl
end
end Go.Proofs.YtgokkbocboonnaaDoor
