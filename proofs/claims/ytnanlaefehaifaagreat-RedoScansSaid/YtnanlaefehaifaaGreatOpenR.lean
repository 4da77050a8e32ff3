/-
  FROM THE READING OF THE ARGUMENTS: a []api.Rec that came in.
-/
import Derived.Test.YtnanlaefehaifaaGreatOpen
import Derived.Test.YtnanlaefehaifaaGreatLF
namespace Go.Proofs.YtnanlaefehaifaaGreat
open Go.RowKit Go.ChangeShapes Go.WideShapes Go.Deep

theorem cells_run : Tryz.prog.cellsOf 180 = 2 := by kernel_rfl
theorem cells_runs : Tryz.prog.cellsOf 109 = 1 := by kernel_rfl
theorem cells_patch : Tryz.prog.cellsOf 111 = 3 := by kernel_rfl
theorem cells_patches : Tryz.prog.cellsOf 32 = 1 := by kernel_rfl
theorem cells_item : Tryz.prog.cellsOf 37 = 7 := by kernel_rfl
theorem cells_undo : Tryz.prog.cellsOf 39 = 10 := by kernel_rfl
theorem cells_rec : Tryz.prog.cellsOf 41 = 15 := by kernel_rfl
theorem cells_bool : Tryz.prog.cellsOf 4 = 1 := by kernel_rfl
theorem list_of2 {α : Type} {l : List α} (h : l.length = 2) : ∃ c0 c1, l = [c0, c1] := by
  match l, h with
  | [c0, c1], _ => exact ⟨c0, c1, rfl⟩
theorem list_of3 {α : Type} {l : List α} (h : l.length = 3) : ∃ c0 c1 c2, l = [c0, c1, c2] := by
  match l, h with
  | [c0, c1, c2], _ => exact ⟨c0, c1, c2, rfl⟩
theorem list_of7 {α : Type} {l : List α} (h : l.length = 7) : ∃ c0 c1 c2 c3 c4 c5 c6, l = [c0, c1, c2, c3, c4, c5, c6] := by
  match l, h with
  | [c0, c1, c2, c3, c4, c5, c6], _ => exact ⟨c0, c1, c2, c3, c4, c5, c6, rfl⟩
theorem list_of10 {α : Type} {l : List α} (h : l.length = 10) : ∃ c0 c1 c2 c3 c4 c5 c6 c7 c8 c9, l = [c0, c1, c2, c3, c4, c5, c6, c7, c8, c9] := by
  match l, h with
  | [c0, c1, c2, c3, c4, c5, c6, c7, c8, c9], _ => exact ⟨c0, c1, c2, c3, c4, c5, c6, c7, c8, c9, rfl⟩
theorem list_of15 {α : Type} {l : List α} (h : l.length = 15) : ∃ c0 c1 c2 c3 c4 c5 c6 c7 c8 c9 c10 c11 c12 c13 c14, l = [c0, c1, c2, c3, c4, c5, c6, c7, c8, c9, c10, c11, c12, c13, c14] := by
  match l, h with
  | [c0, c1, c2, c3, c4, c5, c6, c7, c8, c9, c10, c11, c12, c13, c14], _ => exact ⟨c0, c1, c2, c3, c4, c5, c6, c7, c8, c9, c10, c11, c12, c13, c14, rfl⟩
theorem flat_lenO {α : Type} (en : α → List Value) (K : Nat) (hK : ∀ x, (en x).length = K) : ∀ l : List α, (l.flatMap en).length = l.length * K
  | [] => by simp
  | x :: l => by rw [List.flatMap_cons, List.length_append, hK, flat_lenO en K hK l, List.length_cons, Nat.add_mul]; omega
theorem flat_atO {α : Type} (en : α → List Value) (K : Nat) (hK : ∀ x, (en x).length = K) : ∀ (l : List α) (i c : Nat) (_ : c < K), (l.flatMap en)[i * K + c]? = (l[i]?).bind fun x => (en x)[c]?
  | [], i, c, _ => by simp
  | x :: l, 0, c, hc => by rw [List.flatMap_cons, Nat.zero_mul, Nat.zero_add, List.getElem?_append_left (by rw [hK]; exact hc)]; rfl
  | x :: l, i + 1, c, hc => by
    rw [List.flatMap_cons, List.getElem?_append_right (by rw [hK, Nat.add_mul]; omega), hK, show (i + 1) * K + c - K = i * K + c by rw [Nat.add_mul]; omega, flat_atO en K hK l i c hc]
    rfl
section
variable {H : Type} {enc : TypeId × Value → H} {w : World} {base : Nat} {spare : Nat → Bool} {held : Bool}
/-- A slice that came in, element by element. -/
theorem open_sliceG {α : Type} (d0 : α) (tS te : TypeId) (hu : Tryz.prog.underlying tS = some (.slice te)) (K : Nat) (hK : Tryz.prog.cellsOf te = K) (h0 : 0 < K) (f : α → List Value) (hf : ∀ x, (f x).length = K) (Pr : α → Prop)
    (hel : ∀ (fuel : Nat) (cs : List Value) (x : DataW H × List MemPlace), DataW.trod enc Tryz.prog w base spare held fuel te cs = some x → ∃ y : α, cs = f y ∧ Pr y)
    {fuel : Nat} {v : Value} {x : DataW H × List MemPlace} (h : DataW.trod enc Tryz.prog w base spare held fuel tS [v] = some x) :
    ∃ xs : List α, SliceAt w w.heap.size K v xs.length (xs.flatMap f) ∧ ∀ y ∈ xs, Pr y := by
  rcases open_slice hu h with ⟨hcs, _⟩ | ⟨a, len, cap, m, fl, D, Pl, hcs, hb, hl, hm, hmm, hx, hi⟩
  · injection hcs with hcs
    subst hcs
    exact ⟨[], ⟨none, 0, rfl, Nat.le_refl _, Nat.zero_le _, fun _ => rfl, by simpa using Reads.none_⟩, fun y hy => by cases hy⟩
  · injection hcs with hcs
    subst hcs
    have hlm : len ≤ m := by rw [hmm]; split <;> omega
    have hex : ∀ i, i < len → ∃ y : α, (∀ j u, (f y)[j]? = some u → w.cell? (a.add (i * K + j)) = some u) ∧ Pr y := fun i hin => by
      obtain ⟨cs', hc, ht⟩ := hi i (by omega)
      rw [hK] at hc
      obtain ⟨y, rfl, hp⟩ := hel _ _ _ ht
      obtain ⟨_, _, hat⟩ := World.cells?_some hc
      refine ⟨y, fun j u hu => ?_, hp⟩
      have hj : j < K := by
        have := (List.getElem?_eq_some_iff.1 hu).1
        rwa [hf] at this
      rw [← Go.Deep.add_add, hat j hj, hu]
    obtain ⟨g, hg⟩ := @Go.Deep.choose_lt α ⟨d0⟩ len _ hex
    refine ⟨(List.range len).map g, ⟨some a, cap, by simp, by simpa using hl, hm, fun h => (by cases h), ⟨flat_lenO f K hf _, fun hn => ⟨a, rfl, ?_, fun j u hu => ?_⟩⟩⟩, fun y hy => ?_⟩
    · have h1 : 0 < len := by simpa using hn
      obtain ⟨u, hu⟩ : ∃ u, (f (g 0))[0]? = some u := ⟨_, List.getElem?_eq_getElem (by rw [hf]; exact h0)⟩
      exact cell_lt' ((hg 0 h1).1 0 _ hu)
    · have hj : j < len * K := by
        have := (List.getElem?_eq_some_iff.1 hu).1
        rw [flat_lenO f K hf] at this
        simpa using this
      have h1 : j / K < len := (Nat.div_lt_iff_lt_mul h0).2 hj
      have h2 : j = (j / K) * K + j % K := by rw [Nat.mul_comm]; exact (Nat.div_add_mod j K).symm
      rw [h2, flat_atO f K hf _ _ _ (Nat.mod_lt _ h0)] at hu
      simp only [List.getElem?_map, List.getElem?_range h1, Option.map_some, Option.bind_some] at hu
      rw [h2]
      exact (hg (j / K) h1).1 _ u hu
    · obtain ⟨i, hi', rfl⟩ := List.mem_map.1 hy
      exact (hg i (List.mem_range.1 hi')).2
theorem open_run (fuel : Nat) (cs : List Value) (x : DataW H × List MemPlace) (h : DataW.trod enc Tryz.prog w base spare held fuel 180 cs = some x) : ∃ y : RunV, cs = y.cells ∧ BytesAt w w.heap.size y.dv y.data := by
  obtain ⟨xs, n, _, _, hlen, hxl, hf⟩ := DataW.trod_struct Tryz.underlying180 h
  rw [cells_run] at hlen
  have hxl' : xs.length = 2 := hxl
  obtain ⟨c0, c1, rfl⟩ := list_of2 hlen
  obtain ⟨y0, j0⟩ := some_of (hf 0 _ rfl) hxl' (by omega)
  have g0 : DataW.trod enc Tryz.prog w base spare held n 3 [c0] = some y0 := by simpa [cells_int] using j0
  obtain ⟨y1, j1⟩ := some_of (hf 1 _ rfl) hxl' (by omega)
  have g1 : DataW.trod enc Tryz.prog w base spare held n 33 [c1] = some y1 := by simpa [cells_bytes] using j1
  obtain ⟨t0, e0, _, _⟩ := DataW.trod_int Tryz.underlying3 g0
  obtain ⟨bs, hbs⟩ := open_bytes g1
  simp only [List.cons.injEq, and_true] at e0
  subst e0
  exact ⟨⟨t0, bs, c1⟩, rfl, hbs⟩
theorem open_patch (fuel : Nat) (cs : List Value) (x : DataW H × List MemPlace) (h : DataW.trod enc Tryz.prog w base spare held fuel 111 cs = some x) : ∃ y : PatV, cs = y.cells ∧ Runs w w.heap.size y.rv y.runs := by
  obtain ⟨xs, n, _, _, hlen, hxl, hf⟩ := DataW.trod_struct Tryz.underlying111 h
  rw [cells_patch] at hlen
  have hxl' : xs.length = 3 := hxl
  obtain ⟨c0, c1, c2, rfl⟩ := list_of3 hlen
  obtain ⟨y0, j0⟩ := some_of (hf 0 _ rfl) hxl' (by omega)
  have g0 : DataW.trod enc Tryz.prog w base spare held n 3 [c0] = some y0 := by simpa [cells_int] using j0
  obtain ⟨y1, j1⟩ := some_of (hf 1 _ rfl) hxl' (by omega)
  have g1 : DataW.trod enc Tryz.prog w base spare held n 4 [c1] = some y1 := by simpa [cells_bool] using j1
  obtain ⟨y2, j2⟩ := some_of (hf 2 _ rfl) hxl' (by omega)
  have g2 : DataW.trod enc Tryz.prog w base spare held n 109 [c2] = some y2 := by simpa [cells_runs] using j2
  obtain ⟨t0, e0, _, _⟩ := DataW.trod_int Tryz.underlying3 g0
  obtain ⟨b1, e1, _⟩ := DataW.trod_bool Tryz.underlying4 g1
  obtain ⟨rs, hrs, hr⟩ := open_sliceG (⟨0, [], .slice none 0 0⟩ : RunV) _ _ Tryz.underlying109 2 cells_run (by omega) RunV.cells RunV.cells_length (fun y => BytesAt w w.heap.size y.dv y.data) open_run g2
  simp only [List.cons.injEq, and_true] at e0 e1
  subst e0 e1
  exact ⟨⟨t0, b1, rs, c2⟩, rfl, hrs, hr⟩
theorem open_rec (fuel : Nat) (cs : List Value) (x : DataW H × List MemPlace) (h : DataW.trod enc Tryz.prog w base spare held fuel 41 cs = some x) : ∃ y : RecV, cs = y.cells ∧ RecOk w w.heap.size y := by
  obtain ⟨xs, n, _, _, hlen, hxl, hf⟩ := DataW.trod_struct Tryz.underlying41 h
  rw [cells_rec] at hlen
  have hxl' : xs.length = 6 := hxl
  obtain ⟨c0, c1, c2, c3, c4, c5, c6, c7, c8, c9, c10, c11, c12, c13, c14, rfl⟩ := list_of15 hlen
  obtain ⟨y0, j0⟩ := some_of (hf 0 _ rfl) hxl' (by omega)
  have g0 : DataW.trod enc Tryz.prog w base spare held n 3 [c0] = some y0 := by simpa [cells_int] using j0
  obtain ⟨y1, j1⟩ := some_of (hf 1 _ rfl) hxl' (by omega)
  have g1 : DataW.trod enc Tryz.prog w base spare held n 3 [c1] = some y1 := by simpa [cells_int] using j1
  obtain ⟨y2, j2⟩ := some_of (hf 2 _ rfl) hxl' (by omega)
  have g2 : DataW.trod enc Tryz.prog w base spare held n 3 [c2] = some y2 := by simpa [cells_int] using j2
  obtain ⟨y3, j3⟩ := some_of (hf 3 _ rfl) hxl' (by omega)
  have g3 : DataW.trod enc Tryz.prog w base spare held n 3 [c3] = some y3 := by simpa [cells_int] using j3
  obtain ⟨y4, j4⟩ := some_of (hf 4 _ rfl) hxl' (by omega)
  have g4 : DataW.trod enc Tryz.prog w base spare held n 32 [c4] = some y4 := by simpa [cells_patches] using j4
  obtain ⟨y5, j5⟩ := some_of (hf 5 _ rfl) hxl' (by omega)
  have g5 : DataW.trod enc Tryz.prog w base spare held n 39 [c5, c6, c7, c8, c9, c10, c11, c12, c13, c14] = some y5 := by simpa [cells_undo] using j5
  obtain ⟨t0, e0, _, _⟩ := DataW.trod_int Tryz.underlying3 g0
  obtain ⟨t1, e1, _, _⟩ := DataW.trod_int Tryz.underlying3 g1
  obtain ⟨t2, e2, _, _⟩ := DataW.trod_int Tryz.underlying3 g2
  obtain ⟨t3, e3, _, _⟩ := DataW.trod_int Tryz.underlying3 g3
  obtain ⟨ps, hps, hp⟩ := open_sliceG (⟨0, false, [], .slice none 0 0⟩ : PatV) _ _ Tryz.underlying32 3 cells_patch (by omega) PatV.cells PatV.cells_length (fun y => Runs w w.heap.size y.rv y.runs) open_patch g4
  obtain ⟨us, nu, _, _, _, hul, hfu⟩ := DataW.trod_struct Tryz.underlying39 g5
  have hul' : us.length = 4 := hul
  obtain ⟨z0, k0⟩ := some_of (hfu 0 _ rfl) hul' (by omega)
  have q0 : DataW.trod enc Tryz.prog w base spare held nu 3 [c5] = some z0 := by simpa [cells_int] using k0
  obtain ⟨z1, k1⟩ := some_of (hfu 1 _ rfl) hul' (by omega)
  have q1 : DataW.trod enc Tryz.prog w base spare held nu 9 [c6] = some z1 := by simpa [cells_string] using k1
  obtain ⟨z2, k2⟩ := some_of (hfu 2 _ rfl) hul' (by omega)
  have q2 : DataW.trod enc Tryz.prog w base spare held nu 37 [c7, c8, c9, c10, c11, c12, c13] = some z2 := by simpa [cells_item] using k2
  obtain ⟨z3, k3⟩ := some_of (hfu 3 _ rfl) hul' (by omega)
  have q3 : DataW.trod enc Tryz.prog w base spare held nu 3 [c14] = some z3 := by simpa [cells_int] using k3
  obtain ⟨u0, a0, _, _⟩ := DataW.trod_int Tryz.underlying3 q0
  obtain ⟨u1, a1, _, _⟩ := DataW.trod_string Tryz.underlying9 q1
  obtain ⟨u3, a3, _, _⟩ := DataW.trod_int Tryz.underlying3 q3
  obtain ⟨is, ni, _, _, _, hil, hfi⟩ := DataW.trod_struct Tryz.underlying37 q2
  have hil' : is.length = 3 := hil
  obtain ⟨v0, l0⟩ := some_of (hfi 0 _ rfl) hil' (by omega)
  have r0 : DataW.trod enc Tryz.prog w base spare held ni 3 [c7] = some v0 := by simpa [cells_int] using l0
  obtain ⟨v1, l1⟩ := some_of (hfi 1 _ rfl) hil' (by omega)
  have r1 : DataW.trod enc Tryz.prog w base spare held ni 9 [c8] = some v1 := by simpa [cells_string] using l1
  obtain ⟨v2, l2⟩ := some_of (hfi 2 _ rfl) hil' (by omega)
  have r2 : DataW.trod enc Tryz.prog w base spare held ni 35 [c9, c10, c11, c12, c13] = some v2 := by simpa [cells_cell] using l2
  obtain ⟨s0, b0, _, _⟩ := DataW.trod_int Tryz.underlying3 r0
  obtain ⟨s1, b1, _, _⟩ := DataW.trod_string Tryz.underlying9 r1
  obtain ⟨dd, dv, b2, hbd, _, _, _, _⟩ := open_cell r2
  simp only [List.cons.injEq, and_true] at e0 e1 e2 e3 a0 a1 a3 b0 b1
  subst e0 e1 e2 e3 a0 a1 a3 b0 b1
  refine ⟨⟨t0, t1, t2, t3, ps, c4, ⟨u0, u1, s0, s1, dd, dv, u3⟩⟩, ?_, ⟨hps, hp⟩, hbd⟩
  simp only [cellCells, List.cons.injEq, and_true] at b2
  obtain ⟨rfl, rfl, rfl, rfl, rfl⟩ := b2
  rfl
/-- A []api.Rec that came in. -/
theorem open_recs {fuel : Nat} {v : Value} {x : DataW H × List MemPlace} (h : DataW.trod enc Tryz.prog w base spare held fuel 22 [v] = some x) : ∃ xs : List RecV, RecsAt w w.heap.size v xs :=
  open_sliceG (⟨0, 0, 0, 0, [], .slice none 0 0, undo0⟩ : RecV) _ _ Tryz.underlying22 15 cells_rec (by omega) RecV.cells RecV.cells_length (fun y => RecOk w w.heap.size y) open_rec h
end
end Go.Proofs.YtnanlaefehaifaaGreat
