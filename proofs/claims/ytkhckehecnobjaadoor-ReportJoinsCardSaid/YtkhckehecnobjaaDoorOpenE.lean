/-
  FROM THE READING OF THE ARGUMENTS TO 'Evs': a []api.Event that came in; the table of powers from what the row lists.
-/
import Derived.Test.YtkhckehecnobjaaDoorOpen
import Derived.Test.YtkhckehecnobjaaDoorRows
import Derived.Test.YtkhckehecnobjaaDoorSK
import Derived.Stop.LaidErr
import Derived.Lib.LaidTab
namespace Go.Proofs.YtkhckehecnobjaaDoor
open Go.RowKit Go.ChangeShapes Go.WideShapes Go.Deep

theorem cells_event : Tryd.prog.cellsOf 35 = 15 := by kernel_rfl
theorem inI_of {z : Int} (h : wfI z) : inI z := bounds_i64 h
theorem list_of15 {α : Type} {l : List α} (h : l.length = 15) : ∃ c0 c1 c2 c3 c4 c5 c6 c7 c8 c9 c10 c11 c12 c13 c14, l = [c0, c1, c2, c3, c4, c5, c6, c7, c8, c9, c10, c11, c12, c13, c14] := by
  match l, h with
  | [c0, c1, c2, c3, c4, c5, c6, c7, c8, c9, c10, c11, c12, c13, c14], _ => exact ⟨_, _, _, _, _, _, _, _, _, _, _, _, _, _, _, rfl⟩

section
variable {H : Type} {enc : TypeId × Value → H} {w : World} {base : Nat} {spare : Nat → Bool} {held : Bool}
theorem open_event {fuel : Nat} {cs : List Value} {x : DataW H × List MemPlace} (h : DataW.trod enc Tryd.prog w base spare held fuel 35 cs = some x) :
    ∃ v : EvV, cs = v.cells ∧ EvOk w w.heap.size v ∧ EvWf v.d := by
  obtain ⟨xs, n, _, _, hlen, hxl, hf⟩ := DataW.trod_struct Tryd.underlying35 h
  rw [cells_event] at hlen
  have hxl' : xs.length = 5 := hxl
  obtain ⟨c0, c1, c2, c3, c4, c5, c6, c7, c8, c9, c10, c11, c12, c13, c14, rfl⟩ := list_of15 hlen
  obtain ⟨y0, j0⟩ := some_of (hf 0 _ rfl) hxl' (by omega)
  have g0 : DataW.trod enc Tryd.prog w base spare held n 3 [c0] = some y0 := by simpa [cells_int] using j0
  obtain ⟨y1, j1⟩ := some_of (hf 1 _ rfl) hxl' (by omega)
  have g1 : DataW.trod enc Tryd.prog w base spare held n 3 [c1] = some y1 := by simpa [cells_int] using j1
  obtain ⟨y2, j2⟩ := some_of (hf 2 _ rfl) hxl' (by omega)
  have g2 : DataW.trod enc Tryd.prog w base spare held n 3 [c2] = some y2 := by simpa [cells_int] using j2
  obtain ⟨y3, j3⟩ := some_of (hf 3 _ rfl) hxl' (by omega)
  have g3 : DataW.trod enc Tryd.prog w base spare held n 28 [c3, c4, c5, c6, c7, c8] = some y3 := by simpa [cells_op] using j3
  obtain ⟨y4, j4⟩ := some_of (hf 4 _ rfl) hxl' (by omega)
  have g4 : DataW.trod enc Tryd.prog w base spare held n 33 [c9, c10, c11, c12, c13, c14] = some y4 := by simpa [cells_answer] using j4
  obtain ⟨t0, e0, _, w0⟩ := DataW.trod_int Tryd.underlying3 g0
  obtain ⟨t1, e1, _, w1⟩ := DataW.trod_int Tryd.underlying3 g1
  obtain ⟨t2, e2, _, w2⟩ := DataW.trod_int Tryd.underlying3 g2
  obtain ⟨d, dv, e3, hb1, a1, a2, a3, a4, a5⟩ := open_op g3
  obtain ⟨er, d2, cv, e4, hb2, b0, b1, b2, b3, b4⟩ := open_answer g4
  simp only [List.cons.injEq, and_true] at e0 e1 e2
  subst e0 e1 e2
  refine ⟨⟨⟨t0, t1, t2, d, er, d2⟩, dv, cv⟩, ?_, ⟨hb1, hb2⟩, inI_of w0, inI_of w1, inI_of w2, inI_of a1, inI_of a2, inI_of a3, inI_of a4, inI_of b0, inI_of b1, inI_of b2, inI_of b3, inI_of b4⟩
  simp only [EvV.cells, ← e3, ← e4]
  rfl

/-- A []api.Event that came in. -/
theorem open_events {fuel : Nat} {A : Option Addr} {n c : Nat} {x : DataW H × List MemPlace} (h : DataW.trod enc Tryd.prog w base spare held fuel 22 [.slice A n c] = some x) :
    ∃ xs : List EvV, Evs w w.heap.size A n xs ∧ n ≤ c ∧ c ≤ maxLen ∧ ∀ v ∈ xs, EvWf v.d := by
  rcases open_slice Tryd.underlying22 h with ⟨hcs, _⟩ | ⟨a, len, cap, m, fl, D, Pl, hcs, hb, hl, hm, hmm, hx, hi⟩
  · injection hcs with hcs
    injection hcs with e1 e2 e3
    subst e1 e2 e3
    exact ⟨[], ⟨rfl, Reads.none_, fun v hv => by cases hv⟩, Nat.le_refl _, Nat.zero_le _, fun v hv => by cases hv⟩
  · injection hcs with hcs
    injection hcs with e1 e2 e3
    subst e1 e2 e3
    have hlm : n ≤ m := by rw [hmm]; split <;> omega
    have hex : ∀ i, i < n → ∃ v : EvV, (∀ j u, v.cells[j]? = some u → w.cell? (a.add (i * 15 + j)) = some u) ∧ EvOk w w.heap.size v ∧ EvWf v.d := fun i hin => by
      obtain ⟨cs', hc, ht⟩ := hi i (by omega)
      rw [cells_event] at hc
      obtain ⟨v, rfl, hok, hwf⟩ := open_event ht
      obtain ⟨_, _, hat⟩ := World.cells?_some hc
      refine ⟨v, fun j u hu => ?_, hok, hwf⟩
      have hj : j < 15 := by
        have := (List.getElem?_eq_some_iff.1 hu).1
        rwa [EvV.cells_length] at this
      rw [← Go.Deep.add_add, hat j hj, hu]
    obtain ⟨f, hf⟩ := @Go.Deep.choose_lt EvV ⟨⟨⟨0, 0, 0, ⟨0, .empty, [], 0, 0, 0⟩, 0, ⟨0, [], 0, 0, 0⟩⟩, undef, undef⟩⟩ n _ hex
    refine ⟨(List.range n).map f, ⟨by simp, ⟨by rw [flat_length _ 15 EvV.cells_length]; simp, fun hn => ⟨a, rfl, ?_, fun j u hu => ?_⟩⟩, fun v hv => ?_⟩, hl, hm, fun v hv => ?_⟩
    · exact cell_lt' ((hf 0 hn).1 0 _ rfl)
    · have hj : j < n * 15 := by
        have := (List.getElem?_eq_some_iff.1 hu).1
        rw [flat_length _ 15 EvV.cells_length] at this
        simpa using this
      have h1 : j / 15 < n := by omega
      have h2 : j = (j / 15) * 15 + j % 15 := by omega
      rw [h2, flat_at _ 15 EvV.cells_length _ _ _ (Nat.mod_lt _ (by omega))] at hu
      simp only [List.getElem?_map, List.getElem?_range h1, Option.map_some, Option.bind_some] at hu
      rw [h2]
      exact (hf (j / 15) h1).1 _ u hu
    · obtain ⟨i, hi', rfl⟩ := List.mem_map.1 hv
      exact (hf i (List.mem_range.1 hi')).2.1
    · obtain ⟨i, hi', rfl⟩ := List.mem_map.1 hv
      exact (hf i (List.mem_range.1 hi')).2.2
end

/-- What the laws' rows list. -/
def laid3 : List (String × DataW Unit) := [("math/bits.deBruijn32tab", Rows.laid_math_bits_deBruijn32tab), ("math/bits.deBruijn64tab", Rows.laid_math_bits_deBruijn64tab), ("internal/strconv.uint64pow10", Rows.laid_internal_strconv_uint64pow10)]
theorem pow_tab : (Rows.laid_internal_strconv_uint64pow10 : DataW Unit) = Lib.tabData .u64 Lib.pow10Tab := by kernel_rfl
theorem ptab_of {W : World} (h : laidMet Tryd.prog laid3 W) : PTab W := by
  have h3 := h.tail.tail
  rw [pow_tab] at h3
  exact Lib.tabIs_of_head (g := 1) (t := 110) (e := 81) (n := 20) (by kernel_rfl) (by kernel_rfl) Tryd.underlying110 Tryd.underlying81 (by kernel_rfl) (by kernel_rfl) h3

section
variable {H : Type} {enc : TypeId × Value → H} {P : Program}
/-- The row's last step where of the world behind the call 'Below' alone is known (after the guide's page extra-small, section 9). -/
theorem post_of_below {f : Func} {s : ChangeSpec} {apart fresh handsOn again : Bool} {W W' : World} {args : Array Value} {v : Value} {ds gs : List (DataW H)} {before pa pv : List MemPlace}
    (hW : DataW.Whole enc P f.params.toList s.vars apart W args.toList ds gs before)
    (hres : ∀ (b : Nat) (sp : Nat → Bool) (hd : Bool), DataW.TrodAll enc P W' b sp hd f.resultTypes.toList (v.resultList f.resultTypes.size) (s.fn H (ds ++ gs)).results [])
    (hargs : ∀ sp : Nat → Bool, (∀ p ∈ before, sp p.block = true) → DataW.TrodAll enc P W' 0 sp true f.params.toList args.toList (s.fn H (ds ++ gs)).args pa)
    (hvars : ∀ sp : Nat → Bool, (∀ p ∈ before, sp p.block = true) → DataW.TrodVars enc P W' sp s.vars (s.fn H (ds ++ gs)).vars pv)
    (hps : before = pa ++ pv) (hb : Below W.heap.size W W')
    (hok : ∀ (j : Nat) (t : TypeId) (r : Value), f.resultTypes[j]? = some t → (v.resultList f.resultTypes.size)[j]? = some r → Value.okWide P W' .any 0 t r) :
    s.post enc P f apart fresh handsOn again W args v W' := by
  have hlt : ∀ p ∈ before, p.block < W.heap.size := fun p hp => hW.lt p hp
  have hold : ∀ p ∈ before, (fun b => decide (b < W.heap.size)) p.block = true := fun p hp => by simpa using hlt p hp
  refine ⟨ds, gs, before, [], pa, pv, hW, hres _ _ _, hargs _ hold, hvars _ hold, World.keptBut_mono (fun p hp => ⟨hp, ?_⟩) (hb.frame (· ∈ before)), fun _ => ?_⟩
  · rw [hps, List.mem_append] at hp
    exact Or.inr hp
  · obtain ⟨_, _, _, _, _, hz, hn⟩ := hW
    refine ⟨hok, _, _, ([] ++ pa) ++ pv, ⟨[] ++ pa, pv, trodAll_append (hargs _ (fun _ _ => rfl)) (hres _ _ _), hvars _ (fun _ _ => rfl), rfl, ?_, ?_⟩, ?_⟩
    · intro b off hp
      have hin : MemPlace.cell b off ∈ before := by rw [hps]; simpa using hp
      rw [hb.frozen (hlt _ hin)]
      exact hz b off hin
    · intro ha
      have := hn ha
      rw [hps] at this
      simpa using this
    · intro p hp _
      rw [hps]
      simpa using hp
end

/-- The numbers of a table as cells. -/
def tabCells : DataW Unit → Array Value
  | .agg l => (l.map fun | .lit (.int k z) => Value.int k z | _ => undef).toArray
  | _ => #[]
/-- A world for the witness: the settled one, the tables holding what their initialisers lay. -/
noncomputable def laidWorld (os : Os) : World :=
  let w := World.holding Tryd.prog os ⟨#[], #[], []⟩
  { w with heap := ((w.heap.modify 2 fun
      | .cells _ t frozen => .cells (tabCells Rows.laid_math_bits_deBruijn32tab) t frozen
      | o => o).modify 3 fun
      | .cells _ t frozen => .cells (tabCells Rows.laid_math_bits_deBruijn64tab) t frozen
      | o => o).modify 1 fun
      | .cells _ t frozen => .cells (tabCells Rows.laid_internal_strconv_uint64pow10) t frozen
      | o => o }
theorem own : ownKnob Tryd.prog.godebug = none := by kernel_rfl
theorem laidOut : laidOutB Tryd.prog = true := by kernel_rfl
end Go.Proofs.YtkhckehecnobjaaDoor
