/-
  FROM THE READING OF THE ARGUMENTS TO 'Dids', 'Ints': a []api.Did, a []int that came in.
-/
import Derived.Test.YtgokkbocboonnaaDoorProg
import Derived.Test.YtgokkbocboonnaaDoorMem
import Derived.Deep.Slices
import Derived.ChangeShapes
import Derived.ProofKit
import Derived.OpenShut
namespace Go.Proofs.YtgokkbocboonnaaDoor
open Go.RowKit Go.ChangeShapes Go.WideShapes Go.Deep
theorem cells_op : Tryd.prog.cellsOf 25 = 6 := by kernel_rfl
theorem cells_int : Tryd.prog.cellsOf 3 = 1 := by kernel_rfl
theorem cells_errno : Tryd.prog.cellsOf 31 = 1 := by kernel_rfl
theorem cells_u8 : Tryd.prog.cellsOf 5 = 1 := by kernel_rfl
theorem cells_string : Tryd.prog.cellsOf 9 = 1 := by kernel_rfl
theorem cells_bytes : Tryd.prog.cellsOf 23 = 1 := by kernel_rfl

theorem list_of5 {α : Type} {l : List α} (h : l.length = 5) : ∃ c0 c1 c2 c3 c4, l = [c0, c1, c2, c3, c4] := by
  match l, h with
  | [c0, c1, c2, c3, c4], _ => exact ⟨_, _, _, _, _, rfl⟩
theorem list_of6 {α : Type} {l : List α} (h : l.length = 6) : ∃ c0 c1 c2 c3 c4 c5, l = [c0, c1, c2, c3, c4, c5] := by
  match l, h with
  | [c0, c1, c2, c3, c4, c5], _ => exact ⟨_, _, _, _, _, _, rfl⟩
theorem list_of13 {α : Type} {l : List α} (h : l.length = 13) : ∃ c0 c1 c2 c3 c4 c5 c6 c7 c8 c9 c10 c11 c12, l = [c0, c1, c2, c3, c4, c5, c6, c7, c8, c9, c10, c11, c12] := by
  match l, h with
  | [c0, c1, c2, c3, c4, c5, c6, c7, c8, c9, c10, c11, c12], _ => exact ⟨_, _, _, _, _, _, _, _, _, _, _, _, _, rfl⟩
theorem some_of {α : Type} {l : List α} {i n : Nat} {o : Option α} (h : o = l[i]?) (hl : l.length = n) (hi : i < n) : ∃ y, o = some y := ⟨l[i]'(by omega), by rw [h, List.getElem?_eq_getElem]⟩
theorem cell_lt' {w : World} {a : Addr} {n : Nat} {v : Value} (h : w.cell? (a.add n) = some v) : a.block < w.heap.size := by
  have := World.block_lt_of_cell? w _ h
  rwa [block_of_add] at this

theorem byte_back {z : Int} (h : (Lit.int .u8 z).wf = true) : byteV (UInt8.ofNat z.toNat) = .int .u8 z := by
  have hb := bounds_u8 h
  unfold byteV
  congr 1
  simp only [UInt8.toNat_ofNat']
  omega

section
variable {H : Type} {enc : TypeId × Value → H} {w : World} {base : Nat} {spare : Nat → Bool} {held : Bool}
theorem open_bytes {fuel : Nat} {v : Value} {x : DataW H × List MemPlace} (h : DataW.trod enc Tryd.prog w base spare held fuel 23 [v] = some x) : ∃ bs, BytesAt w w.heap.size v bs := by
  rcases open_ints Tryd.underlying23 Tryd.underlying5 cells_u8 h with ⟨hcs, _⟩ | ⟨a, len, cap, zs, hcs, _, hl, hm, hz, _, hcell, hwz⟩
  · injection hcs with hcs
    subst hcs
    exact ⟨[], none, 0, 0, rfl, Nat.le_refl _, Nat.zero_le _, rfl, fun _ => rfl, Reads.none_⟩
  · injection hcs with hcs
    subst hcs
    have hlz : len ≤ zs.length := by rw [hz]; split <;> omega
    refine ⟨(zs.take len).map (fun z => UInt8.ofNat z.toNat), some a, len, cap, rfl, hl, hm, by simp; omega, fun h => (by cases h), by simp; omega, fun hn => ⟨a, rfl, cell_lt' (hcell 0 (by omega)), fun j u hu => ?_⟩⟩
    rw [List.map_map, List.getElem?_map] at hu
    obtain ⟨z, hz1, rfl⟩ := Option.map_eq_some_iff.1 hu
    rw [List.getElem?_take] at hz1
    split at hz1
    · obtain ⟨hj, e⟩ := List.getElem?_eq_some_iff.1 hz1
      rw [hcell j hj]
      have hw := hwz z (e ▸ List.getElem_mem hj)
      simp only [Function.comp_apply, byte_back hw, List.getD, hz1, Option.getD_some]
    · cases hz1

theorem open_op {fuel : Nat} {cs : List Value} {x : DataW H × List MemPlace} (h : DataW.trod enc Tryd.prog w base spare held fuel 25 cs = some x) :
    ∃ (d : OpD) (dv : Value), cs = opCells d dv ∧ BytesAt w w.heap.size dv d.data ∧ wfI d.act ∧ wfI d.lo ∧ wfI d.hi ∧ wfI d.n ∧ d.key.size ≤ maxLen := by
  obtain ⟨xs, n, _, _, hlen, hxl, hf⟩ := DataW.trod_struct Tryd.underlying25 h
  rw [cells_op] at hlen
  have hxl' : xs.length = 6 := hxl
  obtain ⟨c0, c1, c2, c3, c4, c5, rfl⟩ := list_of6 hlen
  obtain ⟨y0, j0⟩ := some_of (hf 0 _ rfl) hxl' (by omega)
  have g0 : DataW.trod enc Tryd.prog w base spare held n 3 [c0] = some y0 := by simpa [cells_int] using j0
  obtain ⟨y1, j1⟩ := some_of (hf 1 _ rfl) hxl' (by omega)
  have g1 : DataW.trod enc Tryd.prog w base spare held n 9 [c1] = some y1 := by simpa [cells_string] using j1
  obtain ⟨y2, j2⟩ := some_of (hf 2 _ rfl) hxl' (by omega)
  have g2 : DataW.trod enc Tryd.prog w base spare held n 23 [c2] = some y2 := by simpa [cells_bytes] using j2
  obtain ⟨y3, j3⟩ := some_of (hf 3 _ rfl) hxl' (by omega)
  have g3 : DataW.trod enc Tryd.prog w base spare held n 3 [c3] = some y3 := by simpa [cells_int] using j3
  obtain ⟨y4, j4⟩ := some_of (hf 4 _ rfl) hxl' (by omega)
  have g4 : DataW.trod enc Tryd.prog w base spare held n 3 [c4] = some y4 := by simpa [cells_int] using j4
  obtain ⟨y5, j5⟩ := some_of (hf 5 _ rfl) hxl' (by omega)
  have g5 : DataW.trod enc Tryd.prog w base spare held n 3 [c5] = some y5 := by simpa [cells_int] using j5
  obtain ⟨k, e0, _, w0⟩ := DataW.trod_int Tryd.underlying3 g0
  obtain ⟨ks, e1, _, w1⟩ := DataW.trod_string Tryd.underlying9 g1
  obtain ⟨bs, hbs⟩ := open_bytes g2
  obtain ⟨lo, e3, _, w3⟩ := DataW.trod_int Tryd.underlying3 g3
  obtain ⟨hi, e4, _, w4⟩ := DataW.trod_int Tryd.underlying3 g4
  obtain ⟨nn, e5, _, w5⟩ := DataW.trod_int Tryd.underlying3 g5
  simp only [List.cons.injEq, and_true] at e0 e1 e3 e4 e5
  subst e0 e1 e3 e4 e5
  exact ⟨⟨k, ks, bs, lo, hi, nn⟩, c2, rfl, hbs, w0, w3, w4, w5, w1⟩

/-- All numbers of a Did are numbers of 64 bits. -/
def DidWf (d : DidD) : Prop := wfI d.txn ∧ wfI d.op.act ∧ wfI d.op.lo ∧ wfI d.op.hi ∧ wfI d.op.n ∧ d.op.key.size ≤ maxLen ∧ wfI d.err ∧ wfI d.cell.kind ∧ wfI d.cell.lo ∧ wfI d.cell.hi ∧ wfI d.cell.val

/-- A []int that came in. -/
theorem open_ints' {fuel : Nat} {A : Option Addr} {n c : Nat} {x : DataW H × List MemPlace} (h : DataW.trod enc Tryd.prog w base spare held fuel 26 [.slice A n c] = some x) :
    ∃ zs : List Int, Ints w w.heap.size A n zs ∧ n ≤ c ∧ c ≤ maxLen ∧ ∀ z ∈ zs, wfI z := by
  rcases open_ints Tryd.underlying26 Tryd.underlying3 cells_int h with ⟨hcs, _⟩ | ⟨a, len, cap, zs, hcs, _, hl, hm, hz, _, hcell, hwz⟩
  · injection hcs with hcs
    injection hcs with e1 e2 e3
    subst e1 e2 e3
    exact ⟨[], ⟨rfl, Reads.none_⟩, Nat.le_refl _, Nat.zero_le _, fun v hv => by cases hv⟩
  · injection hcs with hcs
    injection hcs with e1 e2 e3
    subst e1 e2 e3
    have hlz : n ≤ zs.length := by rw [hz]; split <;> omega
    refine ⟨zs.take n, ⟨by simp; omega, by simp; omega, fun hn => ⟨a, rfl, cell_lt' (hcell 0 (by omega)), fun j u hu => ?_⟩⟩, hl, hm, fun z hz => hwz z (List.mem_of_mem_take hz)⟩
    rw [List.getElem?_map] at hu
    obtain ⟨z, hz1, rfl⟩ := Option.map_eq_some_iff.1 hu
    rw [List.getElem?_take] at hz1
    split at hz1
    · obtain ⟨hj, e⟩ := List.getElem?_eq_some_iff.1 hz1
      rw [hcell j hj]
      simp [List.getD, hz1]
    · cases hz1
end
end Go.Proofs.YtgokkbocboonnaaDoor
