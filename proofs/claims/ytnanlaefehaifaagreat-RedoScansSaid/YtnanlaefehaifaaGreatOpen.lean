/-
  FROM THE READING OF THE ARGUMENTS TO 'Dids', 'Ints': a []api.Did, a []int that came in.
-/
import Derived.Test.YtnanlaefehaifaaGreatProg
import Derived.Test.YtnanlaefehaifaaGreatMem
import Derived.Deep.Slices
import Derived.ChangeShapes
import Derived.ProofKit
import Derived.OpenShut
namespace Go.Proofs.YtnanlaefehaifaaGreat
open Go.RowKit Go.ChangeShapes Go.WideShapes Go.Deep
theorem cells_cell : Tryz.prog.cellsOf 35 = 5 := by kernel_rfl
theorem cells_int : Tryz.prog.cellsOf 3 = 1 := by kernel_rfl
theorem cells_errno : Tryz.prog.cellsOf 25 = 1 := by kernel_rfl
theorem cells_u8 : Tryz.prog.cellsOf 5 = 1 := by kernel_rfl
theorem cells_string : Tryz.prog.cellsOf 9 = 1 := by kernel_rfl
theorem cells_bytes : Tryz.prog.cellsOf 33 = 1 := by kernel_rfl

theorem list_of5 {α : Type} {l : List α} (h : l.length = 5) : ∃ c0 c1 c2 c3 c4, l = [c0, c1, c2, c3, c4] := by
  match l, h with
  | [c0, c1, c2, c3, c4], _ => exact ⟨_, _, _, _, _, rfl⟩
theorem list_of6 {α : Type} {l : List α} (h : l.length = 6) : ∃ c0 c1 c2 c3 c4 c5, l = [c0, c1, c2, c3, c4, c5] := by
  match l, h with
  | [c0, c1, c2, c3, c4, c5], _ => exact ⟨_, _, _, _, _, _, rfl⟩
theorem list_of13 {α : Type} {l : List α} (h : l.length = 13) : ∃ c0 c1 c2 c3 c4 c5 c6 c7 c8 c9 c10 c11 c12, l = [c0, c1, c2, c3, c4, c5, c6, c7, c8, c9, c10, c11, c12] := by
  match l, h with
  | [c0, c1, c2, c3, c4, c5, c6, c7, c8, c9, c10, c11, c12], _ => exact ⟨_, _, _, _, _, _, _, _, _, _, _, _, _, rfl⟩
theorem some_of {α : Type} {l : List α} {i n : Nat} {o : Option α} (h : o = l[i]?) (hl : l.length = n) (hi : i < n) : ∃ y, o = some y := ⟨l[i]'(by omega), by rw [h, List.getElem?_eq_getElem]⟩
theorem cell_lt' {w : World} {a : Addr} {n : Nat} {v : Value} (h : w.cell? (a.add n) = some v) : a.block < w.heap.size := by
  have := World.block_lt_of_cell? w _ h
  rwa [block_of_add] at this

theorem byte_back {z : Int} (h : (Lit.int .u8 z).wf = true) : byteV (UInt8.ofNat z.toNat) = .int .u8 z := by
  have hb := bounds_u8 h
  unfold byteV
  congr 1
  simp only [UInt8.toNat_ofNat']
  omega

section
variable {H : Type} {enc : TypeId × Value → H} {w : World} {base : Nat} {spare : Nat → Bool} {held : Bool}
theorem open_bytes {fuel : Nat} {v : Value} {x : DataW H × List MemPlace} (h : DataW.trod enc Tryz.prog w base spare held fuel 33 [v] = some x) : ∃ bs, BytesAt w w.heap.size v bs := by
  rcases open_ints Tryz.underlying33 Tryz.underlying5 cells_u8 h with ⟨hcs, _⟩ | ⟨a, len, cap, zs, hcs, _, hl, hm, hz, _, hcell, hwz⟩
  · injection hcs with hcs
    subst hcs
    exact ⟨[], none, 0, 0, rfl, Nat.le_refl _, Nat.zero_le _, rfl, fun _ => rfl, Reads.none_⟩
  · injection hcs with hcs
    subst hcs
    have hlz : len ≤ zs.length := by rw [hz]; split <;> omega
    refine ⟨(zs.take len).map (fun z => UInt8.ofNat z.toNat), some a, len, cap, rfl, hl, hm, by simp; omega, fun h => (by cases h), by simp; omega, fun hn => ⟨a, rfl, cell_lt' (hcell 0 (by omega)), fun j u hu => ?_⟩⟩
    rw [List.map_map, List.getElem?_map] at hu
    obtain ⟨z, hz1, rfl⟩ := Option.map_eq_some_iff.1 hu
    rw [List.getElem?_take] at hz1
    split at hz1
    · obtain ⟨hj, e⟩ := List.getElem?_eq_some_iff.1 hz1
      rw [hcell j hj]
      have hw := hwz z (e ▸ List.getElem_mem hj)
      simp only [Function.comp_apply, byte_back hw, List.getD, hz1, Option.getD_some]
    · cases hz1

theorem open_cell {fuel : Nat} {cs : List Value} {x : DataW H × List MemPlace} (h : DataW.trod enc Tryz.prog w base spare held fuel 35 cs = some x) :
    ∃ (d : CellD) (dv : Value), cs = cellCells d dv ∧ BytesAt w w.heap.size dv d.data ∧ wfI d.kind ∧ wfI d.lo ∧ wfI d.hi ∧ wfI d.val := by
  obtain ⟨xs, n, _, _, hlen, hxl, hf⟩ := DataW.trod_struct Tryz.underlying35 h
  rw [cells_cell] at hlen
  have hxl' : xs.length = 5 := hxl
  obtain ⟨c0, c1, c2, c3, c4, rfl⟩ := list_of5 hlen
  obtain ⟨y0, j0⟩ := some_of (hf 0 _ rfl) hxl' (by omega)
  have g0 : DataW.trod enc Tryz.prog w base spare held n 3 [c0] = some y0 := by simpa [cells_int] using j0
  obtain ⟨y1, j1⟩ := some_of (hf 1 _ rfl) hxl' (by omega)
  have g1 : DataW.trod enc Tryz.prog w base spare held n 33 [c1] = some y1 := by simpa [cells_bytes] using j1
  obtain ⟨y2, j2⟩ := some_of (hf 2 _ rfl) hxl' (by omega)
  have g2 : DataW.trod enc Tryz.prog w base spare held n 3 [c2] = some y2 := by simpa [cells_int] using j2
  obtain ⟨y3, j3⟩ := some_of (hf 3 _ rfl) hxl' (by omega)
  have g3 : DataW.trod enc Tryz.prog w base spare held n 3 [c3] = some y3 := by simpa [cells_int] using j3
  obtain ⟨y4, j4⟩ := some_of (hf 4 _ rfl) hxl' (by omega)
  have g4 : DataW.trod enc Tryz.prog w base spare held n 3 [c4] = some y4 := by simpa [cells_int] using j4
  obtain ⟨k, e0, _, w0⟩ := DataW.trod_int Tryz.underlying3 g0
  obtain ⟨bs, hbs⟩ := open_bytes g1
  obtain ⟨lo, e2, _, w2⟩ := DataW.trod_int Tryz.underlying3 g2
  obtain ⟨hi, e3, _, w3⟩ := DataW.trod_int Tryz.underlying3 g3
  obtain ⟨va, e4, _, w4⟩ := DataW.trod_int Tryz.underlying3 g4
  simp only [List.cons.injEq, and_true] at e0 e2 e3 e4
  subst e0 e2 e3 e4
  exact ⟨⟨k, bs, lo, hi, va⟩, c1, rfl, hbs, w0, w2, w3, w4⟩

/-- All numbers of a Did are numbers of 64 bits. -/
def DidWf (d : DidD) : Prop := wfI d.txn ∧ wfI d.op.act ∧ wfI d.op.lo ∧ wfI d.op.hi ∧ wfI d.op.n ∧ d.op.key.size ≤ maxLen ∧ wfI d.err ∧ wfI d.cell.kind ∧ wfI d.cell.lo ∧ wfI d.cell.hi ∧ wfI d.cell.val

/-- A []int that came in. -/
theorem open_ints' {fuel : Nat} {A : Option Addr} {n c : Nat} {x : DataW H × List MemPlace} (h : DataW.trod enc Tryz.prog w base spare held fuel 30 [.slice A n c] = some x) :
    ∃ zs : List Int, Ints w w.heap.size A n zs ∧ n ≤ c ∧ c ≤ maxLen ∧ ∀ z ∈ zs, wfI z := by
  rcases open_ints Tryz.underlying30 Tryz.underlying3 cells_int h with ⟨hcs, _⟩ | ⟨a, len, cap, zs, hcs, _, hl, hm, hz, _, hcell, hwz⟩
  · injection hcs with hcs
    injection hcs with e1 e2 e3
    subst e1 e2 e3
    exact ⟨[], ⟨rfl, Reads.none_⟩, Nat.le_refl _, Nat.zero_le _, fun v hv => by cases hv⟩
  · injection hcs with hcs
    injection hcs with e1 e2 e3
    subst e1 e2 e3
    have hlz : n ≤ zs.length := by rw [hz]; split <;> omega
    refine ⟨zs.take n, ⟨by simp; omega, by simp; omega, fun hn => ⟨a, rfl, cell_lt' (hcell 0 (by omega)), fun j u hu => ?_⟩⟩, hl, hm, fun z hz => hwz z (List.mem_of_mem_take hz)⟩
    rw [List.getElem?_map] at hu
    obtain ⟨z, hz1, rfl⟩ := Option.map_eq_some_iff.1 hu
    rw [List.getElem?_take] at hz1
    split at hz1
    · obtain ⟨hj, e⟩ := List.getElem?_eq_some_iff.1 hz1
      rw [hcell j hj]
      simp [List.getD, hz1]
    · cases hz1
end
end Go.Proofs.YtnanlaefehaifaaGreat
