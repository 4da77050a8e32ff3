/-
  FROM THE READING OF THE ARGUMENTS TO 'Dids', 'Ints': a []api.Did, a []int that came in.
-/
import Derived.Test.YtkbcenddhcnkeaaProg
import Derived.Test.YtkbcenddhcnkeaaMem
import Derived.Deep.Slices
import Derived.ChangeShapes
import Derived.ProofKit
import Derived.OpenShut
namespace Go.Proofs.Ytkbcenddhcnkeaa
open Go.RowKit Go.ChangeShapes Go.WideShapes Go.Deep
theorem cells_int : Try.prog.cellsOf 3 = 1 := by kernel_rfl
theorem cells_u8 : Try.prog.cellsOf 5 = 1 := by kernel_rfl
theorem cells_string : Try.prog.cellsOf 9 = 1 := by kernel_rfl
theorem list_of5 {α : Type} {l : List α} (h : l.length = 5) : ∃ c0 c1 c2 c3 c4, l = [c0, c1, c2, c3, c4] := by
  match l, h with
  | [c0, c1, c2, c3, c4], _ => exact ⟨_, _, _, _, _, rfl⟩
theorem list_of6 {α : Type} {l : List α} (h : l.length = 6) : ∃ c0 c1 c2 c3 c4 c5, l = [c0, c1, c2, c3, c4, c5] := by
  match l, h with
  | [c0, c1, c2, c3, c4, c5], _ => exact ⟨_, _, _, _, _, _, rfl⟩
theorem list_of13 {α : Type} {l : List α} (h : l.length = 13) : ∃ c0 c1 c2 c3 c4 c5 c6 c7 c8 c9 c10 c11 c12, l = [c0, c1, c2, c3, c4, c5, c6, c7, c8, c9, c10, c11, c12] := by
  match l, h with
  | [c0, c1, c2, c3, c4, c5, c6, c7, c8, c9, c10, c11, c12], _ => exact ⟨_, _, _, _, _, _, _, _, _, _, _, _, _, rfl⟩
theorem some_of {α : Type} {l : List α} {i n : Nat} {o : Option α} (h : o = l[i]?) (hl : l.length = n) (hi : i < n) : ∃ y, o = some y := ⟨l[i]'(by omega), by rw [h, List.getElem?_eq_getElem]⟩
theorem cell_lt' {w : World} {a : Addr} {n : Nat} {v : Value} (h : w.cell? (a.add n) = some v) : a.block < w.heap.size := by
  have := World.block_lt_of_cell? w _ h
  rwa [block_of_add] at this

theorem byte_back {z : Int} (h : (Lit.int .u8 z).wf = true) : byteV (UInt8.ofNat z.toNat) = .int .u8 z := by
  have hb := bounds_u8 h
  unfold byteV
  congr 1
  simp only [UInt8.toNat_ofNat']
  omega

section
variable {H : Type} {enc : TypeId × Value → H} {w : World} {base : Nat} {spare : Nat → Bool} {held : Bool}
/-- All numbers of a Did are numbers of 64 bits. -/
def DidWf (d : DidD) : Prop := wfI d.txn ∧ wfI d.op.act ∧ wfI d.op.lo ∧ wfI d.op.hi ∧ wfI d.op.n ∧ d.op.key.size ≤ maxLen ∧ wfI d.err ∧ wfI d.cell.kind ∧ wfI d.cell.lo ∧ wfI d.cell.hi ∧ wfI d.cell.val

/-- A []int that came in. -/
theorem open_ints' {fuel : Nat} {A : Option Addr} {n c : Nat} {x : DataW H × List MemPlace} (h : DataW.trod enc Try.prog w base spare held fuel 24 [.slice A n c] = some x) :
    ∃ zs : List Int, Ints w w.heap.size A n zs ∧ n ≤ c ∧ c ≤ maxLen ∧ ∀ z ∈ zs, wfI z := by
  rcases open_ints Try.underlying24 Try.underlying3 cells_int h with ⟨hcs, _⟩ | ⟨a, len, cap, zs, hcs, _, hl, hm, hz, _, hcell, hwz⟩
  · injection hcs with hcs
    injection hcs with e1 e2 e3
    subst e1 e2 e3
    exact ⟨[], ⟨rfl, Reads.none_⟩, Nat.le_refl _, Nat.zero_le _, fun v hv => by cases hv⟩
  · injection hcs with hcs
    injection hcs with e1 e2 e3
    subst e1 e2 e3
    have hlz : n ≤ zs.length := by rw [hz]; split <;> omega
    refine ⟨zs.take n, ⟨by simp; omega, by simp; omega, fun hn => ⟨a, rfl, cell_lt' (hcell 0 (by omega)), fun j u hu => ?_⟩⟩, hl, hm, fun z hz => hwz z (List.mem_of_mem_take hz)⟩
    rw [List.getElem?_map] at hu
    obtain ⟨z, hz1, rfl⟩ := Option.map_eq_some_iff.1 hu
    rw [List.getElem?_take] at hz1
    split at hz1
    · obtain ⟨hj, e⟩ := List.getElem?_eq_some_iff.1 hz1
      rw [hcell j hj]
      simp [List.getD, hz1]
    · cases hz1
end
end Go.Proofs.Ytkbcenddhcnkeaa
