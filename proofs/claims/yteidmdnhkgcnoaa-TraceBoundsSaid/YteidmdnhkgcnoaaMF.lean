/-
  WALK: moneyerref09.Put.
-/
import Derived.Test.YteidmdnhkgcnoaaME
import Derived.Test.YteidmdnhkgcnoaaApp
namespace Go.Proofs.Yteidmdnhkgcnoaa
open Go.RowKit

def pairZ : Array Value := #[.string ByteArray.empty, .int .i64 0, .slice none 0 0, .int .i64 0, .int .i64 0, .int .i64 0]
theorem info_pair : (Try.prog.info? 29).map (fun i => (i.zero, i.size, i.bytes)) = some (some (.agg pairZ), 6, 72) := by kernel_rfl

def PutPost (w : World) (B : Nat) (ys : List PairV) (e : Ending) (w' : World) : Prop :=
  ∃ A' c', e = .returned (.slice A' ys.length c') ∧ ys.length ≤ c' ∧ Reads w' w'.heap.size 6 A' ys.length (ys.flatMap PairV.cells) ∧ (∀ ad, A' = some ad → w.heap.size ≤ ad.block) ∧ (∀ y ∈ ys, PairOk w' B y) ∧ Below w.heap.size w w'
theorem posV_le (xs : List PairV) (k : ByteArray) : posV xs k ≤ xs.length := (List.takeWhile_prefix _).length_le
/-- What ends the loop is the place. -/
theorem posV_eq {xs : List PairV} {k : ByteArray} {j : Nat} (hj : j ≤ xs.length) (h1 : ∀ (q : Nat) y, q < j → xs[q]? = some y → kless y.d.key k = true) (h2 : ∀ y, xs[j]? = some y → kless y.d.key k = false) : posV xs k = j := by
  unfold posV
  induction xs generalizing j with
  | nil => simp at hj; subst hj; rfl
  | cons x t ih =>
    rw [List.takeWhile_cons]
    cases j with
    | zero => rw [h2 x rfl]; rfl
    | succ j =>
      rw [h1 0 x (by omega) rfl]
      have := ih (j := j) (by simpa using hj) (fun q y hq hy => h1 (q + 1) y (by omega) (by simpa using hy)) (fun y hy => h2 y (by simpa using hy))
      simp [this]

theorem put_close {w w' : World} {base B m : Nat} {v' : Value} {ys : List PairV} {L : List Value} (hown : w'.ownsRow base 29 6 v' m L) (hL : L = ys.flatMap PairV.cells) (hm : m = ys.length) (hok : ∀ y ∈ ys, PairOk w' B y) (hB : w.heap.size ≤ base) (hb : Below w.heap.size w w') : PutPost w B ys (.returned v') w' := by
  subst hL hm
  obtain ⟨A', c', rfl, hnc, _, _, hr, hf⟩ := own_slice hown
  exact ⟨A', c', rfl, hnc, hr, fun ad e => Nat.le_trans hB (hf ad e), hok, hb⟩
theorem putV_flat0 {xs : List PairV} {k : ByteArray} {cd : CellD} {cv : Value} {j : Nat} {b : Bool} (h1 : posV xs k = j) (h2 : hereV xs k = b) (h3 : cd.kind = 0) : (putV xs k cd cv).flatMap PairV.cells = (xs.take j).flatMap PairV.cells ++ (xs.drop (j + if b then 1 else 0)).flatMap PairV.cells := by
  unfold putV
  rw [h1, h2, if_pos h3, List.append_nil, List.flatMap_append]
theorem putV_flat1 {xs : List PairV} {k : ByteArray} {cd : CellD} {cv : Value} {j : Nat} {b : Bool} (h1 : posV xs k = j) (h2 : hereV xs k = b) (h3 : ¬ cd.kind = 0) : (putV xs k cd cv).flatMap PairV.cells = ((xs.take j).flatMap PairV.cells ++ PairV.cells ⟨⟨k, cd⟩, cv⟩) ++ (xs.drop (j + if b then 1 else 0)).flatMap PairV.cells := by
  unfold putV
  rw [h1, h2, if_neg h3, List.flatMap_append, List.flatMap_append, List.flatMap_cons, List.flatMap_nil, List.append_nil]
theorem mem_putV {xs : List PairV} {k : ByteArray} {cd : CellD} {cv : Value} {y : PairV} (h : y ∈ putV xs k cd cv) : y ∈ xs ∨ y = ⟨⟨k, cd⟩, cv⟩ := by
  unfold putV at h
  rw [List.mem_append, List.mem_append] at h
  rcases h with (h | h) | h
  · exact .inl (List.mem_of_mem_take h)
  · split at h
    · cases h
    · rw [List.mem_singleton] at h; exact .inr h
  · exact .inl (List.mem_of_mem_drop h)

end Go.Proofs.Yteidmdnhkgcnoaa
