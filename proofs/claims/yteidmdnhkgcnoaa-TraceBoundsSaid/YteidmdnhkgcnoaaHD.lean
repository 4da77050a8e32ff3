/-
  WALKS: who was committed (serial, ref34), a number among numbers (ref33.In), what counts, two lists of numbers.
-/
import Derived.Test.YteidmdnhkgcnoaaHC
import Derived.Test.YteidmdnhkgcnoaaWJ
import Derived.BigQuiet
import Derived.Deep.QuietTactic
namespace Go.Proofs.Yteidmdnhkgcnoaa
open Go.RowKit

/-- P34.3: those whose commits were written. -/
def comL (xs : List EvV) : List Int := (xs.filter (fun x => x.d.act == 2)).map (fun x => x.d.txn)
theorem comL_yes {xs : List EvV} {k : Nat} {x : EvV} (h : xs[k]? = some x) (hq : (x.d.act == 2) = true) : comL (xs.take (k + 1)) = comL (xs.take k) ++ [x.d.txn] := by
  unfold comL
  rw [take_snoc1 h, List.filter_append]
  simp [hq]
theorem comL_no {xs : List EvV} {k : Nat} {x : EvV} (h : xs[k]? = some x) (hq : (x.d.act == 2) = false) : comL (xs.take (k + 1)) = comL (xs.take k) := by
  unfold comL
  rw [take_snoc1 h, List.filter_append]
  simp [hq]
theorem comL_len (xs : List EvV) : (comL xs).length ≤ xs.length := by
  unfold comL
  rw [List.length_map]
  exact List.length_filter_le _ _
theorem ints_one (l : List Int) : ∀ u ∈ l.map (Value.int .i64), u.oneCell' = true := by
  intro u hu
  obtain ⟨x, _, rfl⟩ := List.mem_map.1 hu
  rfl
/-- What a list of numbers of the call's own is. -/
def IntsPost (w : World) (l : List Int) (e : Ending) (w' : World) : Prop :=
  ∃ A c, e = .returned (.slice A l.length c) ∧ Ints w' w'.heap.size A l.length l ∧ Below w.heap.size w w'

/-- P33.4: was it one of the abstract machine? -/
def countsD (d : DidD) : Bool := d.err != 8 && d.err != 9
def didA (d : DidD) (dv cv : Value) : Value := .agg #[.int .i64 d.txn, .int .i64 d.op.act, .string d.op.key, dv, .int .i64 d.op.lo, .int .i64 d.op.hi, .int .i64 d.op.n, .int .i64 d.err, .int .i64 d.cell.kind, cv, .int .i64 d.cell.lo, .int .i64 d.cell.hi, .int .i64 d.cell.val]
set_option maxHeartbeats 800000 in
theorem hCounts_any (d : DidD) (A1 A2 : Option Addr) (n1 c1 n2 c2 : Nat) (w : World) :
    Calls Try.prog 18 #[didA d (.slice A1 n1 c1) (.slice A2 n2 c2)] w fun e w' => e = .returned (.bool (countsD d)) ∧ Below w.heap.size w w' := by
  unfold didA
  cases t1 : (d.err != 8)
  · go_enter Try.func18, Try.ntmps18
    go_wp2
    go_ret
    exact ⟨ret_bool (by simp [countsD, t1]), (Below.refl _ _).alloc (Nat.le_refl _) _⟩
  · cases t2 : (d.err != 9)
    all_goals
      go_enter Try.func18, Try.ntmps18
      go_wp2
      go_ret
      exact ⟨ret_bool (by simp [countsD, t1, t2]), (Below.refl _ _).alloc (Nat.le_refl _) _⟩
set_option maxHeartbeats 800000 in
theorem notCounts_any (d : DidD) (A1 A2 : Option Addr) (n1 c1 n2 c2 : Nat) (w : World) :
    Calls Try.prog 17 #[didA d (.slice A1 n1 c1) (.slice A2 n2 c2)] w fun e w' => e = .returned (.bool (!countsD d)) ∧ Below w.heap.size w w' := by
  have HC := fun W => hCounts_any d A1 A2 n1 c1 n2 c2 W
  unfold didA at *
  have HCH := hide HC
  clear HC
  go_enter Try.func17, Try.ntmps17
  go_wp2_with fail
  refine (HCH.out _).mono ?_
  rintro e w1 ⟨rfl, hb1⟩
  go_wp2
  go_ret
  exact ⟨rfl, below_via ((Below.refl _ _).alloc (Nat.le_refl _) _) hb1 (by simp)⟩

end Go.Proofs.Yteidmdnhkgcnoaa
