/-
  WALKS OF THE PROGRAM: dev.New, dev.Dev.Log of a new device, dev.Dev.Free of all that there is, dev.Dev.Cut of nothing.
-/
import Derived.Test.YtnanlaefehaifaaGreatRY
namespace Go.Proofs.YtnanlaefehaifaaGreat
open Go.RowKit

set_option maxRecDepth 100000 in
theorem info_page : (Tryz.prog.info? 63).map (fun i => (i.zero, i.size, i.bytes)) = some (some (.agg Tryz.zeroCells63), 512, 512) := by kernel_rfl
set_option maxHeartbeats 3200000 in
set_option maxRecDepth 100000 in
theorem devNew_any (w : World) : Calls Tryz.prog 8 #[.int .i64 1] w fun e w' => ∃ d sv mv, e = .returned (.pointer (some ⟨d, 0, none⟩)) ∧ Blk w' d 107 (devC sv mv (.slice none 0 0) 0 0 0 0 0) ∧ w.heap.size ≤ d ∧ Below w.heap.size w w' := by
  obtain ⟨i0, hi, hz0, hz1, hz2⟩ := info_parts info_page
  have hmk0 := fun W => run_make_rowN (P := Tryz.prog) 104 63 i0 (.agg Tryz.zeroCells63) Tryz.underlying104 hi hz0 .i64 .i64 1 1 (Nat.le_refl _) (by rw [hz2]; omega) (by omega) W
  rw [hz1] at hmk0
  obtain ⟨X, hX⟩ : ∃ X, X = madeCells (Value.agg Tryz.zeroCells63).cells (1 * 512) := ⟨_, rfl⟩
  rw [← hX] at hmk0
  have hmk : ∀ W : World, (Instr.makeSlice 104 (.int .i64 1) (.int .i64 1)).run Tryz.prog W = .ok (.slice (some ⟨W.heap.size, 0, none⟩) 1 1) (W.alloc (.cells X 63)) := hmk0
  clear hX hmk0 hi hz0 hz1 hz2
  have hmm := @run_makeMap Tryz.prog
  go_enter Tryz.func8, Tryz.ntmps8
  go_wp2
  go_ret
  have hs : ((w.alloc (.cells X 63)).alloc (.map #[] 0)).heap.size = w.heap.size + 1 + 1 := by simp
  have kn := Blk.new ((w.alloc (.cells X 63)).alloc (.map #[] 0)) 107 (devC (.slice (some ⟨w.heap.size, 0, none⟩) 1 1) (.map (some (w.heap.size + 1))) (.slice none 0 0) 0 0 0 0 0)
  rw [hs] at kn
  exact ⟨_, _, _, rfl, kn, by omega, (below2 w _ _).alloc (by simp; omega) _⟩
end Go.Proofs.YtnanlaefehaifaaGreat
