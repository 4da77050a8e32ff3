/-
  WALKS OF THE PROGRAM: model.move, model.rules.
-/
import Derived.Test.YtkbopbnkleojdaaDoorPB
import Derived.Laws.EntriesVeiled
namespace Go.Proofs.YtkbopbnkleojdaaDoor
open Go.RowKit

theorem moveC_any (f : Nat) (w : World) :
    Calls Tryd.prog 68 #[.func (.func f) #[] #[]] w fun e w' => e = .returned (.func (.func 78) #[] #[.pointer (some ⟨w.heap.size, 0, none⟩)]) ∧ w' = w.alloc (.cells #[.func (.func f) #[] #[]] 108) := by
  go_enter Tryd.func68, Tryd.ntmps68
  go_wp2
  go_ret
  exact ⟨rfl, rfl⟩

def RulesPost (w : World) (e : Ending) (w' : World) : Prop :=
  ∃ g1 g2 : Nat, e = .returned (.agg #[.func (.func 64) #[] #[], .func (.func 65) #[] #[], .func (.func 66) #[] #[], .func (.func 67) #[] #[], .func (.func 78) #[] #[.pointer (some ⟨g1, 0, none⟩)], .func (.func 78) #[] #[.pointer (some ⟨g2, 0, none⟩)]]) ∧
    g1 < w'.heap.size ∧ w'.cell? ⟨g1, 0, none⟩ = some (.func (.func 69) #[] #[]) ∧ g2 < w'.heap.size ∧ w'.cell? ⟨g2, 0, none⟩ = some (.func (.func 70) #[] #[]) ∧ Below w.heap.size w w'
set_option maxHeartbeats 800000 in
theorem rules_any (w : World) : Calls Tryd.prog 50 #[] w (RulesPost w) := by
  go_enter Tryd.func50, Tryd.ntmps50
  go_wp2_with (go_at_call 68; refine (moveC_any _ _).mono ?_; rintro e w1 ⟨rfl, rfl⟩)
  refine bodyPost_ret (v := .agg #[.func (.func 64) #[] #[], .func (.func 65) #[] #[], .func (.func 66) #[] #[], .func (.func 67) #[] #[], .func (.func 78) #[] #[.pointer (some ⟨w.heap.size + 1, 0, none⟩)], .func (.func 78) #[] #[.pointer (some ⟨w.heap.size + 1 + 1, 0, none⟩)]]) (by simp [results, Tryd.results50, go_sem]) rfl ?_
  refine ⟨w.heap.size + 1, w.heap.size + 1 + 1, rfl, by simp, by simp [go_sem], by simp, by simp [go_sem], ?_⟩
  exact ((below2 _ _ _).alloc (by simp; omega) _)
end Go.Proofs.YtkbopbnkleojdaaDoor
