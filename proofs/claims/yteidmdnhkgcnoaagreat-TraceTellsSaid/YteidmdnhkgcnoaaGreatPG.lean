/-
  WALKS OF THE PROGRAM: model.move, model.rules.
-/
import Derived.Test.YteidmdnhkgcnoaaGreatPB
import Derived.Laws.EntriesVeiled
namespace Go.Proofs.YteidmdnhkgcnoaaGreat
open Go.RowKit

theorem moveC_any (f : Nat) (w : World) :
    Calls Tryz.prog 107 #[.func (.func f) #[] #[]] w fun e w' => e = .returned (.func (.func 118) #[] #[.pointer (some ⟨w.heap.size, 0, none⟩)]) ∧ w' = w.alloc (.cells #[.func (.func f) #[] #[]] 148) := by
  go_enter Tryz.func107, Tryz.ntmps107
  go_wp2
  go_ret
  exact ⟨rfl, rfl⟩

def RulesPost (w : World) (e : Ending) (w' : World) : Prop :=
  ∃ g1 g2 : Nat, e = .returned (.agg #[.func (.func 103) #[] #[], .func (.func 104) #[] #[], .func (.func 105) #[] #[], .func (.func 106) #[] #[], .func (.func 118) #[] #[.pointer (some ⟨g1, 0, none⟩)], .func (.func 118) #[] #[.pointer (some ⟨g2, 0, none⟩)]]) ∧
    g1 < w'.heap.size ∧ w'.cell? ⟨g1, 0, none⟩ = some (.func (.func 108) #[] #[]) ∧ g2 < w'.heap.size ∧ w'.cell? ⟨g2, 0, none⟩ = some (.func (.func 109) #[] #[]) ∧ Below w.heap.size w w'
set_option maxHeartbeats 800000 in
theorem rules_any (w : World) : Calls Tryz.prog 84 #[] w (RulesPost w) := by
  go_enter Tryz.func84, Tryz.ntmps84
  go_wp2_with (go_at_call 107; refine (moveC_any _ _).mono ?_; rintro e w1 ⟨rfl, rfl⟩)
  refine bodyPost_ret (v := .agg #[.func (.func 103) #[] #[], .func (.func 104) #[] #[], .func (.func 105) #[] #[], .func (.func 106) #[] #[], .func (.func 118) #[] #[.pointer (some ⟨w.heap.size + 1, 0, none⟩)], .func (.func 118) #[] #[.pointer (some ⟨w.heap.size + 1 + 1, 0, none⟩)]]) (by simp [results, Tryz.results84, go_sem]) rfl ?_
  refine ⟨w.heap.size + 1, w.heap.size + 1 + 1, rfl, by simp, by simp [go_sem], by simp, by simp [go_sem], ?_⟩
  exact ((below2 _ _ _).alloc (by simp; omega) _)
end Go.Proofs.YteidmdnhkgcnoaaGreat
