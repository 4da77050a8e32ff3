/-
  WALKS OF THE PROGRAM: model.move, model.rules.
-/
import Derived.Test.YteidmdnhkgcnoaaPB
import Derived.Laws.EntriesVeiled
namespace Go.Proofs.Yteidmdnhkgcnoaa
open Go.RowKit

theorem moveC_any (f : Nat) (w : World) :
    Calls Try.prog 73 #[.func (.func f) #[] #[]] w fun e w' => e = .returned (.func (.func 83) #[] #[.pointer (some ⟨w.heap.size, 0, none⟩)]) ∧ w' = w.alloc (.cells #[.func (.func f) #[] #[]] 122) := by
  go_enter Try.func73, Try.ntmps73
  go_wp2
  go_ret
  exact ⟨rfl, rfl⟩

def RulesPost (w : World) (e : Ending) (w' : World) : Prop :=
  ∃ g1 g2 : Nat, e = .returned (.agg #[.func (.func 69) #[] #[], .func (.func 70) #[] #[], .func (.func 71) #[] #[], .func (.func 72) #[] #[], .func (.func 83) #[] #[.pointer (some ⟨g1, 0, none⟩)], .func (.func 83) #[] #[.pointer (some ⟨g2, 0, none⟩)]]) ∧
    g1 < w'.heap.size ∧ w'.cell? ⟨g1, 0, none⟩ = some (.func (.func 74) #[] #[]) ∧ g2 < w'.heap.size ∧ w'.cell? ⟨g2, 0, none⟩ = some (.func (.func 75) #[] #[]) ∧ Below w.heap.size w w'
set_option maxHeartbeats 800000 in
theorem rules_any (w : World) : Calls Try.prog 55 #[] w (RulesPost w) := by
  go_enter Try.func55, Try.ntmps55
  go_wp2_with (go_at_call 73; refine (moveC_any _ _).mono ?_; rintro e w1 ⟨rfl, rfl⟩)
  refine bodyPost_ret (v := .agg #[.func (.func 69) #[] #[], .func (.func 70) #[] #[], .func (.func 71) #[] #[], .func (.func 72) #[] #[], .func (.func 83) #[] #[.pointer (some ⟨w.heap.size + 1, 0, none⟩)], .func (.func 83) #[] #[.pointer (some ⟨w.heap.size + 1 + 1, 0, none⟩)]]) (by simp [results, Try.results55, go_sem]) rfl ?_
  refine ⟨w.heap.size + 1, w.heap.size + 1 + 1, rfl, by simp, by simp [go_sem], by simp, by simp [go_sem], ?_⟩
  exact ((below2 _ _ _).alloc (by simp; omega) _)
end Go.Proofs.Yteidmdnhkgcnoaa
