/-
  DRAWN REGIONS WHOSE CALLEES ALLOCATE: the quiet walk over the class of all worlds that agree below a bound.
-/
import Derived.Test.YtkhckehecnobjaaDoorMem
import Derived.Deep.QuietTactic
import Derived.BigQuiet
namespace Go.Proofs.YtkhckehecnobjaaDoor
open Go.RowKit

/-- A world of the class. -/
structure In (C : World → Prop) where
  w : World
  h : C w

instance (N : Nat) (w : World) : Nonempty (In (Below N w)) := ⟨⟨w, Below.refl _ _⟩⟩

theorem wp_region_in {P : Program} {C : World → Prop} {id : Nat} {Q : Exit → Act → World → Prop} {a : Act} {w : World} {l : List Oper} (hm : P.follows .mixedOrders = true) (hB : Region.lexB .any l.toArray = true) (hC : C w.drew)
    (h : wpQuiet P l.toArray (fun w' => ∃ t : In C, w' = t.w) (fun a' => ∀ w', (∃ t : In C, w' = t.w) → Q .normal a' w') l a) : (Code.region id l.toArray true).wp P Q a w :=
  wp_region_quiet (C := fun w' => ∃ t : In C, w' = t.w) hm hB ⟨⟨_, hC⟩, rfl⟩ (by simpa using h)

theorem calls_in {P : Program} {f : FuncId} {args : Array Value} {N : Nat} {w : World} {v : Value} {t : In (Below N w)} (hN : N ≤ w.heap.size)
    (h : Calls P f args t.w fun e w' => e = .returned v ∧ Below t.w.heap.size t.w w') : Calls P f args t.w fun e w'' => e = .returned v ∧ ∃ t' : In (Below N w), w'' = t'.w :=
  h.mono fun _ _ ⟨he, hb⟩ => ⟨he, ⟨_, below_via t.h hb (Nat.le_trans hN t.h.size)⟩, rfl⟩
theorem calls_in_same {P : Program} {f : FuncId} {args : Array Value} {C : World → Prop} {v : Value} {t : In C}
    (h : Calls P f args t.w fun e w' => e = .returned v ∧ w' = t.w) : Calls P f args t.w fun e w'' => e = .returned v ∧ ∃ t' : In C, w'' = t'.w :=
  h.mono fun _ _ ⟨he, hb⟩ => ⟨he, t, hb⟩

end Go.Proofs.YtkhckehecnobjaaDoor
