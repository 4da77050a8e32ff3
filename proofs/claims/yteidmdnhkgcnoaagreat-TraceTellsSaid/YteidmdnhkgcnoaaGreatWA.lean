/-
  WALKS: moneyerref34.place, wrong, Turned.
-/
import Derived.Test.YteidmdnhkgcnoaaGreatProg
import Derived.Test.YteidmdnhkgcnoaaGreatMem
import Derived.Test.YteidmdnhkgcnoaaGreatOrd
import Derived.Deep.QuietTactic
import Derived.BigQuiet
namespace Go.Proofs.YteidmdnhkgcnoaaGreat
open Go.RowKit
/-- The rank of a Did by an order. -/
def rank (zs : List Int) (x : DidV) : Int := plc zs x.d.txn
def wrgI (l : List Int) : Int := match wrg l with | some i => (i : Int) | none => -1

theorem take_map_snoc {α β : Type} (f : α → β) {l : List α} {k : Nat} {x : α} (h : l[k]? = some x) : (l.map f).take (k + 1) = (l.map f).take k ++ [f x] := by
  obtain ⟨hk, e⟩ := List.getElem?_eq_some_iff.1 h
  rw [List.take_succ_eq_append_getElem (by simpa using hk)]
  simp [e]
theorem count_step {zs : List Int} {xs : List DidV} {k : Nat} {x y : DidV} (h : xs[k]? = some y) :
    ((xs.map (rank zs)).take (k + 1)).countP (fun b => decide (rank zs x < b)) = ((xs.map (rank zs)).take k).countP (fun b => decide (rank zs x < b)) + if rank zs x < rank zs y then 1 else 0 := by
  rw [take_map_snoc _ h, List.countP_append]
  by_cases hr : rank zs x < rank zs y <;> simp [hr]
theorem val_int {a b : Int} (h : a = b) : Value.int .i64 a = Value.int .i64 b := by rw [h]

end Go.Proofs.YteidmdnhkgcnoaaGreat
