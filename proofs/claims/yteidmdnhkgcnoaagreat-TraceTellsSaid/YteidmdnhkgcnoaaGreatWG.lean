/-
  WALK: moneyerref34.Order: P34.1 by its definition.
-/
import Derived.Test.YteidmdnhkgcnoaaGreatWA
import Derived.Test.YteidmdnhkgcnoaaGreatWB
import Derived.Test.YteidmdnhkgcnoaaGreatWC
import Derived.Deep.LoopGhost
import Derived.Deep.RegionHeld3
namespace Go.Proofs.YteidmdnhkgcnoaaGreat
open Go.RowKit

theorem info_did : (Tryz.prog.info? 40).map (fun i => (i.zero, i.size, i.bytes)) = some (some (.agg didZ), 13, 144) := by kernel_rfl

def comV (x y : DidV) : Bool := commute x.d.op y.d.op

/-- What Order tells, be it the program's or the reference's. -/
def OrdPost (w : World) (n : Nat) (xs : List DidV) (zs : List Int) (e : Ending) (w' : World) : Prop :=
  Below w.heap.size w w' ∧
  (((∃ x ∈ xs, rank zs x < 0) ∧ e = .returned (.tuple #[.slice none 0 0, .int .i64 0, .int .i64 1])) ∨
   ((∀ x ∈ xs, 0 ≤ rank zs x) ∧
    ((ord comV (rank zs) (invs (xs.map (rank zs))) xs = none ∧ e = .returned (.tuple #[.slice none 0 0, .int .i64 0, .int .i64 15])) ∨
     ∃ (ys ys' : List DidV) (A : Option Addr) (c : Nat), ord comV (rank zs) (invs (xs.map (rank zs))) xs = some ys ∧ ys'.map DidV.d = ys.map DidV.d ∧ invs (ys.map (rank zs)) = 0 ∧
       e = .returned (.tuple #[.slice A n c, .int .i64 (invs (xs.map (rank zs)) : Nat), .int .i64 0]) ∧ Dids w' w'.heap.size A n ys')))

theorem take_snoc1 {α : Type} {l : List α} {k : Nat} {x : α} (h : l[k]? = some x) : l.take (k + 1) = l.take k ++ [x] := by
  obtain ⟨hk, e⟩ := List.getElem?_eq_some_iff.1 h
  rw [List.take_succ_eq_append_getElem hk, e]
theorem Dids.perm {w : World} {B n : Nat} {A A' : Option Addr} {xs ys : List DidV} (h : Dids w B A n xs) (hp : ys.Perm xs) (hr : Reads w B 13 A' n (ys.flatMap DidV.cells)) : Dids w B A' n ys :=
  ⟨by rw [h.1, hp.length_eq], hr, fun x hx => h.2.2 x (hp.mem_iff.1 hx)⟩
theorem Dids.keep_ {w w' : World} {B n : Nat} {A : Option Addr} {xs : List DidV} {row : Option Nat} (h : Dids w B A n xs) (hg : w.grownBy w' row) (hB : B ≤ w.heap.size) (hr : ∀ q, q < B → some q ≠ row) : Dids w' B A n xs := by
  have hb : Below B w w' := ⟨hg.os, hg.tape, hg.output, hg.size, fun k hk => hg.block k (by omega) (hr k hk)⟩
  exact h.below hb (Nat.le_refl _)
theorem wrgI_pos {l : List Int} (h : 0 ≤ wrgI l) : ∃ i, wrg l = some i ∧ wrgI l = (i : Int) := by
  unfold wrgI at h ⊢
  cases hw : wrg l with
  | none => rw [hw] at h; simp at h
  | some i => exact ⟨i, rfl, rfl⟩
theorem wrgI_neg {l : List Int} (h : ¬ 0 ≤ wrgI l) : wrg l = none := by
  unfold wrgI at h
  cases hw : wrg l with
  | none => rfl
  | some i => rw [hw] at h; exact absurd (Int.natCast_nonneg i) h

end Go.Proofs.YteidmdnhkgcnoaaGreat
