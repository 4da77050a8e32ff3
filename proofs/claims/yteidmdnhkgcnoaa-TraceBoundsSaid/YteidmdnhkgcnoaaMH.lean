/-
  WALK: moneyerref09.Step.
-/
import Derived.Test.YteidmdnhkgcnoaaMG
namespace Go.Proofs.Yteidmdnhkgcnoaa
open Go.RowKit

def ansV (er : Int) (cd : CellD) (av : Value) : Value := .agg #[.int .i64 er, .int .i64 cd.kind, av, .int .i64 cd.lo, .int .i64 cd.hi, .int .i64 cd.val]
def opV (x : OpD) (dv : Value) : Value := .agg #[.int .i64 x.act, .string x.key, dv, .int .i64 x.lo, .int .i64 x.hi, .int .i64 x.n]
def StepPost (w : World) (xs : List PairV) (x : OpD) (e : Ending) (w' : World) : Prop :=
  ∃ A' c' ys av, e = .returned (.tuple #[.slice A' ys.length c', ansV (stepD (xs.map PairV.d) x).2.1 (stepD (xs.map PairV.d) x).2.2 av]) ∧ ys.length ≤ c' ∧ ys.map PairV.d = (stepD (xs.map PairV.d) x).1 ∧
    Pairs w' w'.heap.size A' ys.length ys ∧ BytesAt w' w'.heap.size av (stepD (xs.map PairV.d) x).2.2.data ∧ Below w.heap.size w w'
theorem Touch.one {g i : Nat} {a w : World} (h : Touch g (g + 1) a w) (u : Value) : Touch g (g + 1) a (w.setCell ⟨g, i, none⟩ u) := h.set ⟨Nat.le_refl _, Nat.lt_succ_self _⟩ u
theorem bytes_none (w : World) (B : Nat) : BytesAt w B (.slice none 0 0) [] := ⟨none, 0, 0, rfl, Nat.le_refl _, Nat.zero_le _, rfl, fun _ => rfl, Reads.none_⟩
theorem step_same {w w' : World} {B : Nat} {A : Option Addr} {n c : Nat} {xs : List PairV} {x : OpD} {er : Int} {cd : CellD} {av : Value} (h : Pairs w B A n xs) (hB : B ≤ w.heap.size) (hnc : n ≤ c) (hst : stepD (xs.map PairV.d) x = (xs.map PairV.d, er, cd)) (hb : Below w.heap.size w w') (hav : BytesAt w' w'.heap.size av cd.data) :
    StepPost w xs x (.returned (.tuple #[.slice A n c, ansV er cd av])) w' := by
  obtain rfl := h.1
  refine ⟨A, c, xs, av, by rw [hst], hnc, by rw [hst], (h.below hb hB).more (Nat.le_trans hB hb.size), by rw [hst]; exact hav, hb⟩
theorem step_touch {w W w' : World} {B g : Nat} {A : Option Addr} {n c : Nat} {xs : List PairV} {x : OpD} {er : Int} {cd : CellD} {av : Value} (h : Pairs w B A n xs) (hB : B ≤ w.heap.size) (hnc : n ≤ c) (hst : stepD (xs.map PairV.d) x = (xs.map PairV.d, er, cd)) (ht : Touch g (g + 1) W w') (hb : Below w.heap.size w W) (hg : w.heap.size ≤ g) (hav : BytesAt W B av cd.data) :
    StepPost w xs x (.returned (.tuple #[.slice A n c, ansV er cd av])) w' :=
  step_same h hB hnc hst (ht.below hb hg) ((hav.below (C := g) (ht.below (Below.refl g W) (Nat.le_refl _)) (by omega)).more (by have := ht.size; have := hb.size; omega))
theorem step_put {w W w1 w2 : World} {B g : Nat} {xs ys : List PairV} {x : OpD} {v : Value} (hst : stepD (xs.map PairV.d) x = (ys.map PairV.d, 0, cell0)) (hp : PutPost W B ys (.returned v) w1) (hB : B ≤ g) (hg : g < W.heap.size) (hb : Below w.heap.size w W) (ht : Touch g (g + 1) w1 w2) (hwg : w.heap.size ≤ g) :
    StepPost w xs x (.returned (.tuple #[v, ansV 0 cell0 (.slice none 0 0)])) w2 := by
  obtain ⟨A', c', e, hc', hr, hf, hok, hbp⟩ := hp
  injection e with e
  subst e
  have hz := hbp.size
  refine ⟨A', c', ys, _, by rw [hst], hc', by rw [hst], ⟨rfl, ?_, fun y hy => ?_⟩, by rw [hst]; exact bytes_none _ _, ?_⟩
  · rw [ht.size]
    refine ⟨hr.1, fun hn => ?_⟩
    obtain ⟨ad, e, hlt, hc⟩ := hr.2 hn
    have := hf ad e
    exact ⟨ad, e, hlt, fun j u hu => (World.cell?_of_block (w := w1) (by rw [block_of_add]; exact ht.block _ (by omega))).trans (hc j u hu)⟩
  · refine BytesAt.more (B := B) ?_ (by rw [ht.size]; omega)
    exact BytesAt.below (C := g) (hok y hy) (ht.below (Below.refl g w1) (Nat.le_refl _)) hB
  · exact ht.below (below_via hb hbp (by omega)) hwg


end Go.Proofs.Yteidmdnhkgcnoaa
