/-
  WALK: moneyerref34.Replay.
-/
import Derived.Test.YteidmdnhkgcnoaaMH
import Derived.Test.YteidmdnhkgcnoaaWC
namespace Go.Proofs.Yteidmdnhkgcnoaa
open Go.RowKit BigFrame

def ReplayPost (w : World) (xs : List PairV) (ds : List DidV) (e : Ending) (w' : World) : Prop :=
  ∃ A' c' ys, e = .returned (.tuple #[.slice A' ys.length c', .int .i64 ((replayD (xs.map PairV.d) (ds.map DidV.d)).2 : Nat)]) ∧ ys.map PairV.d = (replayD (xs.map PairV.d) (ds.map DidV.d)).1 ∧ Pairs w' w'.heap.size A' ys.length ys ∧ Below w.heap.size w w'
/-- The same, and there is room for what is told. -/
def ReplayPostC (w : World) (xs : List PairV) (ds : List DidV) (e : Ending) (w' : World) : Prop :=
  ∃ A' c' ys, e = .returned (.tuple #[.slice A' ys.length c', .int .i64 ((replayD (xs.map PairV.d) (ds.map DidV.d)).2 : Nat)]) ∧ ys.map PairV.d = (replayD (xs.map PairV.d) (ds.map DidV.d)).1 ∧ Pairs w' w'.heap.size A' ys.length ys ∧ Below w.heap.size w w' ∧ ys.length ≤ c'
def opsOf (ds : List DidV) : List OpD := ds.map (fun d => d.d.op)
/-- What has been replayed so far. -/
def AllSame (s : List PairD) (ds : List DidV) (k : Nat) : Prop := ∀ i d, i < k → ds[i]? = some d → sameAns (toldD s (opsOf (ds.take i)) d.d.op).1 (toldD s (opsOf (ds.take i)) d.d.op).2 d.d.err d.d.cell = true
theorem replay_at {s : List PairD} {ds : List DidV} {k : Nat} (hk : k ≤ ds.length) (h1 : AllSame s ds k) (h2 : ∀ d, ds[k]? = some d → sameAns (toldD s (opsOf (ds.take k)) d.d.op).1 (toldD s (opsOf (ds.take k)) d.d.op).2 d.d.err d.d.cell = false) :
    replayD s (ds.map DidV.d) = (runD s (opsOf (ds.take k)), k) := by
  have e : ∀ i, ((ds.map DidV.d).take i).map DidD.op = opsOf (ds.take i) := fun i => by
    unfold opsOf
    rw [← List.map_take, List.map_map]
    rfl
  rw [replayD_eq (ds.map DidV.d) s k (by simpa using hk) (fun i d hi hd => ?_) (fun d hd => ?_), e]
  · rw [List.getElem?_map] at hd
    obtain ⟨x, hx, rfl⟩ := Option.map_eq_some_iff.1 hd
    rw [e]
    exact h1 i x hi hx
  · rw [List.getElem?_map] at hd
    obtain ⟨x, hx, rfl⟩ := Option.map_eq_some_iff.1 hd
    rw [e]
    exact h2 x hx
theorem opsOf_snoc {ds : List DidV} {k : Nat} {d : DidV} (h : ds[k]? = some d) : opsOf (ds.take (k + 1)) = opsOf (ds.take k) ++ [d.d.op] := by
  obtain ⟨hk, e⟩ := List.getElem?_eq_some_iff.1 h
  unfold opsOf
  rw [List.take_succ_eq_append_getElem hk, List.map_append, e]
  rfl
theorem AllSame.snoc {s : List PairD} {ds : List DidV} {k : Nat} {d : DidV} (h : AllSame s ds k) (hd : ds[k]? = some d) (hs : sameAns (toldD s (opsOf (ds.take k)) d.d.op).1 (toldD s (opsOf (ds.take k)) d.d.op).2 d.d.err d.d.cell = true) : AllSame s ds (k + 1) := fun i x hi hx => by
  by_cases hik : i < k
  · exact h i x hik hx
  · obtain rfl : i = k := by omega
    rw [hd] at hx
    injection hx with hx
    subst hx
    exact hs

end Go.Proofs.Yteidmdnhkgcnoaa
