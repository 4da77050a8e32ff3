/-
  WALKS OF THE PROGRAM: wal.own (the record with lists of its own).
-/
import Derived.Test.YtnanlaefehaifaaGreatRT
namespace Go.Proofs.YtnanlaefehaifaaGreat
open Go.RowKit

section
variable {W : World} {base n size g c : Nat} {t : TypeId} {xs : List Value}
theorem own_blk (h : W.ownsRow base t size (.slice (some ⟨g, 0, none⟩) n c) n xs) : ∃ cur : Array Value, Blk W g t cur ∧ base ≤ g ∧ n ≤ c ∧ c ≤ maxLen ∧ cur.size = c * size ∧ cur.toList.take (n * size) = xs := by
  obtain ⟨h1, ⟨h2, _⟩ | ⟨g', cap, cur, e, hg, hh, hnc, hcm, hs, ht⟩⟩ := h
  · cases h2
  · injection e with e1 e2 e3
    injection e1 with e1
    injection e1 with e1
    subst e1 e3
    exact ⟨cur, hh, hg, hnc, hcm, hs, ht⟩
theorem own_set (h : W.ownsRow base t size (.slice (some ⟨g, 0, none⟩) n c) n xs) (i : Nat) (u : Value) : (W.setCell ⟨g, i, none⟩ u).ownsRow base t size (.slice (some ⟨g, 0, none⟩) n c) n (xs.set i u) := by
  have h1 := h.1
  obtain ⟨cur, k, hg, hnc, hcm, hs, ht⟩ := own_blk h
  have k2 := k.set_ i u
  have hle : n * size ≤ c * size := Nat.mul_le_mul_right _ hnc
  have e : (cur.toList.set i u).toArray = cur.setIfInBounds i u := by
    apply Array.ext'
    simp
  rw [← e] at k2
  refine own_new (cur := cur.toList.set i u) k2 hg (by rw [List.length_set]; exact h1) hnc hcm (by simp [hs]) ?_
  rw [List.take_set, ht]
theorem own_cell (h : W.ownsRow base t size (.slice (some ⟨g, 0, none⟩) n c) n xs) (i : Nat) (hi : i < n * size) : W.cell? ⟨g, i, none⟩ = xs[i]? ∧ W.frozen? ⟨g, i, none⟩ = false ∧ g < W.heap.size := by
  obtain ⟨cur, k, hg, hnc, hcm, hs, ht⟩ := own_blk h
  refine ⟨?_, k.frozen i, k.lt⟩
  rw [k.cell i, ← ht, List.getElem?_take, if_pos hi]
  simp
end
/-- A row that is one's own, written in another block. -/
theorem own_far {W : World} {base n size : Nat} {t : TypeId} {v : Value} {xs : List Value} (h : W.ownsRow base t size v n xs) {p : Addr} (hp : ∀ q, v.ownBlock = some q → q ≠ p.block) (u : Value) : (W.setCell p u).ownsRow base t size v n xs := row_keep h fun q hq => Below.heap_setCell W p u q (hp q hq)
/-- Two rows of unlike elements lie in two blocks. -/
theorem own_ne {W : World} {b1 b2 n1 n2 s1 s2 : Nat} {t1 t2 : TypeId} {v1 v2 : Value} {x1 x2 : List Value} (h1 : W.ownsRow b1 t1 s1 v1 n1 x1) (h2 : W.ownsRow b2 t2 s2 v2 n2 x2) (hne : t1 ≠ t2) {q : Nat} (e1 : v1.ownBlock = some q) (e2 : v2.ownBlock = some q) : False := by
  obtain ⟨c1, k1⟩ := row_obj h1 e1
  obtain ⟨c2, k2⟩ := row_obj h2 e2
  rw [k1] at k2
  injection k2 with k2
  injection k2 with _ k2
  exact hne k2
/-- Runs in rows of one's own, from block L on. -/
def RunsF (W : World) (L : Nat) (v : Value) (rs : List RunV) : Prop := W.ownsRow L 180 2 v rs.length (rs.flatMap RunV.cells) ∧ ∀ r ∈ rs, OwnB W L r.dv r.data
def PatsF (W : World) (L : Nat) (v : Value) (ps : List PatV) : Prop := W.ownsRow L 111 3 v ps.length (ps.flatMap PatV.cells) ∧ ∀ p ∈ ps, RunsF W L p.rv p.runs
theorem RunsF.keep {W W' : World} {L : Nat} {v : Value} {rs : List RunV} (h : RunsF W L v rs) (hk : ∀ q, L ≤ q → q < W.heap.size → W'.heap[q]? = W.heap[q]?) : RunsF W' L v rs :=
  ⟨row_keep h.1 fun q hq => hk q (World.ownsRow.lt h.1 q hq).1 (World.ownsRow.lt h.1 q hq).2, fun r hr => (h.2 r hr).keep fun q hq => hk q ((h.2 r hr).lt q hq).1 ((h.2 r hr).lt q hq).2⟩
theorem PatsF.keep {W W' : World} {L : Nat} {v : Value} {ps : List PatV} (h : PatsF W L v ps) (hk : ∀ q, L ≤ q → q < W.heap.size → W'.heap[q]? = W.heap[q]?) : PatsF W' L v ps :=
  ⟨row_keep h.1 fun q hq => hk q (World.ownsRow.lt h.1 q hq).1 (World.ownsRow.lt h.1 q hq).2, fun p hp => (h.2 p hp).keep hk⟩
theorem slice_of_own {W : World} {L n size : Nat} {t : TypeId} {v : Value} {xs : List Value} (h : W.ownsRow L t size v n xs) : SliceAt W W.heap.size size v n xs := by
  obtain ⟨A, c, e, h1, h2, h3, h4, _⟩ := own_slice h
  exact ⟨A, c, e, h1, h2, h3, h4⟩
theorem RunsF.runs {W : World} {L : Nat} {v : Value} {rs : List RunV} (h : RunsF W L v rs) : Runs W W.heap.size v rs := ⟨slice_of_own h.1, fun r hr => (h.2 r hr).bytes⟩
theorem PatsF.pats {W : World} {L : Nat} {v : Value} {ps : List PatV} (h : PatsF W L v ps) : Pats W W.heap.size v ps := ⟨slice_of_own h.1, fun p hp => (h.2 p hp).runs⟩
/-- The record's lists are all its own. -/
theorem recIn_of {W : World} {L : Nat} {x : RecV} (h1 : PatsF W L x.pv x.pats) (h2 : OwnB W L x.undo.cv x.undo.cell.data) : RecIn W L W.heap.size x := by
  intro W' hk
  have hk' : ∀ q, L ≤ q → q < W.heap.size → W'.heap[q]? = W.heap[q]? := hk
  have hz : W.heap.size ≤ W'.heap.size ∨ L = W.heap.size ∨ True := .inr (.inr trivial)
  -- all that is read lies in blocks from L up to W's heap's size
  have cut : ∀ {n size : Nat} {t : TypeId} {v : Value} {xs : List Value}, W.ownsRow L t size v n xs → SliceAt W' W.heap.size size v n xs := fun {n size t v xs} h => by
    obtain ⟨A, c, e, g1, g2, g3, g4, _⟩ := own_slice (row_keep h fun q hq => hk' q (World.ownsRow.lt h q hq).1 (World.ownsRow.lt h q hq).2)
    obtain ⟨A0, c0, e0, _, _, _, r0, _⟩ := own_slice h
    rw [e] at e0
    injection e0 with e1 e2 e3
    subst e1
    refine ⟨A, c, e, g1, g2, g3, g4.1, fun hn => ?_⟩
    obtain ⟨ad, ea, _, hc⟩ := g4.2 hn
    obtain ⟨ad0, ea0, hb0, _⟩ := r0.2 hn
    rw [ea] at ea0
    injection ea0 with ea0
    subst ea0
    exact ⟨ad, ea, hb0, hc⟩
  have cutB : ∀ {v : Value} {bs : List UInt8}, OwnB W L v bs → BytesAt W' W.heap.size v bs := fun {v bs} h => by
    obtain ⟨A, c, e, g1, g2, g3, g4⟩ := cut h
    exact ⟨A, bs.length, c, e, g1, g2, rfl, g3, g4⟩
  exact ⟨⟨cut h1.1, fun p hp => ⟨cut (h1.2 p hp).1, fun r hr => cutB ((h1.2 p hp).2 r hr)⟩⟩, cutB h2⟩
theorem flat_set {α : Type} (f : α → List Value) (k : Nat) (hk : ∀ x, (f x).length = k) (xs : List α) (i j : Nat) (x y : α) (u : Value) (hx : xs[i]? = some x) (hj : j < k) (hy : f y = (f x).set j u) : (xs.set i y).flatMap f = (xs.flatMap f).set (i * k + j) u := by
  induction xs generalizing i with
  | nil => simp at hx
  | cons a r ih =>
    cases i with
    | zero =>
      obtain rfl : a = x := by simpa using hx
      simp only [List.set_cons_zero, List.flatMap_cons, Nat.zero_mul, Nat.zero_add]
      rw [List.set_append_left _ _ (by rw [hk]; exact hj), hy]
    | succ i =>
      have hx' : r[i]? = some x := by simpa using hx
      simp only [List.set_cons_succ, List.flatMap_cons]
      rw [ih i hx', List.set_append_right _ _ (by rw [hk, Nat.succ_mul]; omega), hk, Nat.succ_mul]
      congr 2
      omega
/-- The runs of a patch while they are made one's own: those ahead of k are. -/
structure RunI (w : World) (B L k : Nat) (v : Value) (ys : List RunV) (W : World) : Prop where
  row : W.ownsRow L 180 2 v ys.length (ys.flatMap RunV.cells)
  sm : ∀ r ∈ ys, RunSm r
  own : ∀ j r, j < k → ys[j]? = some r → OwnB W L r.dv r.data
  old : ∀ j r, k ≤ j → ys[j]? = some r → BytesAt w B r.dv r.data
theorem RunI.via {w W W' : World} {B L k : Nat} {v : Value} {ys : List RunV} (h : RunI w B L k v ys W) (hb : Below W.heap.size W W') : RunI w B L k v ys W' := ⟨own_via h.row hb, h.sm, fun j r hj hr => (h.own j r hj hr).via hb, h.old⟩
theorem RunI.step {w W : World} {B L k g c : Nat} {ys : List RunV} {r : RunV} {v' : Value} (h : RunI w B L k (.slice (some ⟨g, 0, none⟩) ys.length c) ys W) (hr : ys[k]? = some r) (ho : OwnB W L v' r.data) :
    RunI w B L (k + 1) (.slice (some ⟨g, 0, none⟩) (ys.set k ⟨r.place, r.data, v'⟩).length c) (ys.set k ⟨r.place, r.data, v'⟩) (W.setCell ⟨g, k * 2 + 1, none⟩ v') := by
  obtain ⟨hk, ek⟩ := List.getElem?_eq_some_iff.1 hr
  have far : ∀ {v : Value} {bs : List UInt8}, OwnB W L v bs → OwnB (W.setCell ⟨g, k * 2 + 1, none⟩ v') L v bs := fun {v bs} hv => own_far hv (fun q hq e => own_ne hv h.row (by decide) hq (show (Value.slice (some ⟨g, 0, none⟩) ys.length c).ownBlock = some q by rw [e]; rfl)) _
  refine ⟨?_, fun x hx => ?_, fun j x hj hx => ?_, fun j x hj hx => ?_⟩
  · rw [List.length_set, flat_set RunV.cells 2 RunV.cells_length ys k 1 r _ v' hr (by omega) rfl]
    exact own_set h.row _ _
  · rcases List.mem_or_eq_of_mem_set hx with hx | rfl
    · exact h.sm x hx
    · exact h.sm r (List.mem_of_getElem? hr)
  · rw [List.getElem?_set] at hx
    split at hx
    · rename_i e
      subst e
      injection hx with hx
      subst hx
      exact far ho
    · exact far (h.own j x (by omega) hx)
  · rw [List.getElem?_set, if_neg (by omega)] at hx
    exact h.old j x (by omega) hx
theorem RunI.done {w W : World} {B L : Nat} {v : Value} {ys : List RunV} (h : RunI w B L ys.length v ys W) : RunsF W L v ys := ⟨h.row, fun r hr => by
  obtain ⟨j, hj, e⟩ := List.mem_iff_getElem.1 hr
  exact h.own j r hj (by rw [List.getElem?_eq_getElem hj, e])⟩
/-- The patches of a record while they are made one's own. -/
structure PatI (w : World) (B L k : Nat) (v : Value) (ys : List PatV) (W : World) : Prop where
  row : W.ownsRow L 111 3 v ys.length (ys.flatMap PatV.cells)
  sm : ∀ r ∈ ys, PatSm r
  own : ∀ j r, j < k → ys[j]? = some r → RunsF W L r.rv r.runs
  old : ∀ j r, k ≤ j → ys[j]? = some r → Runs w B r.rv r.runs
theorem PatI.via {w W W' : World} {B L k : Nat} {v : Value} {ys : List PatV} (h : PatI w B L k v ys W) (hb : Below W.heap.size W W') : PatI w B L k v ys W' := ⟨own_via h.row hb, h.sm, fun j r hj hr => (h.own j r hj hr).keep (fun q _ hq => hb.block q hq), h.old⟩
theorem RunsF.far {W : World} {L n g c i : Nat} {t : TypeId} {s : Nat} {xs : List Value} {v : Value} {rs : List RunV} (h : RunsF W L v rs) (hg : W.ownsRow L t s (.slice (some ⟨g, 0, none⟩) n c) n xs) (h1 : t ≠ 180) (h2 : t ≠ 5) (u : Value) : RunsF (W.setCell ⟨g, i, none⟩ u) L v rs :=
  ⟨own_far h.1 (fun q hq e => own_ne h.1 hg (Ne.symm h1) hq (show (Value.slice (some ⟨g, 0, none⟩) n c).ownBlock = some q by rw [e]; rfl)) _, fun r hr => own_far (h.2 r hr) (fun q hq e => own_ne (h.2 r hr) hg (Ne.symm h2) hq (show (Value.slice (some ⟨g, 0, none⟩) n c).ownBlock = some q by rw [e]; rfl)) _⟩
theorem PatI.step {w W : World} {B L k g c : Nat} {ys : List PatV} {r : PatV} {v' : Value} {rs : List RunV} (h : PatI w B L k (.slice (some ⟨g, 0, none⟩) ys.length c) ys W) (hr : ys[k]? = some r) (ho : RunsF W L v' rs) (hsm : rs.length ≤ 60 ∧ ∀ x ∈ rs, RunSm x) :
    PatI w B L (k + 1) (.slice (some ⟨g, 0, none⟩) (ys.set k ⟨r.page, r.fresh, rs, v'⟩).length c) (ys.set k ⟨r.page, r.fresh, rs, v'⟩) (W.setCell ⟨g, k * 3 + 2, none⟩ v') := by
  obtain ⟨hk, ek⟩ := List.getElem?_eq_some_iff.1 hr
  refine ⟨?_, fun x hx => ?_, fun j x hj hx => ?_, fun j x hj hx => ?_⟩
  · rw [List.length_set, flat_set PatV.cells 3 PatV.cells_length ys k 2 r _ v' hr (by omega) rfl]
    exact own_set h.row _ _
  · rcases List.mem_or_eq_of_mem_set hx with hx | rfl
    · exact h.sm x hx
    · exact hsm
  · rw [List.getElem?_set] at hx
    split at hx
    · rename_i e
      subst e
      injection hx with hx
      subst hx
      exact ho.far h.row (by decide) (by decide) _
    · exact (h.own j x (by omega) hx).far h.row (by decide) (by decide) _
  · rw [List.getElem?_set, if_neg (by omega)] at hx
    exact h.old j x (by omega) hx
theorem PatI.done {w W : World} {B L : Nat} {v : Value} {ys : List PatV} (h : PatI w B L ys.length v ys W) : PatsF W L v ys := ⟨h.row, fun r hr => by
  obtain ⟨j, hj, e⟩ := List.mem_iff_getElem.1 hr
  exact h.own j r hj (by rw [List.getElem?_eq_getElem hj, e])⟩
end Go.Proofs.YtnanlaefehaifaaGreat
