/-
  A STATE BEHIND A STEP: an update in place, an insertion, a deletion. No walk.
-/
import Derived.Test.YteidmdnhkgcnoaaGreatPK
import Derived.Test.YteidmdnhkgcnoaaGreatPI
namespace Go.Proofs.YteidmdnhkgcnoaaGreat
open Go.RowKit

theorem own_ne {w : World} {base n g : Nat} {v : Value} {xs : List Value} {t : TypeId} {cs : Array Value} (h : w.ownsRow base 55 6 v n xs) (k : Blk w g t cs) (hne : t ≠ 55) : some g ≠ v.ownBlock := by
  intro hq
  obtain ⟨h1, ⟨rfl, h2⟩ | ⟨g', cap, cur, rfl, hg, hh, r⟩⟩ := h
  · cases hq
  · have : g = g' := by simpa [Value.ownBlock] using hq
    rw [← this] at hh
    unfold Blk at k
    rw [hh] at k
    injection k with k
    injection k with _ k
    exact hne k.symm
theorem OwnB.grown {w w' : World} {base base' n : Nat} {u v : Value} {bs : List UInt8} {xs : List Value} (h : OwnB w base u bs) (hg : w.grownBy w' v.ownBlock) (hown : w.ownsRow base' 55 6 v n xs) : OwnB w' base u bs := h.keep fun q hq => by
  refine hg.block q (h.lt q hq).2 ?_
  obtain ⟨h1, ⟨rfl, h2⟩ | ⟨g', cap, cur, rfl, hg', hh, r⟩⟩ := h
  · cases hq
  · have : g' = q := by simpa [Value.ownBlock] using hq
    rw [this] at hh
    exact own_ne hown (t := 5) (cs := cur) hh (by decide)
theorem flat_ins (ys : List PairV) (p : Nat) (y : PairV) : (ys.flatMap PairV.cells).take (p * 6) ++ y.cells ++ (ys.flatMap PairV.cells).drop (p * 6) = (ys.take p ++ [y] ++ ys.drop p).flatMap PairV.cells := by
  rw [flat_take _ 6 PairV.cells_length, flat_drop _ 6 PairV.cells_length]
  simp [List.flatMap_append]
theorem flat_del (ys : List PairV) (p : Nat) : (ys.flatMap PairV.cells).take (p * 6) ++ (ys.flatMap PairV.cells).drop ((p + 1) * 6) = (ys.take p ++ ys.drop (p + 1)).flatMap PairV.cells := by
  rw [flat_take _ 6 PairV.cells_length, flat_drop _ 6 PairV.cells_length]
  simp [List.flatMap_append]
theorem StS.ins {w w' : World} {base p : Nat} {v v' : Value} {ys : List PairV} {y : PairV} (h : StS w base v ys) (hp : p ≤ ys.length) (ho : w'.ownsRow base 55 6 v' (ys.length + 1) ((ys.flatMap PairV.cells).take (p * 6) ++ y.cells ++ (ys.flatMap PairV.cells).drop (p * 6))) (hg : w.grownBy w' v.ownBlock) (hy : OwnB w base y.cv y.d.cell.data) : StS w' base v' (ys.take p ++ [y] ++ ys.drop p) := by
  rw [flat_ins] at ho
  have hl : (ys.take p ++ [y] ++ ys.drop p).length = ys.length + 1 := by simp; omega
  refine ⟨by rw [hl]; exact ho, fun z hz => ?_⟩
  rw [List.mem_append, List.mem_append] at hz
  rcases hz with (hz | hz) | hz
  · exact (h.ok z (List.mem_of_mem_take hz)).grown hg h.own
  · rw [List.mem_singleton] at hz; subst hz; exact hy.grown hg h.own
  · exact (h.ok z (List.mem_of_mem_drop hz)).grown hg h.own
theorem StS.del {w w' : World} {base p : Nat} {v v' : Value} {ys : List PairV} (h : StS w base v ys) (hp : p < ys.length) (ho : w'.ownsRow base 55 6 v' (ys.length - 1) ((ys.flatMap PairV.cells).take (p * 6) ++ (ys.flatMap PairV.cells).drop ((p + 1) * 6))) (hg : w.grownBy w' v.ownBlock) : StS w' base v' (ys.take p ++ ys.drop (p + 1)) := by
  rw [flat_del] at ho
  have hl : (ys.take p ++ ys.drop (p + 1)).length = ys.length - 1 := by simp; omega
  refine ⟨by rw [hl]; exact ho, fun z hz => ?_⟩
  rw [List.mem_append] at hz
  rcases hz with hz | hz
  · exact (h.ok z (List.mem_of_mem_take hz)).grown hg h.own
  · exact (h.ok z (List.mem_of_mem_drop hz)).grown hg h.own
theorem cells_one {w : World} {base : Nat} {v : Value} {ys : List PairV} (h : StS w base v ys) : ∀ u ∈ ys.flatMap PairV.cells, u.oneCell' = true := by
  intro u hu
  obtain ⟨x, hx, hu⟩ := List.mem_flatMap.1 hu
  exact PairOk.one (h.ok x hx).bytes u hu

set_option maxHeartbeats 1600000 in
/-- An update of the pair at p, in place: five cells are stored. -/
theorem StS.upd {w : World} {base p g cap : Nat} {ys : List PairV} {y : PairV} {c : CellD} {tv : Value} (h : StS w base (.slice (some ⟨g, 0, none⟩) ys.length cap) ys) (hp : ys[p]? = some y) (hc : OwnB w base tv c.data) :
    StS (putL w g (p * 6 + 1) (cellCells c tv)) base (.slice (some ⟨g, 0, none⟩) ys.length cap) (ys.take p ++ [⟨⟨y.d.key, c⟩, tv⟩] ++ ys.drop (p + 1)) ∧ Touch g (g + 1) w (putL w g (p * 6 + 1) (cellCells c tv)) := by
  have htch := putL_touch g (cellCells c tv) w w (p * 6 + 1) (Touch.refl _)
  obtain ⟨hpl, ep⟩ := List.getElem?_eq_some_iff.1 hp
  have hl : (ys.take p ++ [(⟨⟨y.d.key, c⟩, tv⟩ : PairV)] ++ ys.drop (p + 1)).length = ys.length := by simp; omega
  obtain ⟨h1, ⟨e, h2⟩ | ⟨g', cap', cur, e, hbg, hh, hnc, hcm, hs, ht⟩⟩ := h.own
  · injection e with e; cases e
  · injection e with e1 e2 e3
    injection e1 with e1
    injection e1 with e1
    subst e1 e3
    have k : Blk w g 55 cur := hh
    have hlt : p * 6 + 6 ≤ cur.size := by rw [hs]; omega
    have k2 := putL_blk (cellCells c tv) (p * 6 + 1) k
    obtain ⟨hs2, hq2, hj2⟩ := setL_spec (cellCells c tv) cur (p * 6 + 1) (by show p * 6 + 1 + 5 ≤ _; omega)
    have hg0 : Touch g (g + 1) w (putL w g (p * 6 + 1) (cellCells c tv)) := htch
    refine ⟨⟨⟨by rw [flat_length _ 6 PairV.cells_length, hl], .inr ⟨g, cap, _, by rw [hl], hbg, k2, by rw [hl]; exact hnc, hcm, by rw [hs2, hs], ?_⟩⟩, fun z hz => ?_⟩, hg0⟩
    · rw [hl]
      apply List.ext_getElem?
      intro q
      have hold : q < ys.length * 6 → cur.toList[q]? = (ys.flatMap PairV.cells)[q]? := fun hq => by
        rw [← ht, List.getElem?_take, if_pos hq]
      by_cases hq : q < ys.length * 6
      · rw [List.getElem?_take, if_pos hq, Array.getElem?_toList]
        have hdm : q = (q / 6) * 6 + q % 6 := by omega
        have hm6 : q % 6 < 6 := Nat.mod_lt _ (by omega)
        have hfa := flat_at PairV.cells 6 PairV.cells_length (ys.take p ++ [(⟨⟨y.d.key, c⟩, tv⟩ : PairV)] ++ ys.drop (p + 1)) (q / 6) (q % 6) hm6
        rw [← hdm] at hfa
        have hfo := flat_at PairV.cells 6 PairV.cells_length ys (q / 6) (q % 6) hm6
        rw [← hdm] at hfo
        rw [hfa]
        by_cases hqp : q / 6 = p
        · have e1 : (ys.take p ++ [(⟨⟨y.d.key, c⟩, tv⟩ : PairV)] ++ ys.drop (p + 1))[q / 6]? = some ⟨⟨y.d.key, c⟩, tv⟩ := by
            rw [hqp, List.append_assoc, List.getElem?_append_right (by simp; omega)]
            simp [Nat.min_eq_left (Nat.le_of_lt hpl)]
          rw [e1, Option.bind_some]
          by_cases h0 : q % 6 = 0
          · have hqq : q = p * 6 := by omega
            rw [hq2 q (.inl (by omega)), ← Array.getElem?_toList, hold hq, hfo, hqp, hp, h0]
            rfl
          · have hj : q = p * 6 + 1 + (q % 6 - 1) := by omega
            have hcl : (cellCells c tv).length = 5 := rfl
            have hlt5 : q % 6 - 1 < (cellCells c tv).length := by omega
            have := hj2 (q % 6 - 1) _ (List.getElem?_eq_getElem hlt5)
            rw [← hj] at this
            rw [this, ← List.getElem?_eq_getElem hlt5]
            show _ = (Value.string y.d.key :: cellCells c tv)[q % 6]?
            obtain ⟨j, hj'⟩ : ∃ j, q % 6 = j + 1 := ⟨q % 6 - 1, by omega⟩
            rw [hj']
            simp
        · have e1 : (ys.take p ++ [(⟨⟨y.d.key, c⟩, tv⟩ : PairV)] ++ ys.drop (p + 1))[q / 6]? = ys[q / 6]? := by
            rw [List.append_assoc]
            by_cases hlp : q / 6 < p
            · rw [List.getElem?_append_left (by rw [List.length_take]; omega), List.getElem?_take, if_pos hlp]
            · rw [List.getElem?_append_right (by rw [List.length_take]; omega), List.length_take, Nat.min_eq_left (Nat.le_of_lt hpl), List.getElem?_append_right (by rw [List.length_singleton]; omega), List.getElem?_drop]
              rw [show p + 1 + (q / 6 - p - [(⟨⟨y.d.key, c⟩, tv⟩ : PairV)].length) = q / 6 by rw [List.length_singleton]; omega]
          rw [e1, ← hfo, ← hold hq, hq2 q (by show q < p * 6 + 1 ∨ p * 6 + 1 + 5 ≤ q; omega), Array.getElem?_toList]
      · rw [List.getElem?_take, if_neg hq, List.getElem?_eq_none (by rw [flat_length _ 6 PairV.cells_length, hl]; omega)]
    · rw [List.mem_append, List.mem_append] at hz
      rcases hz with (hz | hz) | hz
      · exact (h.ok z (List.mem_of_mem_take hz)).apart htch k (by decide)
      · rw [List.mem_singleton] at hz; subst hz; exact hc.apart htch k (by decide)
      · exact (h.ok z (List.mem_of_mem_drop hz)).apart htch k (by decide)

/-- What putD is, in lists of values. -/
theorem putD_upd {ys : List PairV} {k : ByteArray} {y : PairV} {c : CellD} {tv : Value} (hy : ys[pos (ys.map PairV.d) k]? = some y) (hk : y.d.key = k) :
    (ys.take (pos (ys.map PairV.d) k) ++ [(⟨⟨y.d.key, c⟩, tv⟩ : PairV)] ++ ys.drop (pos (ys.map PairV.d) k + 1)).map PairV.d = putD (ys.map PairV.d) k (some c) := by
  have hh : hasD (ys.map PairV.d) k = some y.d.cell := by
    unfold hasD
    rw [List.getElem?_map, hy]
    simp [hk]
  unfold putD
  rw [hh]
  simp [List.map_take, List.map_drop, hk]
theorem putD_ins {ys : List PairV} {k : ByteArray} {c : CellD} {tv : Value} (hh : hasD (ys.map PairV.d) k = none) :
    (ys.take (pos (ys.map PairV.d) k) ++ [(⟨⟨k, c⟩, tv⟩ : PairV)] ++ ys.drop (pos (ys.map PairV.d) k)).map PairV.d = putD (ys.map PairV.d) k (some c) := by
  unfold putD
  rw [hh]
  simp [List.map_take, List.map_drop]
theorem putD_del {ys : List PairV} {k : ByteArray} {c : CellD} (hh : hasD (ys.map PairV.d) k = some c) :
    (ys.take (pos (ys.map PairV.d) k) ++ ys.drop (pos (ys.map PairV.d) k + 1)).map PairV.d = putD (ys.map PairV.d) k none := by
  unfold putD
  rw [hh]
  simp [List.map_take, List.map_drop]
theorem putD_no {s : List PairD} {k : ByteArray} (hh : hasD s k = none) : putD s k none = s := by
  unfold putD
  rw [hh]
  simp
end Go.Proofs.YteidmdnhkgcnoaaGreat
