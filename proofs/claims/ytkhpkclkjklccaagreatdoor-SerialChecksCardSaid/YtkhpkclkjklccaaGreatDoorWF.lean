/-
  WALK: serial.ranksOf: of each of l the first place of its transaction in order.
-/
import Derived.Test.YtkhpkclkjklccaaGreatDoorWA
import Derived.Maps.OwnSet
import Derived.Maps.OwnOps
import Derived.Maps.Own
import Derived.Deep.OwnRows
namespace Go.Proofs.YtkhpkclkjklccaaGreatDoor
open Go.RowKit Go.Maps

theorem law_int : Keyed Tryz.prog 3 := int_keyed Tryz.underlying3
theorem zero_int (w : World) : (zeroValue 3).run Tryz.prog w = .ok (.int .i64 0) w := by kernel_rfl
theorem info_int : (Tryz.prog.info? 3).map (fun i => (i.zero, i.size, i.bytes)) = some (some (.int .i64 0), 1, 8) := by kernel_rfl
theorem run_makeMap_hint {P : Program} (t k e : TypeId) (kd : IntKind) (n : Int) (ht : P.underlying t = some (.map k e)) (w : World) :
    (Instr.makeMap t (some (.int kd n))).run P w = .ok (.map (some w.heap.size)) (w.alloc (.map #[] 0)) := by
  simp [Instr.makeMap, run_underlying ht]; rfl

/-- The map 'first': of each number of l its first place. -/
def RankMap (D : DataW Unit) (l : List Int) : Prop :=
  ∀ x : Int, Maps.has D (.int .i64 x) = decide (x ∈ l) ∧ (x ∈ l → D.atKey (.int .i64 x) (.lit (.int .i64 0)) = .lit (.int .i64 (plc l x)))
theorem RankMap.start : RankMap (.map []) [] := fun x => ⟨by simp [Maps.has], fun h => by cases h⟩
theorem RankMap.old {D : DataW Unit} {l : List Int} {y : Int} (h : RankMap D l) (hy : y ∈ l) : RankMap D (l ++ [y]) := fun x => by
  have he : x ∈ l ++ [y] ↔ x ∈ l := by
    simp only [List.mem_append, List.mem_singleton]
    exact ⟨fun h => by rcases h with h | rfl <;> assumption, Or.inl⟩
  refine ⟨by rw [(h x).1]; simp only [he], fun hx => ?_⟩
  rw [plc_snoc_mem y (he.1 hx)]
  exact (h x).2 (he.1 hx)
theorem RankMap.new {D : DataW Unit} {l : List Int} {y : Int} (h : RankMap D l) (hm : IsMap D) (hy : y ∉ l) : RankMap (D.put (.int .i64 y) (.lit (.int .i64 (l.length : Int)))) (l ++ [y]) := fun x => by
  by_cases hx : x = y
  · subst hx
    refine ⟨by rw [has_put_same hm (by trivial)]; simp, fun _ => ?_⟩
    rw [atKey_put_same hm (by trivial), plc_snoc_new hy]
  · have hk : Lit.int .i64 x ≠ Lit.int .i64 y := fun e => hx (by injection e)
    have he : x ∈ l ++ [y] ↔ x ∈ l := by simp [hx]
    refine ⟨by rw [has_put_other hk, (h x).1]; simp only [he], fun hm' => ?_⟩
    rw [atKey_put_other hk, plc_snoc_mem y (he.1 hm')]
    exact (h x).2 (he.1 hm')

theorem take_snoc' {α : Type} {l : List α} {k : Nat} {x : α} (h : l[k]? = some x) : l.take (k + 1) = l.take k ++ [x] := by
  obtain ⟨hk, e⟩ := List.getElem?_eq_some_iff.1 h
  rw [List.take_succ_eq_append_getElem hk, e]
theorem gen1' {H : Type} {P : Program} {k : TypeId} {E : Value → Option (DataW H × List MemPlace)} {b q : Nat} {D : DataW H} {wr : World} {o : Obj} {G n B : Nat} {t : TypeId} {f : Nat → Value} {w : World} {R : World → Prop}
    (h1 : (wr.alloc o).ownsMap P k E b q D) (h2 : (wr.alloc o).rowIs G t n f) (h3 : Below B w (wr.alloc o)) (h : ∀ W, W.ownsMap P k E b q D → W.rowIs G t n f → Below B w W → R W) : R (wr.alloc o) := h _ h1 h2 h3

/-- What ranksOf tells: each one's rank, if all have one. -/
def RanksPost (w : World) (n : Nat) (xs : List DidV) (zs : List Int) (e : Ending) (w' : World) : Prop :=
  (((∀ x ∈ xs, 0 ≤ rank zs x) ∧ ∃ g, w.heap.size ≤ g ∧ e = .returned (.tuple #[.slice (some ⟨g, 0, none⟩) n n, .bool true]) ∧ Blk w' g 3 ((xs.map (rank zs)).map (Value.int .i64)).toArray) ∨
    ((∃ x ∈ xs, rank zs x < 0) ∧ e = .returned (.tuple #[.slice none 0 0, .bool false]))) ∧ Below w.heap.size w w'
theorem blk_of_rowIs {w : World} {g n : Nat} {t : TypeId} {f : Nat → Value} {l : List Value} (h : w.rowIs g t n f) (hl : l.length = n) (hf : ∀ i, i < n → l[i]? = some (f i)) : Blk w g t l.toArray := by
  obtain ⟨cc, h1, h2, h3⟩ := h
  have : cc = l.toArray := by
    apply Array.ext_getElem?
    intro i
    by_cases hi : i < n
    · rw [h3 i hi]; simp [hf i hi]
    · rw [Array.getElem?_eq_none (by omega), Array.getElem?_eq_none (by simp; omega)]
  rw [← this]
  exact h1

set_option maxHeartbeats 1600000 in
theorem ranksOf_any (A O : Option Addr) (n c m d : Nat) (xs : List DidV) (zs : List Int) (B : Nat) (w : World) (hB : B ≤ w.heap.size) (hn : n ≤ 1000000) (hm : m ≤ 1000000) (h : Dids w B A n xs) (ho : Ints w B O m zs) (hwx : ∀ x ∈ xs, wfI x.d.txn) (hwz : ∀ z ∈ zs, wfI z) :
    Calls Tryz.prog 27 #[.slice A n c, .slice O m d] w (RanksPost w n xs zs) := by
  have HL := hide h.1
  have HLO := hide ho.1
  have HWX := hide hwx
  have HWZ := hide hwz
  clear hwx hwz
  have hmm := run_makeMap_hint (P := Tryz.prog) 87 3 3 .i64 (m : Int) Tryz.underlying87
  go_enter Tryz.func27, Tryz.ntmps27
  go_wp2
  go_loopw [21] (fun i wr => ∃ (k : Nat) (D : DataW Unit), k ≤ m ∧ i = .int .i64 k ∧ wr.ownsMap Tryz.prog 3 (plainElem Tryz.prog 3) w.heap.size k D ∧ RankMap D (zs.take k) ∧ Below w.heap.size w wr) (fun i _ => m - (intOf i).toNat)
  case atStart => exact ⟨0, .map [], Nat.zero_le _, rfl, World.ownsMap_made _ _ _ _, by simpa using RankMap.start, (Below.refl _ _).alloc (Nat.le_refl _) _⟩
  case round =>
    obtain ⟨k, D, hk, rfl, hown, hrm, hbw⟩ := hrel
    have HRM := hide hrm
    clear hrm
    by_cases hlt : k < m
    · obtain ⟨b, o, y, rfl, hb, hy, hcell⟩ := (ho.below hbw hB).at_ hlt
      have hwy : wfI y := HWZ.out y (List.mem_of_getElem? hy)
      have HY := hide hy
      have HWY := hide hwy
      clear hy hwy
      cases hin : Maps.has D (.int .i64 y)
      · go_wp2_with (first
          | (at_lookup; refine wpList_lookup_own_ok_int _ rfl _ _ 87 rfl 3 3 .i64 law_int Tryz.underlying87 Tryz.underlying3 (zero_int _) w.heap.size k D rfl hown _ _ rfl (keyOf_int_mk Tryz.underlying3 HWY.out) ?_; intro cc hat hwc; rw [hin]; clear hat hwc)
          | (at_mapUpdate; refine wpList_mapUpdate_own _ rfl _ _ _ 87 rfl 3 3 law_int Tryz.underlying87 _ w.heap.size k _ rfl hown (by unfold maxLen; omega) _ _ _ rfl rfl (keyOf_int_mk Tryz.underlying3 HWY.out) _ [] (plainElem_int Tryz.underlying3 (WalkArith.wf_i64 (by omega))) ?_; intro w1 hown1 hgrow1))
        go_roundw
        case rel =>
          have hnot : y ∉ zs.take k := by have := (HRM.out y).1; rw [hin] at this; simpa using this
          have hlk : (zs.take k).length = k := by rw [List.length_take]; have := HLO.out; omega
          have hnew := HRM.out.new hown.isMap hnot
          rw [hlk, ← take_snoc' HY.out] at hnew
          exact ⟨k + 1, _, by omega, by go_num, hown1, hnew, hbw.grown hgrow1 hbw.size (fun j hj => by cases hj; exact Nat.le_refl _)⟩
        case measure => simp [intOf]; omega
      · go_wp2_with (at_lookup; refine wpList_lookup_own_ok_int _ rfl _ _ 87 rfl 3 3 .i64 law_int Tryz.underlying87 Tryz.underlying3 (zero_int _) w.heap.size k D rfl hown _ _ rfl (keyOf_int_mk Tryz.underlying3 HWY.out) ?_; intro cc hat hwc; rw [hin]; clear hat hwc)
        go_roundw
        case rel =>
          have hmem : y ∈ zs.take k := by have := (HRM.out y).1; rw [hin] at this; simpa using this
          have hnew := HRM.out.old hmem
          rw [← take_snoc' HY.out] at hnew
          exact ⟨k + 1, D, by omega, by go_num, hown.mono (by omega), hnew, hbw⟩
        case measure => simp [intOf]; omega
    · obtain rfl : k = m := by omega
      have hrm : RankMap D zs := by have := HRM.out; rwa [List.take_of_length_le (by have := HLO.out; omega)] at this
      have HRM := hide hrm
      clear hrm
      have hmk := run_make_row' (P := Tryz.prog) 46 3 (.int .i64 0) 8 Tryz.underlying46 info_int rfl .i64 .i64 n (by omega) (by omega)
      have hG := World.rowIs_made wr (.int .i64 0) n 3
      have hown2 := hown.alloc (.cells (madeCells #[.int .i64 0] n) 3)
      have hbw2 := hbw.alloc hbw.size (.cells (madeCells #[.int .i64 0] n) 3)
      have hws := hbw.size
      have hmlt := hown.lt
      go_wp2
      clear hmk hown hbw hmm
      refine gen1' (R := fun W => Code.wp _ _ _ _ W) hown2 hG hbw2 ?_
      clear hown2 hG hbw2
      intro W1 hown hG hbw1
      generalize hgg : wr.heap.size = G at *
      clear hgg
      go_loopw [43] (fun i w2 => ∃ k2 : Nat, k2 ≤ n ∧ i = .int .i64 k2 ∧ w2.ownsMap Tryz.prog 3 (plainElem Tryz.prog 3) w.heap.size k D ∧ w2.rowIs G 3 n (fun j => if j < k2 then .int .i64 ((xs.map (rank zs)).getD j 0) else .int .i64 0) ∧ Below w.heap.size w w2 ∧ ∀ x ∈ xs.take k2, 0 ≤ rank zs x) (fun i _ => n - (intOf i).toNat)
      case atStart => exact ⟨0, Nat.zero_le _, rfl, hown, by simpa using hG, hbw1, by simp⟩
      case round =>
        obtain ⟨k2, hk2, rfl, hown, hG, hbw, hall⟩ := hrel
        have HALL := hide hall
        clear hall
        by_cases hlt2 : k2 < n
        · have hD := h.below hbw hB
          obtain ⟨b, o, x, rfl, hb, hkx, hok, hcx⟩ := hD.at_ hlt2
          obtain ⟨c0, c1, c2, c3, c4, c5, c6, c7, c8, c9, c10, c11, c12⟩ := hD.row hkx
          have hwx : wfI x.d.txn := HWX.out x (List.mem_of_getElem? hkx)
          have hmx := HRM.out x.d.txn
          obtain ⟨d, dv, cv⟩ := x
          obtain ⟨⟨A1, n1, m1, rfl, _⟩, ⟨A2, n2, m2, rfl, _⟩⟩ := hok
          dsimp only at *
          have HK := hide hkx
          have HW := hide hwx
          clear hkx hwx hcx
          have hz := hbw.size
          have hbz : b < wr.heap.size := by omega
          have hGz := hG.lt
          cases hin : Maps.has D (.int .i64 d.txn)
          · rw [hin] at hmx
            have HMX := hide hmx
            clear hmx
            go_wp2_with (at_lookup; refine wpList_lookup_own_ok_int _ rfl _ _ 87 rfl 3 3 .i64 law_int Tryz.underlying87 Tryz.underlying3 (zero_int _) w.heap.size k D rfl (hown.alloc _) _ _ rfl (keyOf_int_mk Tryz.underlying3 HW.out) ?_; intro cc hat hwc; rw [hin]; clear hat hwc)
            go_ret2
            refine ⟨.inr ⟨⟨_, List.mem_of_getElem? HK.out, ?_⟩, rfl⟩, hbw.alloc hz _⟩
            exact plc_neg.2 (by have := HMX.out.1; simpa using this)
          · rw [hin] at hmx
            have HMX := hide hmx
            clear hmx
            have g1 : wr.cell? ⟨G, k2, none⟩ = some (.int .i64 0) := by have := hG.cell (i := k2) (by omega); simpa using this
            have g2 : wr.frozen? ⟨G, k2, none⟩ = false := hG.frozen _
            go_wp2_with (at_lookup; refine wpList_lookup_own_ok_int _ rfl _ _ 87 rfl 3 3 .i64 law_int Tryz.underlying87 Tryz.underlying3 (zero_int _) w.heap.size k D rfl (hown.alloc _) _ _ rfl (keyOf_int_mk Tryz.underlying3 HW.out) ?_; intro cc hat hwc; rw [hin]; have HAT := hide hat; clear hat hwc)
            go_roundw
            case rel =>
              have hmem : d.txn ∈ zs := by have := HMX.out.1; simpa using this.symm
              have hcc : cc = plc zs d.txn := by
                have h1 := HMX.out.2 hmem
                rw [HAT.out] at h1
                injection h1 with h1
                injection h1
              have hr0 : 0 ≤ plc zs d.txn := by
                apply Classical.byContradiction
                intro hn
                exact plc_neg.1 (by omega) hmem
              have hk' := HK.out
              have hl := HL.out
              refine ⟨k2 + 1, by omega, by go_num, (hown.setCell (a := ⟨G, k2, none⟩) (by show w.heap.size ≠ G; omega) _).alloc _, ?_, (hbw.setCell (p := ⟨G, k2, none⟩) (by show w.heap.size ≤ G; omega) _).alloc (by simp [World.setCell]; omega) _, ?_⟩
              · refine ((hG.set k2 _).alloc _).congr (fun j hj => ?_)
                by_cases hjk : j = k2
                · subst hjk
                  simp [List.getD, hk', hcc, rank]
                · simp only [if_neg hjk]
                  by_cases hj2 : j < k2
                  · simp [hj2, show j < k2 + 1 by omega]
                  · simp [hj2, show ¬ j < k2 + 1 by omega]
              · intro x hx
                rw [take_snoc' hk', List.mem_append, List.mem_singleton] at hx
                rcases hx with hx | rfl
                · exact HALL.out x hx
                · exact hr0
            case measure => simp [intOf]; omega
        · go_wp2
          go_ret2
          have hl := HL.out
          refine ⟨.inl ⟨fun x hx => HALL.out x (by rw [List.take_of_length_le (by omega)]; exact hx), G, by omega, rfl, blk_of_rowIs hG (by simp; omega) (fun i hi => ?_)⟩, hbw⟩
          have hi' : i < xs.length := by omega
          simp [show i < k2 by omega, List.getD, hi']
end Go.Proofs.YtkhpkclkjklccaaGreatDoor
