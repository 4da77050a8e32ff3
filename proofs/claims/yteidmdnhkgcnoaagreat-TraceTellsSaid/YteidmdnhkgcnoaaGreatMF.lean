/-
  WALK: moneyerref09.Put.
-/
import Derived.Test.YteidmdnhkgcnoaaGreatME
import Derived.Test.YteidmdnhkgcnoaaGreatApp
namespace Go.Proofs.YteidmdnhkgcnoaaGreat
open Go.RowKit

def pairZ : Array Value := #[.string ByteArray.empty, .int .i64 0, .slice none 0 0, .int .i64 0, .int .i64 0, .int .i64 0]
theorem info_pair : (Tryz.prog.info? 55).map (fun i => (i.zero, i.size, i.bytes)) = some (some (.agg pairZ), 6, 72) := by kernel_rfl

def PutPost (w : World) (B : Nat) (ys : List PairV) (e : Ending) (w' : World) : Prop :=
  ∃ A' c', e = .returned (.slice A' ys.length c') ∧ ys.length ≤ c' ∧ Reads w' w'.heap.size 6 A' ys.length (ys.flatMap PairV.cells) ∧ (∀ ad, A' = some ad → w.heap.size ≤ ad.block) ∧ (∀ y ∈ ys, PairOk w' B y) ∧ Below w.heap.size w w'
theorem posV_le (xs : List PairV) (k : ByteArray) : posV xs k ≤ xs.length := (List.takeWhile_prefix _).length_le
/-- What ends the loop is the place. -/
theorem posV_eq {xs : List PairV} {k : ByteArray} {j : Nat} (hj : j ≤ xs.length) (h1 : ∀ (q : Nat) y, q < j → xs[q]? = some y → kless y.d.key k = true) (h2 : ∀ y, xs[j]? = some y → kless y.d.key k = false) : posV xs k = j := by
  unfold posV
  induction xs generalizing j with
  | nil => simp at hj; subst hj; rfl
  | cons x t ih =>
    rw [List.takeWhile_cons]
    cases j with
    | zero => rw [h2 x rfl]; rfl
    | succ j =>
      rw [h1 0 x (by omega) rfl]
      have := ih (j := j) (by simpa using hj) (fun q y hq hy => h1 (q + 1) y (by omega) (by simpa using hy)) (fun y hy => h2 y (by simpa using hy))
      simp [this]

theorem put_close {w w' : World} {base B m : Nat} {v' : Value} {ys : List PairV} {L : List Value} (hown : w'.ownsRow base 55 6 v' m L) (hL : L = ys.flatMap PairV.cells) (hm : m = ys.length) (hok : ∀ y ∈ ys, PairOk w' B y) (hB : w.heap.size ≤ base) (hb : Below w.heap.size w w') : PutPost w B ys (.returned v') w' := by
  subst hL hm
  obtain ⟨A', c', rfl, hnc, _, _, hr, hf⟩ := own_slice hown
  exact ⟨A', c', rfl, hnc, hr, fun ad e => Nat.le_trans hB (hf ad e), hok, hb⟩
theorem putV_flat0 {xs : List PairV} {k : ByteArray} {cd : CellD} {cv : Value} {j : Nat} {b : Bool} (h1 : posV xs k = j) (h2 : hereV xs k = b) (h3 : cd.kind = 0) : (putV xs k cd cv).flatMap PairV.cells = (xs.take j).flatMap PairV.cells ++ (xs.drop (j + if b then 1 else 0)).flatMap PairV.cells := by
  unfold putV
  rw [h1, h2, if_pos h3, List.append_nil, List.flatMap_append]
theorem putV_flat1 {xs : List PairV} {k : ByteArray} {cd : CellD} {cv : Value} {j : Nat} {b : Bool} (h1 : posV xs k = j) (h2 : hereV xs k = b) (h3 : ¬ cd.kind = 0) : (putV xs k cd cv).flatMap PairV.cells = ((xs.take j).flatMap PairV.cells ++ PairV.cells ⟨⟨k, cd⟩, cv⟩) ++ (xs.drop (j + if b then 1 else 0)).flatMap PairV.cells := by
  unfold putV
  rw [h1, h2, if_neg h3, List.flatMap_append, List.flatMap_append, List.flatMap_cons, List.flatMap_nil, List.append_nil]
theorem mem_putV {xs : List PairV} {k : ByteArray} {cd : CellD} {cv : Value} {y : PairV} (h : y ∈ putV xs k cd cv) : y ∈ xs ∨ y = ⟨⟨k, cd⟩, cv⟩ := by
  unfold putV at h
  rw [List.mem_append, List.mem_append] at h
  rcases h with (h | h) | h
  · exact .inl (List.mem_of_mem_take h)
  · split at h
    · cases h
    · rw [List.mem_singleton] at h; exact .inr h
  · exact .inl (List.mem_of_mem_drop h)

set_option maxHeartbeats 3200000 in
set_option maxRecDepth 100000 in
theorem mPut_any (A : Option Addr) (n c : Nat) (k : ByteArray) (cd : CellD) (A3 : Option Addr) (n3 c3 : Nat) (xs : List PairV) (B : Nat) (w : World) (hB : B ≤ w.heap.size) (hn : n ≤ 1000000) (hnc : n ≤ c) (h : Pairs w B A n xs) (hcv : BytesAt w B (.slice A3 n3 c3) cd.data) :
    Calls Tryz.prog 68 #[.slice A n c, .string k, mkCell cd (.slice A3 n3 c3)] w (PutPost w B (putV xs k cd (.slice A3 n3 c3))) := by
  have HL := hide h.1
  have HCV := hide hcv
  clear hcv
  unfold mkCell
  go_enter Tryz.func68, Tryz.ntmps68
  go_wp2
  refine gen1 (fun W0 k0 hbW hz => ?_)
  have hP := h.below hbW hB
  go_loopw [8, 7] (fun i v wr => ∃ j : Nat, j ≤ n ∧ i = .int .i64 j ∧ wr.ownsRow W0.heap.size 55 6 v j ((xs.take j).flatMap PairV.cells) ∧ Below W0.heap.size W0 wr ∧ ∀ (q : Nat) y, q < j → xs[q]? = some y → kless y.d.key k = true) (fun i _ _ => n - (intOf i).toNat)
  case atStart => exact ⟨0, Nat.zero_le _, rfl, by simpa using World.ownsRow_nil W0 _ _ 6, Below.refl _ _, fun q y hq => absurd hq (by omega)⟩
  case round =>
    obtain ⟨j, hj, rfl, hown, hbw, hno⟩ := hrel
    have HNO := hide hno
    clear hno
    have hwz := hbw.size
    obtain ⟨i0, hi, hz0, hz1, hz2⟩ := info_parts info_pair
    obtain ⟨A7, c7, rfl, hnc7, _, _, _, _⟩ := own_slice hown
    have k1 := k0.below hbw (by omega)
    have q0 := k1.cell
    by_cases hlt : j < n
    · have hD := hP.below hbw (by omega)
      obtain ⟨b, o, x, rfl, hb, hkx, hok, hc⟩ := hD.at_ hlt
      obtain ⟨c0, c1, c2, c3, c4, c5⟩ := hD.row hkx
      have d1 := hc 1 _ rfl
      have d2 := hc 2 _ rfl
      have d3 := hc 3 _ rfl
      have d4 := hc 4 _ rfl
      have d5 := hc 5 _ rfl
      have HX := hide hkx
      have HONE := hide hok.one
      clear hkx hc c1 c2 c3 c4 c5 hok
      obtain ⟨⟨ky, cd'⟩, cv'⟩ := x
      dsimp only at *
      have s4 : (j : Int) < n := by omega
      cases hkl : Op.bytesLess ky.toList k.toList
      · have hpos : posV xs k = j := posV_eq (by have := HL.out; omega) HNO.out (fun y hy => by rw [HX.out] at hy; injection hy with hy; subst hy; exact hkl)
        cases hkk : ky.toList == k.toList
        · have hhere : hereV xs k = false := by
            unfold hereV
            rw [hpos, HX.out]
            exact hkk
          have HPOS := hide hpos
          have HHERE := hide hhere
          clear hpos hhere
          have hcut : ∀ W, Below W0.heap.size W0 W → Reads W B 6 (some ⟨b, o + j * 6, none⟩) (n - (j)) ((xs.drop (j)).flatMap PairV.cells) := fun W hW => by
            have h1 := (hP.below hW (by omega)).2.1.cut (k := j) (cap := c) (by omega) hnc
            rw [flat_drop _ 6 PairV.cells_length, if_neg (by omega)] at h1
            simpa [add_plain] using h1
          have HCUT := hide hcut
          have HONE2 := hide (hP.one (ys := xs.drop (j)) (fun y hy => List.mem_of_mem_drop hy))
          clear hcut
          by_cases hk0 : cd.kind = 0
          · go_wp2_with (at_builtin; refine wpList_append_any _ rfl (.tmp 58) (.tmp 61) _ rfl W0.heap.size 55 i0 _ 6 72 Tryz.underlying22 hi hz0 hz1 hz2 rfl (by omega) _ j _ rfl hown B _ _ _ ((xs.drop (j)).flatMap PairV.cells) rfl (by first | exact HCUT.out _ (by assumption) | simpa [add_plain] using HCUT.out _ (by assumption)) HONE2.out (by unfold maxLen; omega) (by omega) (by omega) ?_; intro v3 w3 hown3 hg3 hat3)
            all_goals
             go_ret
             have hbw3 := hbw.grown hg3 (by omega) (fun q hq => (hown.lt q hq).1)
             have hb3 : Below w.heap.size w w3 := hbW.trans (hbw3.mono (by omega))
             refine put_close (B := B) hown3 ?_ ?_ (fun y hy => ?_) (by have := hbw3.size; omega) hb3
             · exact (putV_flat0 HPOS.out HHERE.out hk0).symm
             · unfold putV
               rw [HPOS.out, HHERE.out, if_pos hk0]
               have := HL.out
               simp
               omega
             · rcases mem_putV hy with hy | rfl
               · exact (hP.below hbw3 (by omega)).2.2 y hy
               · exact HCV.out.below hb3 hB
          · have HN1 := hide (PairOk.one (w := w) (B := B) (x := ⟨⟨k, cd⟩, .slice A3 n3 c3⟩) HCV.out)
            go_wp2_with (first
              | (at_builtin; refine wpList_append_any _ rfl (.tmp 37) (.tmp 41) _ rfl W0.heap.size 55 i0 _ 6 72 Tryz.underlying22 hi hz0 hz1 hz2 rfl (by omega) _ j _ rfl (hown.alloc _) (wr.heap.size + 1) (some ⟨wr.heap.size, 0, none⟩) 1 1 (PairV.cells ⟨⟨k, cd⟩, .slice A3 n3 c3⟩) rfl (Reads.of_blk (Blk.new wr 55 _) rfl) HN1.out (by unfold maxLen; omega) (by omega) (by simp; omega) ?_; intro v2 w2 hown2 hg2 hat2; have hbw2 : Below W0.heap.size W0 w2 := (hbw.alloc hwz _).grown hg2 (by simp; omega) (fun q hq => (hown.lt q hq).1); have hwz2 := hbw2.size; have c0' := ((hP.below hbw2 (by omega)).row HX.out).1)
              | (at_builtin; refine wpList_append_any _ rfl (.tmp 58) (.tmp 61) _ rfl W0.heap.size 55 i0 _ 6 72 Tryz.underlying22 hi hz0 hz1 hz2 rfl (by omega) _ (j + 1) _ rfl hown2 B _ _ _ ((xs.drop (j)).flatMap PairV.cells) rfl (by first | exact HCUT.out _ (by assumption) | simpa [add_plain] using HCUT.out _ (by assumption)) HONE2.out (by unfold maxLen; omega) (by omega) (by omega) ?_; intro v3 w3 hown3 hg3 hat3))
            all_goals
             go_ret
             have hbw3 := hbw2.grown hg3 (by omega) (fun q hq => (hown2.lt q hq).1)
             have hb3 : Below w.heap.size w w3 := hbW.trans (hbw3.mono (by omega))
             refine put_close (B := B) hown3 ?_ ?_ (fun y hy => ?_) (by have := hbw3.size; omega) hb3
             · exact (putV_flat1 HPOS.out HHERE.out hk0).symm
             · unfold putV
               rw [HPOS.out, HHERE.out, if_neg hk0]
               have := HL.out
               simp
               omega
             · rcases mem_putV hy with hy | rfl
               · exact (hP.below hbw3 (by omega)).2.2 y hy
               · exact HCV.out.below hb3 hB
        · have hhere : hereV xs k = true := by
            unfold hereV
            rw [hpos, HX.out]
            exact hkk
          have HPOS := hide hpos
          have HHERE := hide hhere
          clear hpos hhere
          have hcut : ∀ W, Below W0.heap.size W0 W → Reads W B 6 (if c = j + 1 then (some ⟨b, o, none⟩ : Option Addr) else (some ⟨b, o, none⟩ : Option Addr).map (·.add ((j + 1) * 6))) (n - (j + 1)) ((xs.drop (j + 1)).flatMap PairV.cells) := fun W hW => by
            have h1 := (hP.below hW (by omega)).2.1.cut (k := j + 1) (cap := c) (by omega) hnc
            rwa [flat_drop _ 6 PairV.cells_length] at h1
          have HCUT := hide hcut
          have HONE2 := hide (hP.one (ys := xs.drop (j + 1)) (fun y hy => List.mem_of_mem_drop hy))
          clear hcut
          by_cases hk0 : cd.kind = 0
          · go_wp2_with (at_builtin; refine wpList_append_any _ rfl (.tmp 58) (.tmp 61) _ rfl W0.heap.size 55 i0 _ 6 72 Tryz.underlying22 hi hz0 hz1 hz2 rfl (by omega) _ j _ rfl hown B _ _ _ ((xs.drop (j + 1)).flatMap PairV.cells) rfl (by first | exact HCUT.out _ (by assumption) | simpa [add_plain] using HCUT.out _ (by assumption)) HONE2.out (by unfold maxLen; omega) (by omega) (by omega) ?_; intro v3 w3 hown3 hg3 hat3)
            all_goals
             go_ret
             have hbw3 := hbw.grown hg3 (by omega) (fun q hq => (hown.lt q hq).1)
             have hb3 : Below w.heap.size w w3 := hbW.trans (hbw3.mono (by omega))
             refine put_close (B := B) hown3 ?_ ?_ (fun y hy => ?_) (by have := hbw3.size; omega) hb3
             · exact (putV_flat0 HPOS.out HHERE.out hk0).symm
             · unfold putV
               rw [HPOS.out, HHERE.out, if_pos hk0]
               have := HL.out
               simp
               omega
             · rcases mem_putV hy with hy | rfl
               · exact (hP.below hbw3 (by omega)).2.2 y hy
               · exact HCV.out.below hb3 hB
          · have HN1 := hide (PairOk.one (w := w) (B := B) (x := ⟨⟨k, cd⟩, .slice A3 n3 c3⟩) HCV.out)
            go_wp2_with (first
              | (at_builtin; refine wpList_append_any _ rfl (.tmp 37) (.tmp 41) _ rfl W0.heap.size 55 i0 _ 6 72 Tryz.underlying22 hi hz0 hz1 hz2 rfl (by omega) _ j _ rfl (hown.alloc _) (wr.heap.size + 1) (some ⟨wr.heap.size, 0, none⟩) 1 1 (PairV.cells ⟨⟨k, cd⟩, .slice A3 n3 c3⟩) rfl (Reads.of_blk (Blk.new wr 55 _) rfl) HN1.out (by unfold maxLen; omega) (by omega) (by simp; omega) ?_; intro v2 w2 hown2 hg2 hat2; have hbw2 : Below W0.heap.size W0 w2 := (hbw.alloc hwz _).grown hg2 (by simp; omega) (fun q hq => (hown.lt q hq).1); have hwz2 := hbw2.size; have c0' := ((hP.below hbw2 (by omega)).row HX.out).1)
              | (at_builtin; refine wpList_append_any _ rfl (.tmp 58) (.tmp 61) _ rfl W0.heap.size 55 i0 _ 6 72 Tryz.underlying22 hi hz0 hz1 hz2 rfl (by omega) _ (j + 1) _ rfl hown2 B _ _ _ ((xs.drop (j + 1)).flatMap PairV.cells) rfl (by first | exact HCUT.out _ (by assumption) | simpa [add_plain] using HCUT.out _ (by assumption)) HONE2.out (by unfold maxLen; omega) (by omega) (by omega) ?_; intro v3 w3 hown3 hg3 hat3))
            all_goals
             go_ret
             have hbw3 := hbw2.grown hg3 (by omega) (fun q hq => (hown2.lt q hq).1)
             have hb3 : Below w.heap.size w w3 := hbW.trans (hbw3.mono (by omega))
             refine put_close (B := B) hown3 ?_ ?_ (fun y hy => ?_) (by have := hbw3.size; omega) hb3
             · exact (putV_flat1 HPOS.out HHERE.out hk0).symm
             · unfold putV
               rw [HPOS.out, HHERE.out, if_neg hk0]
               have := HL.out
               simp
               omega
             · rcases mem_putV hy with hy | rfl
               · exact (hP.below hbw3 (by omega)).2.2 y hy
               · exact HCV.out.below hb3 hB
      · clear q0
        go_wp2_with (at_builtin; refine wpList_append_any _ rfl (.tmp 25) (.tmp 30) _ rfl W0.heap.size 55 i0 _ 6 72 Tryz.underlying22 hi hz0 hz1 hz2 rfl (by omega) _ j _ rfl (hown.alloc _) (wr.heap.size + 1) (some ⟨wr.heap.size, 0, none⟩) 1 1 (PairV.cells ⟨⟨ky, cd'⟩, cv'⟩) rfl (Reads.of_blk (Blk.new wr 55 _) rfl) HONE.out (by unfold maxLen; omega) (by omega) (by simp; omega) ?_; intro v2 w2 hown2 hg2 hat2)
        go_round
        case rel =>
          refine ⟨j + 1, by omega, by go_num, ?_, ?_, fun q y hq hy => ?_⟩
          · have e1 : (xs.take (j + 1)).flatMap PairV.cells = (xs.take j).flatMap PairV.cells ++ PairV.cells ⟨⟨ky, cd'⟩, cv'⟩ := by
              obtain ⟨hk', e⟩ := List.getElem?_eq_some_iff.1 HX.out
              rw [List.take_succ_eq_append_getElem hk', List.flatMap_append, e]
              simp
            rw [e1]
            exact hown2
          · exact (hbw.alloc hwz _).grown hg2 (by simp; omega) (fun q hq => (hown.lt q hq).1)
          · by_cases hqj : q < j
            · exact HNO.out q y hqj hy
            · obtain rfl : q = j := by omega
              rw [HX.out] at hy
              injection hy with hy
              subst hy
              exact hkl
        case measure => simp [intOf]; omega
    · obtain rfl : j = n := by omega
      have hpos : posV xs k = j := posV_eq (by have := HL.out; omega) HNO.out (fun y hy => by have := (List.getElem?_eq_some_iff.1 hy).1; have := HL.out; omega)
      have hhere : hereV xs k = false := by
        unfold hereV
        rw [hpos, List.getElem?_eq_none (by have := HL.out; omega)]
      have HPOS := hide hpos
      have HHERE := hide hhere
      clear hpos hhere
      have hcut : ∀ W, Below W0.heap.size W0 W → Reads W B 6 (if c = j then A else A.map (·.add ((j) * 6))) (j - (j)) ((xs.drop (j)).flatMap PairV.cells) := fun W hW => by
        have h1 := (hP.below hW (by omega)).2.1.cut (k := j) (cap := c) (by omega) hnc
        rwa [flat_drop _ 6 PairV.cells_length] at h1
      have HCUT := hide hcut
      have HONE2 := hide (hP.one (ys := xs.drop (j)) (fun y hy => List.mem_of_mem_drop hy))
      clear hcut
      by_cases hk0 : cd.kind = 0
      · go_wp2_with (at_builtin; refine wpList_append_any _ rfl (.tmp 58) (.tmp 61) _ rfl W0.heap.size 55 i0 _ 6 72 Tryz.underlying22 hi hz0 hz1 hz2 rfl (by omega) _ j _ rfl hown B _ _ _ ((xs.drop (j)).flatMap PairV.cells) rfl (by first | exact HCUT.out _ (by assumption) | simpa [add_plain] using HCUT.out _ (by assumption)) HONE2.out (by unfold maxLen; omega) (by omega) (by omega) ?_; intro v3 w3 hown3 hg3 hat3)
        all_goals
         go_ret
         have hbw3 := hbw.grown hg3 (by omega) (fun q hq => (hown.lt q hq).1)
         have hb3 : Below w.heap.size w w3 := hbW.trans (hbw3.mono (by omega))
         refine put_close (B := B) hown3 ?_ ?_ (fun y hy => ?_) (by have := hbw3.size; omega) hb3
         · exact (putV_flat0 HPOS.out HHERE.out hk0).symm
         · unfold putV
           rw [HPOS.out, HHERE.out, if_pos hk0]
           have := HL.out
           simp
           omega
         · rcases mem_putV hy with hy | rfl
           · exact (hP.below hbw3 (by omega)).2.2 y hy
           · exact HCV.out.below hb3 hB
      · have HN1 := hide (PairOk.one (w := w) (B := B) (x := ⟨⟨k, cd⟩, .slice A3 n3 c3⟩) HCV.out)
        go_wp2_with (first
          | (at_builtin; refine wpList_append_any _ rfl (.tmp 37) (.tmp 41) _ rfl W0.heap.size 55 i0 _ 6 72 Tryz.underlying22 hi hz0 hz1 hz2 rfl (by omega) _ j _ rfl (hown.alloc _) (wr.heap.size + 1) (some ⟨wr.heap.size, 0, none⟩) 1 1 (PairV.cells ⟨⟨k, cd⟩, .slice A3 n3 c3⟩) rfl (Reads.of_blk (Blk.new wr 55 _) rfl) HN1.out (by unfold maxLen; omega) (by omega) (by simp; omega) ?_; intro v2 w2 hown2 hg2 hat2; have hbw2 : Below W0.heap.size W0 w2 := (hbw.alloc hwz _).grown hg2 (by simp; omega) (fun q hq => (hown.lt q hq).1); have hwz2 := hbw2.size)
          | (at_builtin; refine wpList_append_any _ rfl (.tmp 58) (.tmp 61) _ rfl W0.heap.size 55 i0 _ 6 72 Tryz.underlying22 hi hz0 hz1 hz2 rfl (by omega) _ (j + 1) _ rfl hown2 B _ _ _ ((xs.drop (j)).flatMap PairV.cells) rfl (by first | exact HCUT.out _ (by assumption) | simpa [add_plain] using HCUT.out _ (by assumption)) HONE2.out (by unfold maxLen; omega) (by omega) (by omega) ?_; intro v3 w3 hown3 hg3 hat3))
        all_goals
         go_ret
         have hbw3 := hbw2.grown hg3 (by omega) (fun q hq => (hown2.lt q hq).1)
         have hb3 : Below w.heap.size w w3 := hbW.trans (hbw3.mono (by omega))
         refine put_close (B := B) hown3 ?_ ?_ (fun y hy => ?_) (by have := hbw3.size; omega) hb3
         · exact (putV_flat1 HPOS.out HHERE.out hk0).symm
         · unfold putV
           rw [HPOS.out, HHERE.out, if_neg hk0]
           have := HL.out
           simp
           omega
         · rcases mem_putV hy with hy | rfl
           · exact (hP.below hbw3 (by omega)).2.2 y hy
           · exact HCV.out.below hb3 hB
end Go.Proofs.YteidmdnhkgcnoaaGreat
