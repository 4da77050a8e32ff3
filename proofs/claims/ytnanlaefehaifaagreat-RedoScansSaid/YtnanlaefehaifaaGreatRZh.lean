/-
  A MAP OF RECORDS, in memory; WALK OF THE PROGRAM: wal.Log.add.
-/
import Derived.Test.YtnanlaefehaifaaGreatRZg
import Derived.Maps.RangeWalk
namespace Go.Proofs.YtnanlaefehaifaaGreat
open Go.RowKit Go.Maps

/-- An element is held as it is. -/
def heldV (v : Value) : Option (DataW Value × List MemPlace) := some (.held v, [])
theorem keyInt : Keyed Tryz.prog 3 := int_keyed Tryz.underlying3
theorem key_of {p : Int} (h : (Lit.int .i64 p).wf = true) : keyOf Tryz.prog 3 (.int .i64 p) = some (.int .i64 p) := keyOf_int_mk Tryz.underlying3 h
/-- Block m is a map from numbers whose elements are f's. -/
def MapF (W : World) (m k : Nat) (f : Int → Option Value) : Prop := ∃ D : DataW Value, W.ownsMap Tryz.prog 3 heldV m k D ∧ ∀ p : Int, Maps.has D (.int .i64 p) = (f p).isSome ∧ ∀ v, f p = some v → ∀ z, D.atKey (.int .i64 p) z = .held v
theorem MapF.ne {W : World} {m k g : Nat} {f : Int → Option Value} {cs : Array Value} {t : TypeId} (h : MapF W m k f) (kb : W.heap[g]? = some (Obj.cells cs t (0, 0))) : g ≠ m := by
  obtain ⟨D, ⟨es, clock, hb, _⟩, _⟩ := h
  rintro rfl
  rw [hb] at kb
  cases kb
theorem MapF.start (w : World) : MapF (w.alloc (.map #[] 0)) w.heap.size 0 (fun _ => none) := ⟨.map [], World.ownsMap_made _ _ _ _, fun _ => ⟨rfl, fun _ h => by cases h⟩⟩
theorem MapF.put {W' : World} {m k : Nat} {f : Int → Option Value} {D : DataW Value} {p : Int} {v : Value} (hD : ∀ p : Int, Maps.has D (.int .i64 p) = (f p).isSome ∧ ∀ v, f p = some v → ∀ z, D.atKey (.int .i64 p) z = .held v) (hm : Maps.IsMap D) (h : W'.ownsMap Tryz.prog 3 heldV m k (D.put (.int .i64 p) (.held v))) : MapF W' m k (fun q => if q = p then some v else f q) := by
  refine ⟨_, h, fun q => ?_⟩
  by_cases hq : q = p
  · subst hq
    simp only [if_true]
    exact ⟨has_put_same hm (show WideAt.IsKeyLit (.int .i64 q) by simp [WideAt.IsKeyLit]) _, fun u hu z => by injection hu with hu; subst hu; exact atKey_put_same hm (show WideAt.IsKeyLit (.int .i64 q) by simp [WideAt.IsKeyLit]) _ _⟩
  · have hne : (Lit.int .i64 q) ≠ (Lit.int .i64 p) := fun e => hq (by injection e)
    simp only [if_neg hq]
    exact ⟨(has_put_other hne _).trans (hD q).1, fun u hu z => (atKey_put_other hne _ _).trans ((hD q).2 u hu z)⟩
theorem MapF.kept {W W' : World} {m k : Nat} {f : Int → Option Value} (h : MapF W m k f) (hk : W'.heap[m]? = W.heap[m]?) : MapF W' m k f := by
  obtain ⟨D, ⟨es, clock, hb, r⟩, hD⟩ := h
  exact ⟨D, ⟨es, clock, hk.trans hb, r⟩, hD⟩
theorem MapF.lt {W : World} {m k : Nat} {f : Int → Option Value} (h : MapF W m k f) : m < W.heap.size := by
  obtain ⟨D, hD, _⟩ := h
  exact hD.lt
/-- Behind wal.add. -/
def AddL (w : World) (l d L m k : Nat) (limit kept forced : Int) (pv : Value) (zs : List Int) (f : Int → Option Value) (p : Int) (x : RecV) (w' : World) : Prop :=
  ∃ pv', Blk w' l 97 (logC d limit kept forced m pv') ∧ w'.ownsRow L 3 1 pv' (zs.length + 1) ((zs ++ [p]).map (Value.int .i64)) ∧ MapF w' m (k + 1) (fun q => if q = p then some (recV x) else f q) ∧ Turn (fun q => q = l ∨ q = m ∨ some q = pv.ownBlock) w w' ∧ (pv'.ownBlock = pv.ownBlock ∨ ∃ g, pv'.ownBlock = some g ∧ w.heap.size ≤ g)
theorem World.ownsMap.kept' {W W' : World} {m k : Nat} {f : Int → Option Value} (h : MapF W m k f) (hb : Below W.heap.size W W') : MapF W' m k f := h.kept (hb.block m h.lt)
set_option maxHeartbeats 6400000 in
set_option maxRecDepth 100000 in
theorem walAdd_any (l d L m k : Nat) (limit kept forced : Int) (pv : Value) (zs : List Int) (f : Int → Option Value) (p : Int) (x : RecV) (w : World) (hL : L ≤ w.heap.size) (hk : k ≤ 1000000) (hz : zs.length ≤ 1000000) (hp : (Lit.int .i64 p).wf = true) (kl : Blk w l 97 (logC d limit kept forced m pv)) (ho : w.ownsRow L 3 1 pv zs.length (zs.map (Value.int .i64))) (hm : MapF w m k f) (B : Nat) (hx : RecOk w B x) :
    Calls Tryz.prog 43 #[.pointer (some ⟨l, 0, none⟩), .int .i64 p, recV x] w fun e w' => (∃ v, e = .returned v) ∧ AddL w l d L m k limit kept forced pv zs f p x w' := by
  have KL := hide kl
  have HO := hide ho
  have HM := hide hm
  have HP := hide hp
  obtain ⟨⟨⟨Ap, cp, hpv, _⟩, _⟩, hu⟩ := hx
  obtain ⟨Au, nu, cu, huv, _⟩ := hu
  obtain ⟨kd, tx, pr, nx, ps, pvv, un⟩ := x
  obtain ⟨yu1, yu2, yu3, yu4, ⟨d1, d2, d3, d4, d5⟩, yuv, yu7⟩ := un
  dsimp only at *
  subst hpv huv
  obtain ⟨np, hnp⟩ : ∃ np, np = ps.length := ⟨_, rfl⟩
  clear kl ho hm hp
  go_enter Tryz.func43, Tryz.ntmps43
  unfold recV
  dsimp only
  rw [← hnp]
  go_upto_region 1 with (fail)
  refine gen1 (R := fun W => Code.wp _ _ _ _ W) (fun W1 kb hb1 hz1 => ?_)
  have KB1 := hide kb
  have KL1 := hide (Blk.via hb1 KL.out)
  have HO1 := hide (own_via HO.out hb1)
  have HM1 := hide (World.ownsMap.kept' HM.out hb1)
  have hb1' := hb1
  have HB1 := hide hb1'
  clear kb hb1 hb1'
  refine wp_region_inv_tail 6 [fun v _ => v = .pointer (some ⟨l, 0, none⟩), fun v _ => v = .pointer (some ⟨l, 0, none⟩), fun v _ => v = .pointer (some ⟨l, 4, none⟩), fun v _ => v = .map (some m), fun v _ => v = .int .i64 p, fun v _ => v = .agg #[.int .i64 kd, .int .i64 tx, .int .i64 pr, .int .i64 nx, .slice Ap np cp, .int .i64 yu1, .string yu2, .int .i64 yu3, .string yu4, .int .i64 d1, .slice Au nu cu, .int .i64 d3, .int .i64 d4, .int .i64 d5, .int .i64 yu7]] (by kernel_rfl) (by kernel_rfl) (by kernel_rfl) (by kernel_rfl) (by kernel_rfl) (by simp) (by kernel_rfl) ?st ?steps ?fin
  case st =>
    intro i v W W' _ h
    match i with
    | 0 | 1 | 2 | 3 | 4 | 5 => exact h
    | (i + 6) => exact h
  case steps =>
    simp only [stepsT, List.take_succ_cons, List.take_zero]
    refine ⟨?_, ?_, ?_, ?_, ?_, ?_, trivial⟩
    · intro f W hbW hdp
      simp only [fillF, Act.put, List.setIfInBounds_toArray, List.set_cons_succ, List.set_cons_zero, Nat.reduceAdd]
      go_wp2
      exact ⟨rfl, _, rfl, rfl, Below.refl _ _⟩
    · intro f W hbW hdp
      have e1 : f 0 = .pointer (some ⟨l, 0, none⟩) := hdp ⟨0, .data⟩ (List.mem_filter.2 ⟨by simp, rfl⟩)
      simp only [fillF, Act.put, List.setIfInBounds_toArray, List.set_cons_succ, List.set_cons_zero, Nat.reduceAdd, e1]
      go_wp2
      exact ⟨rfl, _, rfl, rfl, Below.refl _ _⟩
    · intro f W hbW hdp
      have e1 : f 1 = .pointer (some ⟨l, 0, none⟩) := hdp ⟨1, .data⟩ (List.mem_filter.2 ⟨by simp, rfl⟩)
      simp only [fillF, Act.put, List.setIfInBounds_toArray, List.set_cons_succ, List.set_cons_zero, Nat.reduceAdd, e1]
      go_wp2
      exact ⟨rfl, _, rfl, rfl, Below.refl _ _⟩
    · intro f W hbW hdp
      have e1 : f 2 = .pointer (some ⟨l, 4, none⟩) := hdp ⟨2, .data⟩ (List.mem_filter.2 ⟨by simp, rfl⟩)
      have q : W.cell? ⟨l, 4, none⟩ = some (.map (some m)) := (Blk.via hbW KL1.out).cell 4
      simp only [fillF, Act.put, List.setIfInBounds_toArray, List.set_cons_succ, List.set_cons_zero, Nat.reduceAdd, e1]
      go_wp2
      exact ⟨rfl, _, rfl, rfl, Below.refl _ _⟩
    · intro f W hbW hdp
      simp only [fillF, Act.put, List.setIfInBounds_toArray, List.set_cons_succ, List.set_cons_zero, Nat.reduceAdd]
      go_wp2
      exact ⟨rfl, _, rfl, rfl, Below.refl _ _⟩
    · intro f W hbW hdp
      have kb := Blk.via hbW KB1.out
      have q0 : W.cell? ⟨w.heap.size, 0, none⟩ = some _ := kb.cell 0
      have q1 : W.cell? ⟨w.heap.size, 1, none⟩ = some _ := kb.cell 1
      have q2 : W.cell? ⟨w.heap.size, 2, none⟩ = some _ := kb.cell 2
      have q3 : W.cell? ⟨w.heap.size, 3, none⟩ = some _ := kb.cell 3
      have q4 : W.cell? ⟨w.heap.size, 4, none⟩ = some _ := kb.cell 4
      have q5 : W.cell? ⟨w.heap.size, 5, none⟩ = some _ := kb.cell 5
      have q6 : W.cell? ⟨w.heap.size, 6, none⟩ = some _ := kb.cell 6
      have q7 : W.cell? ⟨w.heap.size, 7, none⟩ = some _ := kb.cell 7
      have q8 : W.cell? ⟨w.heap.size, 8, none⟩ = some _ := kb.cell 8
      have q9 : W.cell? ⟨w.heap.size, 9, none⟩ = some _ := kb.cell 9
      have q10 : W.cell? ⟨w.heap.size, 10, none⟩ = some _ := kb.cell 10
      have q11 : W.cell? ⟨w.heap.size, 11, none⟩ = some _ := kb.cell 11
      have q12 : W.cell? ⟨w.heap.size, 12, none⟩ = some _ := kb.cell 12
      have q13 : W.cell? ⟨w.heap.size, 13, none⟩ = some _ := kb.cell 13
      have q14 : W.cell? ⟨w.heap.size, 14, none⟩ = some _ := kb.cell 14
      clear kb
      simp only [fillF, Act.put, List.setIfInBounds_toArray, List.set_cons_succ, List.set_cons_zero, Nat.reduceAdd]
      go_wp2
      exact ⟨rfl, _, rfl, rfl, Below.refl _ _⟩
  case fin =>
    intro ff W2 hbW hA
    have e3 : ff 3 = .map (some m) := hA 3 (by omega)
    have e4 : ff 4 = .int .i64 p := hA 4 (by omega)
    have e5 : ff 5 = .agg #[.int .i64 kd, .int .i64 tx, .int .i64 pr, .int .i64 nx, .slice Ap np cp, .int .i64 yu1, .string yu2, .int .i64 yu3, .string yu4, .int .i64 d1, .slice Au nu cu, .int .i64 d3, .int .i64 d4, .int .i64 d5, .int .i64 yu7] := hA 5 (by omega)
    simp only [List.drop_succ_cons, List.drop_zero, fillF, List.take_succ_cons, List.take_zero, Act.put, List.setIfInBounds_toArray, List.set_cons_succ, List.set_cons_zero, Nat.reduceAdd, e3, e4, e5]
    have hm2 := World.ownsMap.kept' HM1.out hbW
    obtain ⟨D, hown, hD⟩ := hm2
    refine wpList_mapUpdate_own _ rfl _ _ _ 95 rfl 3 41 keyInt Tryz.underlying95 heldV m k D rfl hown (by unfold maxLen; omega) _ _ _ rfl rfl (key_of HP.out) _ [] rfl ?_
    intro W3 hown3 hg3
    have hm3 : MapF W3 m (k + 1) (fun q => if q = p then some (.agg #[.int .i64 kd, .int .i64 tx, .int .i64 pr, .int .i64 nx, .slice Ap np cp, .int .i64 yu1, .string yu2, .int .i64 yu3, .string yu4, .int .i64 d1, .slice Au nu cu, .int .i64 d3, .int .i64 d4, .int .i64 d5, .int .i64 yu7]) else f q) := MapF.put hD hown.isMap hown3
    have hml := World.ownsMap.kept' HM1.out hbW
    have kl2 := Blk.via hbW KL1.out
    have ho2 := own_via HO1.out hbW
    have hlm : l ≠ m := hml.ne kl2
    have kl3 : Blk W3 l 97 _ := (hg3.block l kl2.lt (by simp; exact hlm)).trans kl2
    have ho3 := row_keep ho2 (fun q hq => by
      obtain ⟨cur, hc⟩ := row_obj ho2 hq
      exact hg3.block q (World.ownsRow.lt ho2 q hq).2 (by simp; exact hml.ne hc))
    have hT3 : Turn (fun q => q = l ∨ q = m ∨ some q = pv.ownBlock) w W3 := (Turn.of_below HB1.out).trans ((Turn.of_below hbW).trans (Turn.of_grown hg3 (fun q hq => by injection hq with hq; exact .inr (.inl hq))))
    have c5 : W3.cell? ⟨l, 5, none⟩ = some pv := kl3.cell 5
    have f5 := kl3.frozen 5
    have l3 := kl3.lt
    have KL3 := hide kl3
    have HM3 := hide hm3
    have HT3 := hide hT3
    obtain ⟨A, c, rfl, junk⟩ := own_slice ho3
    have HO3 := hide ho3
    generalize ff 0 = g0
    generalize ff 1 = g1
    generalize ff 2 = g2
    clear hA e3 e4 e5 hown hD hown3 hg3 hm3 hml kl2 ho2 kl3 ho3 hT3 hbW junk
    go_frame
    go_wp2_with (at_builtin; refine heldG ?_)
    refine gen1 (R := fun W => HeldG (wpList _ _ _ _ _ W)) (fun W4 k4 hb4 hz4 => ?_)
    have HO4 := hide (own_via HO3.out hb4)
    have HKL4 := hide (Blk.via hb4 KL3.out)
    have HM4 := hide (World.ownsMap.kept' HM3.out hb4)
    have hT4 := HT3.out.trans (Turn.of_below hb4)
    have hz4' := hT4.size
    obtain ⟨i0, hi, hz0, hz1', hz2⟩ := info_parts info_intR
    refine unheldG ?_
    at_builtin
    refine wpList_append_any _ rfl _ _ _ rfl L 3 i0 _ 1 8 Tryz.underlying30 hi hz0 hz1' hz2 rfl (by omega) _ zs.length _ rfl HO4.out W4.heap.size _ 1 1 [.int .i64 p] rfl ((Reads.of_blk (size := 1) (n := 1) k4 rfl).more (by omega)) (fun u hu => by rw [List.mem_singleton] at hu; subst hu; rfl) (by unfold maxLen; omega) (by omega) (by omega) ?_
    intro v5 W5 ho5 hg5 hloc
    replace hg5 : W4.grownBy W5 (Value.slice A zs.length c).ownBlock := hg5
    replace hloc : v5.ownBlock = (Value.slice A zs.length c).ownBlock ∨ v5.ownBlock = some W4.heap.size := hloc
    have kl5 : Blk W5 l 97 _ := HKL4.out.grown hg5 (fun e => by
      obtain ⟨cur, hc⟩ := row_obj HO4.out e.symm
      exact absurd (HKL4.out.ne_ (show Blk W4 l 3 cur from hc) (by decide) rfl) id)
    have hm5 : MapF W5 m (k + 1) _ := HM4.out.kept (hg5.block m HM4.out.lt (fun e => by
      obtain ⟨cur, hc⟩ := row_obj HO4.out e.symm
      exact HM4.out.ne hc rfl))
    have hT5 := hT4.trans (Turn.of_grown (S := fun q => q = l ∨ q = m ∨ some q = (Value.slice A zs.length c).ownBlock) hg5 (fun q hq => .inr (.inr hq)))
    have c5' : W5.cell? ⟨l, 5, none⟩ = some (.slice A zs.length c) := kl5.cell 5
    have f5' := kl5.frozen 5
    have l5 := kl5.lt
    have hlm5 := hm5.ne kl5
    have HE := hide (show AddL w l d L m k limit kept forced (.slice A zs.length c) zs f p ⟨kd, tx, pr, nx, ps, .slice Ap np cp, ⟨yu1, yu2, yu3, yu4, ⟨d1, d2, d3, d4, d5⟩, .slice Au nu cu, yu7⟩⟩ (W5.setCell ⟨l, 5, none⟩ v5) from
      ⟨v5, kl5.set_ 5 _, own_farK (by rw [List.map_append]; exact ho5) kl5 (by decide) _, hm5.kept (Below.heap_setCell W5 ⟨l, 5, none⟩ v5 m (fun e => hlm5 e.symm)), Turn.set (S := fun q => q = l ∨ q = m ∨ some q = (Value.slice A zs.length c).ownBlock) hT5 (p := ⟨l, 5, none⟩) (.inl (.inl rfl)) _, hloc.imp id (fun h => ⟨_, h, by omega⟩)⟩)
    obtain ⟨A5, c5v, rfl, junk⟩ := own_slice ho5
    clear junk ho5 hg5 hloc hm5 hT5 kl5 hT4 hb4 k4 hi hz0 hz1' hz2 c5 f5 hlm5
    go_wp2
    go_end0
    refine ⟨⟨_, rfl⟩, ?_⟩
    exact HE.out
end Go.Proofs.YtnanlaefehaifaaGreat
