/-
  WALKS: slices.Delete of the only place; wal.Free of the only record.
-/
import Derived.Test.YtnanlaefehaifaaGreatLA
import Derived.Test.YtnanlaefehaifaaGreatRZi
import Derived.Test.YtnanlaefehaifaaGreatIns
import Derived.Test.YtnanlaefehaifaaGreatRZj
import Derived.Maps.OwnIn
import Derived.Laws.Externs
namespace Go.Proofs.YtnanlaefehaifaaGreat
open Go.RowKit Go.Maps

theorem size_int1 : (Tryz.prog.info? 3).map (·.size) = some 1 := by kernel_rfl
theorem zero_int1 (w : World) : (zeroValue 3).run Tryz.prog w = .ok (.int .i64 0) w := by kernel_rfl
theorem zero_cells1 : (Builtin.zeroCells (Value.int .i64 0).cells 1).toList = [Value.int .i64 0] := by simp [Builtin.zeroCells, Value.cells]
theorem grown_of_touch' {w w' : World} {g : Nat} (ht : Touch g (g + 1) w w') : w.grownBy w' (some g) := ⟨ht.os, ht.tape, ht.output, Nat.le_of_eq ht.size.symm, fun k _ hne => ht.block k (by rcases Nat.lt_trichotomy k g with h | h | h; exact .inl h; exact absurd (by rw [h]) hne; exact .inr h)⟩
theorem grown_trans' {a b c : World} {row : Option Nat} (h1 : a.grownBy b row) (h2 : b.grownBy c row) : a.grownBy c row :=
  ⟨h2.os.trans h1.os, h2.tape.trans h1.tape, h2.output.trans h1.output, Nat.le_trans h1.size h2.size, fun k hk hn => (h2.block k (Nat.lt_of_lt_of_le hk h1.size) hn).trans (h1.block k hk hn)⟩
set_option maxHeartbeats 6400000 in
/-- The only element of a row is cut out. -/
theorem delete1_any (g cap base : Nat) (x : Value) (w : World) (hown : w.ownsRow base 3 1 (.slice (some ⟨g, 0, none⟩) 1 cap) 1 [x]) :
    Calls Tryz.prog 53 #[.slice (some ⟨g, 0, none⟩) 1 cap, .int .i64 0, .int .i64 1] w fun e w' => e = .returned (.slice (some ⟨g, 0, none⟩) 0 cap) ∧ w'.ownsRow base 3 1 (.slice (some ⟨g, 0, none⟩) 0 cap) 0 [] ∧ w.grownBy w' (some g) := by
  obtain ⟨cur, k0, hbg, hnc, hcm, hs, ht⟩ := own_blk hown
  have hkd : Blk w.drew g 3 cur.toList.toArray := by rw [Array.toArray_toList]; exact k0.drew
  have hcl : 1 ≤ cap := hnc
  have hlen : cur.toList.length = cap := by simpa using hs
  have hsp : spl cur.toList 0 [] = cur.toList := by simp [spl]
  have HB := hide hbg
  have HCM := hide hcm
  have HKD := hide hkd
  have HLEN := hide hlen
  have HSP := hide hsp
  have hl0 := k0.lt
  clear hown k0 hs ht hkd hbg hcm hsp
  have hc1 : (1 : Int) ≤ cap := by omega
  have hc0 : ¬ (cap = 0) := by omega
  by_cases hce : cap = 1
  · subst hce
    go_enter Tryz.func53, Tryz.ntmps53
    go_wp2
    go_region_law ((refine step_append_blk rfl _ _ 30 rfl 3 1 Tryz.underlying30 size_int1 g 3 cur.toList [] 0 1 (some ⟨g, 0, none⟩) 0 0 (by simp [Act.eval, Act.put]) (by simp [Act.eval, Act.put]) HKD.out (by simp) (fun h => absurd h (by omega)) (by omega) (by simp) (fun u hu => by cases hu) ?_; intro w1 hk1 ht1))
    go_wp2_with (refine wpList_clear_blk rfl (.tmp 31) 30 rfl 3 [Value.int .i64 0] Tryz.underlying30 zero_int1 zero_cells1 g 0 3 _ 1 rfl hk1 (by rw [Nat.zero_mul, HSP.out, HLEN.out]; simp) (fun u hu => by rw [List.mem_singleton] at hu; subst hu; rfl) ?_; intro w2 hk2 ht2)
    go_ret
    have hgw : w.grownBy w2 (some g) := grown_trans' (World.grownBy.drewR w _) (grown_trans' (grown_of_touch' ht1) (grown_of_touch' ht2))
    refine ⟨rfl, ⟨rfl, .inr ⟨g, 1, _, rfl, HB.out, hk2, by omega, HCM.out, ?_, by simp⟩⟩, hgw⟩
    rw [Nat.zero_mul, HSP.out]
    simp [spl, HLEN.out]
  · have hc2 : ¬ (cap - 1 = 0) := by omega
    go_enter Tryz.func53, Tryz.ntmps53
    go_wp2
    go_region_law ((refine step_append_blk rfl _ _ 30 rfl 3 1 Tryz.underlying30 size_int1 g 3 cur.toList [] 0 cap (some ⟨g, 1, none⟩) 0 (cap - 1) (by simp [Act.eval, Act.put]) (by simp [Act.eval, Act.put]) HKD.out (by simp) (fun h => absurd h (by omega)) (by omega) (by simp) (fun u hu => by cases hu) ?_; intro w1 hk1 ht1))
    go_wp2_with (refine wpList_clear_blk rfl (.tmp 31) 30 rfl 3 [Value.int .i64 0] Tryz.underlying30 zero_int1 zero_cells1 g 0 3 _ cap rfl hk1 (by rw [Nat.zero_mul, HSP.out, HLEN.out]; simp; omega) (fun u hu => by rw [List.mem_singleton] at hu; subst hu; rfl) ?_; intro w2 hk2 ht2)
    go_ret
    have hgw : w.grownBy w2 (some g) := grown_trans' (World.grownBy.drewR w _) (grown_trans' (grown_of_touch' ht1) (grown_of_touch' ht2))
    refine ⟨rfl, ⟨rfl, .inr ⟨g, cap, _, rfl, HB.out, hk2, by omega, HCM.out, ?_, by simp⟩⟩, hgw⟩
    rw [Nat.zero_mul, HSP.out]
    simp [spl, HLEN.out]
    omega
theorem MapF.del {W' : World} {m k : Nat} {f : Int → Option Value} {D : DataW Value} {p : Int} (hD : ∀ p : Int, Maps.has D (.int .i64 p) = (f p).isSome ∧ ∀ v, f p = some v → ∀ z, D.atKey (.int .i64 p) z = .held v) (h : W'.ownsMap Tryz.prog 3 heldV m k (D.del (.int .i64 p))) : MapF W' m k (fun q => if q = p then none else f q) := by
  refine ⟨_, h, fun q => ?_⟩
  by_cases hq : q = p
  · subst hq
    simp only [if_true]
    exact ⟨has_del_same, fun u hu => by cases hu⟩
  · have hne : (Lit.int .i64 q) ≠ (Lit.int .i64 p) := fun e => hq (by injection e)
    simp only [if_neg hq]
    exact ⟨(has_del_other hne).trans (hD q).1, fun u hu z => (atKey_del_other hne _).trans ((hD q).2 u hu z)⟩
/-- What wal.Free of the only record leaves: an empty log. -/
def FreeL (w : World) (l d m L : Nat) (limit forced : Int) (sv mv pv : Value) (k : Nat) (f : Int → Option Value) (p sure fuse : Int) (e : Ending) (w' : World) : Prop :=
  e = .returned (.int .i64 0) ∧ ∃ lv' pv' o', LogS w' l d m L limit forced sv mv lv' pv' [] [] k (fun q => if q = p then none else f q) 0 p sure fuse o' ∧
    (∀ q, lv'.ownBlock = some q → w.heap.size ≤ q) ∧ pv'.ownBlock = pv.ownBlock ∧ Turn (fun q => q = l ∨ q = d ∨ q = m ∨ some q = pv.ownBlock) w w'
set_option maxHeartbeats 12800000 in
set_option maxRecDepth 100000 in
theorem walFree1_any (l d m L : Nat) (limit forced : Int) (sv mv lv pv : Value) (bs : List UInt8) (p : Int) (k : Nat) (f : Int → Option Value) (y : RecV) (stale head sure fuse o : Int) (w : World)
    (hS : LogS w l d m L limit forced sv mv lv pv bs [p] k f stale head sure fuse o) (hL : L ≤ w.heap.size) (hbs : 0 < bs.length) (hbs2 : bs.length ≤ 2000000) (hst : 0 ≤ stale) (hst2 : stale ≤ 100000000) (hh : 0 ≤ head) (hh2 : head ≤ 10000000) (hp : p = head + bs.length) (hf : f p = some (recV y)) (hpv : ∃ A n c, y.pv = .slice A n c) (hcv : ∃ A n c, y.undo.cv = .slice A n c) :
    Calls Tryz.prog 12 #[.pointer (some ⟨l, 0, none⟩), .int .i64 p] w (FreeL w l d m L limit forced sv mv pv k f p (max sure p) fuse) := by
  have hpw : (Lit.int .i64 p).wf = true := WalkArith.wf_i64 ⟨by omega, by omega⟩
  obtain ⟨A1, n1, c1, e1⟩ := hpv
  obtain ⟨A2, n2, c2, e2⟩ := hcv
  obtain ⟨g, cap, hpv2, hgL, hgl⟩ := hS.op.form (by simp)
  have hlk := hS.mf.look hpw hf Tryz.underlying95 zero_rec
  subst hpv2
  obtain ⟨kd, tx, pr, nx, ps, pvv, un⟩ := y
  obtain ⟨yu1, yu2, yu3, yu4, ⟨d1, d2, d3, d4, d5⟩, yuv, yu7⟩ := un
  dsimp only at e1 e2
  subst e1 e2
  unfold recV at hlk
  dsimp only at hlk
  have HS := hide hS
  have HPW := hide hpw
  have HP := hide hp
  have c4 : w.cell? ⟨l, 4, none⟩ = some (.map (some m)) := hS.kl.cell 4
  have ll := hS.kl.lt
  have ld := hS.kd.lt
  have lm := hS.mf.lt
  have hld := hS.kl.ne_ hS.kd (by decide)
  have hlm : l ≠ m := hS.mf.ne hS.kl
  have hdm : d ≠ m := hS.mf.ne hS.kd
  obtain ⟨cg, hcg⟩ := row_obj hS.op rfl
  have hgl' : g ≠ l := fun e => by rw [e, show w.heap[l]? = _ from hS.kl] at hcg; injection hcg with hcg; injection hcg with _ h2 _; exact absurd h2 (by decide)
  have hgd : g ≠ d := fun e => by rw [e, show w.heap[d]? = _ from hS.kd] at hcg; injection hcg with hcg; injection hcg with _ h2 _; exact absurd h2 (by decide)
  have hgm : g ≠ m := hS.mf.ne hcg
  clear hS hf hpw hp hcg
  go_enter Tryz.func12, Tryz.ntmps12
  go_upto_region 4 with (fail)
  refine gen1 (R := fun W => Code.wp _ _ _ _ W) (fun W1 kb hb1 hz1 => ?_)
  have hS1 := HS.out.via hb1
  have q0 : W1.cell? ⟨l, 0, none⟩ = some (.pointer (some ⟨d, 0, none⟩)) := hS1.kl.cell 0
  have HS1 := hide hS1
  have HB1 := hide hb1
  have HF := hide (devFree_any d L p sv mv lv bs stale head sure fuse o W1 (by omega) hbs hst hst2 hh (by omega) HP.out hS1.kd hS1.ol)
  clear kb hb1 hS1 hlk c4
  go_upto_region 7 with (go_at_call 52; refine HF.out.mono ?_; rintro e W2 ⟨rfl, lv2, o2, hd2, ho2, ht2⟩)
  have hkl2 : Blk W2 l 97 (logC d limit 0 forced m (.slice (some ⟨g, 0, none⟩) [p].length cap)) := (ht2.block l (by omega) (fun e => hld e)).trans HS1.out.kl
  have hop2 : W2.ownsRow L 3 1 (.slice (some ⟨g, 0, none⟩) [p].length cap) [p].length ([p].map (Value.int .i64)) := row_keep HS1.out.op (fun q hq => by cases hq; exact ht2.block g (by omega) hgd)
  have hmf2 := HS1.out.mf.kept (ht2.block m (by omega) (fun e => hdm e.symm))
  have q5 : W2.cell? ⟨l, 5, none⟩ = some (.slice (some ⟨g, 0, none⟩) 1 cap) := hkl2.cell 5
  have l2 := hkl2.lt
  have hg2 : W2.cell? ⟨g, 0, none⟩ = some (.int .i64 p) ∧ W2.frozen? ⟨g, 0, none⟩ = false ∧ g < W2.heap.size := own_cell hop2 0 (by simp)
  have g0 := hg2.1
  have g2 := hg2.2.2
  have HKL2 := hide hkl2
  have HOP2 := hide hop2
  have HMF2 := hide hmf2
  have HD2 := hide hd2
  have HO2 := hide ho2
  have HT2 := hide ht2
  clear hkl2 hop2 hmf2 hd2 ho2 ht2 hg2 q0
  go_wp2
  go_loopw [8, 44] (fun gv iv wr => ∃ j : Nat, j ≤ 1 ∧ gv = .int .i64 j ∧ iv = .int .i64 j ∧ (j = 0 → wr = W2) ∧ (j = 1 → W2.grownBy wr (some m) ∧ MapF wr m k (fun q => if q = p then none else f q))) (fun _ iv _ => 1 - (intOf iv).toNat)
  case atStart => exact ⟨0, by omega, rfl, rfl, fun _ => rfl, fun h => absurd h (by omega)⟩
  case round =>
    obtain ⟨j, hj, rfl, rfl, hj0, hj1⟩ := hrel
    obtain rfl | rfl : j = 0 ∨ j = 1 := by omega
    · obtain rfl := hj0 rfl
      clear hj0 hj1
      have q4 : wr.cell? ⟨l, 4, none⟩ = some (.map (some m)) := HKL2.out.cell 4
      go_wp2_with (at_delete; refine heldG ?_)
      refine unheldG ?_
      at_delete
      obtain ⟨DD, hown, hDD⟩ := HMF2.out
      refine wpList_delete_own _ rfl _ _ 95 3 rfl 41 keyInt Tryz.underlying95 heldV m k DD rfl hown _ _ rfl (key_of HPW.out) ?_
      intro W3 hown3 ht3
      have HM3 := hide (MapF.del hDD hown3)
      have HG3 := hide ht3.grown
      clear hown hDD hown3 ht3 q4
      go_wp2
      go_roundw
      case rel => exact ⟨1, by omega, by go_num, by go_num, fun h => absurd h (by omega), fun _ => ⟨HG3.out, HM3.out⟩⟩
      case measure => simp [intOf]
    · obtain ⟨hg3, hm3⟩ := hj1 rfl
      have hkl3 : Blk wr l 97 _ := HKL2.out.grown hg3 (by simp; exact hlm)
      have hop3 : wr.ownsRow L 3 1 (.slice (some ⟨g, 0, none⟩) 1 cap) 1 [.int .i64 p] := row_keep HOP2.out (fun q hq => by cases hq; exact hg3.block g g2 (by simp; exact hgm))
      have HDEL := hide (delete1_any g cap L (.int .i64 p) wr hop3)
      have q5 : wr.cell? ⟨l, 5, none⟩ = some (.slice (some ⟨g, 0, none⟩) 1 cap) := hkl3.cell 5
      have l3 := hkl3.lt
      have HKL3 := hide hkl3
      have HG3 := hide hg3
      have HM3 := hide hm3
      clear hj0 hj1 hkl3 hop3 hg3 hm3 g0
      go_upto_region 17 with (fail)
      go_wp2_with (go_at_call 53; refine HDEL.out.mono ?_; rintro e W4 ⟨rfl, ho4, hg4⟩; have kl4 := HKL3.out.grown hg4 (by simp; exact fun e => hgl' e.symm); have x5 := kl4.cell 5; have f5 := kl4.frozen 5; have l5 := kl4.lt)
      go_ret
      have hz1' := HB1.out.size
      have hz2' := HT2.out.size
      have hz3' := HG3.out.size
      have hol : ∀ q, lv2.ownBlock = some q → W1.heap.size ≤ q ∧ q < W2.heap.size := fun q hq => HO2.out.lt q hq
      have hT : Turn (fun q => q = l ∨ q = d ∨ q = m ∨ some q = (Value.slice (some ⟨g, 0, none⟩) 1 cap).ownBlock) w W4 := (Turn.of_below HB1.out).trans ((HT2.out.mono (fun q _ hq => .inr (.inl hq))).trans ((Turn.of_grown HG3.out (fun q hq => by injection hq with hq; exact .inr (.inr (.inl hq)))).trans (Turn.of_grown hg4 (fun q hq => .inr (.inr (.inr hq))))))
      refine ⟨rfl, lv2, .slice (some ⟨g, 0, none⟩) 0 cap, o2, ⟨kl4.set_ 5 _, (((HD2.out.grown HG3.out (by simp; exact hdm)).grown hg4 (by simp; exact fun e => hgd e.symm)).far (by simp; exact fun e => hld e.symm) _), ?_, ?_, ?_⟩, fun q hq => Nat.le_trans hz1' (hol q hq).1, rfl, Turn.set (S := fun q => q = l ∨ q = d ∨ q = m ∨ some q = (Value.slice (some ⟨g, 0, none⟩) 1 cap).ownBlock) hT (p := ⟨l, 5, none⟩) (.inl (.inl rfl)) _⟩
      · refine (HO2.out.keep (fun q hq => ?_)).low (Nat.le_trans hL hz1')
        have h9 := hol q hq
        exact (Below.heap_setCell _ _ _ _ (by simp; omega)).trans ((hg4.block q (by omega) (by simp; omega)).trans (HG3.out.block q h9.2 (by simp; omega)))
      · exact row_keep ho4 (fun q hq => by cases hq; exact Below.heap_setCell _ _ _ _ (by simp; exact hgl'))
      · exact (HM3.out.kept (hg4.block m HM3.out.lt (by simp; exact fun e => hgm e.symm))).kept (Below.heap_setCell _ _ _ _ (by simp; exact fun e => hlm e.symm))
end Go.Proofs.YtnanlaefehaifaaGreat
