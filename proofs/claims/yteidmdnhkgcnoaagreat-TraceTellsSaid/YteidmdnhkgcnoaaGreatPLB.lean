/-
  WALK OF THE PROGRAM: model.step, the rule's function called with a capture.
-/
import Derived.Test.YteidmdnhkgcnoaaGreatPLA
import Derived.Test.YteidmdnhkgcnoaaGreatPA
import Derived.Test.YteidmdnhkgcnoaaGreatPC
import Derived.Test.YteidmdnhkgcnoaaGreatPG
import Derived.Deep.DeepCutAuto
import Derived.Deep.RegionHeld3
import Derived.Deep.DrawnRows
namespace Go.Proofs.YteidmdnhkgcnoaaGreat
open Go.RowKit
attribute [local go_sem ↓] Go.wp_at_zero Go.wp_at_succ


set_option maxHeartbeats 12800000 in
set_option maxRecDepth 100000 in
theorem stepB (f : Nat) (pk : Nat → Nat → Nat) (x : OpD) (A2 : Option Addr) (n2 c2 : Nat) (v : Value) (ys : List PairV) (base B : Nat) (w : World) (_hB : B ≤ w.heap.size) (hbase : base ≤ w.heap.size) (hn : ys.length ≤ 10000) (hst : StS w base v ys) (hd : BytesAt w B (.slice A2 n2 c2) x.data) (hR : RightS (ys.map PairV.d)) (hk : x.key.size ≤ 9223372036854775807) (hgood : goodOp x = true)
    (hent : ∀ args W, (callFunc f args).run Tryz.prog W = .ok (.enter f args) W)
    (hidx : ∀ g1 g2 W, (Instr.index 127 (.agg #[.func (.func 103) #[] #[], .func (.func 104) #[] #[], .func (.func 105) #[] #[], .func (.func 106) #[] #[], .func (.func 118) #[] #[.pointer (some ⟨g1, 0, none⟩)], .func (.func 118) #[] #[.pointer (some ⟨g2, 0, none⟩)]]) (.int .i64 x.act)).run Tryz.prog W = .ok (.agg #[.func (.func f) #[] #[.pointer (some ⟨pk g1 g2, 0, none⟩)]]) W)
    (hrule : ∀ A1 n1 c1 k0 lo0 hi0 va0 hb0 tb0, PureOk (hasD (ys.map PairV.d) x.key) A1 n1 c1 k0 lo0 hi0 va0 hb0 tb0 → ∀ (g1 g2 : Nat) (W : World), Below w.heap.size w W → CC W g1 g2 → OwnB W base (.slice A1 n1 c1) tb0 → Calls Tryz.prog f #[.agg #[.int .i64 k0, .slice A1 n1 c1, .int .i64 lo0, .int .i64 hi0, .int .i64 va0, .bool hb0], .agg #[.int .i64 x.act, .string x.key, .slice A2 n2 c2, .int .i64 x.lo, .int .i64 x.hi, .int .i64 x.n], .pointer (some ⟨pk g1 g2, 0, none⟩)] W (RulePU W base (ruleD (hasD (ys.map PairV.d) x.key) x))) :
    Calls Tryz.prog 64 #[v, .agg #[.int .i64 x.act, .string x.key, .slice A2 n2 c2, .int .i64 x.lo, .int .i64 x.hi, .int .i64 x.n]] w (StepP w base v ys x) := by
  have hn2 : n2 = x.data.length := by
    obtain ⟨A', n', c', e, _, _, hl, _⟩ := hd
    injection e with _ e _
    rw [e]; exact hl
  have hfld := field_rule (.func f)
  have HCHK := hide (fun W => opE_good hgood ▸ modelCheck_any x A2 n2 c2 W hn2 hk)
  have HSR := hide (stepD_rule (s := ys.map PairV.d) hgood)
  obtain ⟨A, cp, rfl, hcp, hcm, hPairs⟩ := hst.form
  have hpl := fun (W : World) (hP : Pairs W W.heap.size A ys.length ys) => mplace_any A ys.length cp x.key ys W.heap.size W (Nat.le_refl _) (by omega) hP hR
  have hple := pos_le (ys.map PairV.d) x.key
  rw [List.length_map] at hple
  have HR := hide hR
  have HRULE := hide hrule
  have HST := hide hst
  clear hn2 hPairs hd hR hrule hst
  obtain ⟨p, hpp⟩ : ∃ p, pos (ys.map PairV.d) x.key = p := ⟨_, rfl⟩
  obtain ⟨hb, hbb⟩ : ∃ hb, (hasD (ys.map PairV.d) x.key).isSome = hb := ⟨_, rfl⟩
  have HPP := hide hpp
  have HBB := hide hbb
  rw [hpp] at hple hpl
  rw [hbb] at hpl
  have HPL := hide hpl
  clear hpl hpp hbb
  go_enter Tryz.func64, Tryz.ntmps64
  go_wp2_with fail
  refine gen2 (R := fun W => Calls Tryz.prog 82 _ W _) ?_
  intro W k0 k1 hb0' hz
  (with_reducible refine (HCHK.out _).mono ?_)
  rintro e w1 ⟨rfl, hb1⟩
  have hb01 := below_via hb0' hb1 (by omega)
  have st1 := HST.out.via hb01
  have q0 := (Blk.via hb1 k0).cell
  go_wp2_with fail
  obtain ⟨A', cp', e', _, _, hP1⟩ := st1.form
  obtain ⟨rfl, _, rfl⟩ : A' = A ∧ ys.length = ys.length ∧ cp' = cp := by injection e' with e1 e2 e3; exact ⟨e1.symm, e2, e3.symm⟩
  (with_reducible refine (HPL.out _ hP1).mono ?_)
  rintro e w2 ⟨rfl, hb2⟩
  have hb02 := below_via hb01 hb2 hb01.size
  have k0' := Blk.via hb2 (Blk.via hb1 k0)
  have k1' := Blk.via hb2 (Blk.via hb1 k1)
  have st2 := st1.via hb2
  have h9 : w.heap.size + 2 ≤ w2.heap.size := by have := k1'.lt; omega
  clear q0 hb1 hb2 st1 hP1 e' k0 k1 hb01 hb0' hz HCHK HPL
  go_upto_if 26 with fail
  refine gen1 (fun W3 k9 hb3 hz3 => ?_)
  have jS0 : RSt w base (.slice A' ys.length cp') ys #[.int .i64 x.act, .string x.key, .slice A2 n2 c2, .int .i64 x.lo, .int .i64 x.hi, .int .i64 x.n] #[.int .i64 0, .slice none 0 0, .int .i64 0, .int .i64 0, .int .i64 0, .bool false] w2.heap.size W3 := ⟨Blk.via hb3 k0', Blk.via hb3 k1', k9, st2.via hb3, below_via hb02 hb3 hb02.size, h9⟩
  clear k9 hb3 k0' k1' st2 hb02 hz3
  go_cut [] (fun wx => NowO w base (.slice A' ys.length cp') ys #[.int .i64 x.act, .string x.key, .slice A2 n2 c2, .int .i64 x.lo, .int .i64 x.hi, .int .i64 x.n] w2.heap.size (hasD (ys.map PairV.d) x.key) wx)
  case first =>
    cases ht : hasD (ys.map PairV.d) x.key with
    | none =>
      obtain rfl : hb = false := by rw [← HBB.out, ht]; rfl
      have HT := hide ht
      clear ht
      go_wp2
      go_meet
      rw [HT.out]
      exact ⟨none, 0, 0, 0, 0, 0, 0, false, [], ⟨rfl, rfl, rfl, rfl, rfl, rfl, rfl, rfl, rfl⟩, OwnB.nil _ _, jS0⟩
    | some c =>
      obtain rfl : hb = true := by rw [← HBB.out, ht]; rfl
      obtain ⟨y, hy, hyk, hyc⟩ := hasD_some ht
      rw [HPP.out, List.getElem?_map] at hy
      obtain ⟨z, hz, rfl⟩ := Option.map_eq_some_iff.1 hy
      have hzl := (List.getElem?_eq_some_iff.1 hz).1
      obtain ⟨A4, cp4, e4, _, _, hP3⟩ := jS0.st.form
      obtain ⟨rfl, _, rfl⟩ : A4 = A' ∧ ys.length = ys.length ∧ cp4 = cp' := by injection e4 with e1 e2 e3; exact ⟨e1.symm, e2, e3.symm⟩
      obtain ⟨b, o, z', rfl, hbz, hz', _, _⟩ := hP3.at_ hzl
      obtain rfl : z = z' := by rw [hz] at hz'; injection hz'
      obtain ⟨d0, d1, d2, d3, d4, d5⟩ := hP3.row hz
      have hoz := jS0.st.ok z (List.mem_of_getElem? hz)
      have hbW : b < W3.heap.size := hbz
      have k9 := jS0.k9
      have q9 := k9.cell
      have q8 := k9.frozen
      obtain ⟨⟨ky, cd⟩, cv⟩ := z
      dsimp only at *
      subst hyc
      obtain ⟨A1, n1, c1, rfl⟩ := hoz.form
      have s4 : (p : Int) < ys.length := by omega
      have h9W := jS0.lt'
      have HT := hide ht
      clear ht hy hz hz' hyk d0 e4
      go_wp2
      go_meet
      rw [HT.out]
      obtain ⟨jN, hON⟩ := RSt.now (a0 := .int .i64 cd.kind) (a1 := .slice A1 n1 c1) (a2 := .int .i64 cd.lo) (a3 := .int .i64 cd.hi) (a4 := .int .i64 cd.val) (a5 := .bool true) jS0
      exact ⟨A1, n1, c1, cd.kind, cd.lo, cd.hi, cd.val, true, cd.data, ⟨rfl, rfl, rfl, rfl, rfl, rfl⟩, hON _ _ hoz, jN⟩
  case rest =>
    obtain ⟨A1, n1, c1, k0, lo0, hi0, va0, hb0, tb0, hpure, how, jS⟩ := hcut
    rename World => wn
    have HPURE := hide hpure
    have HRU := hide (HRULE.out A1 n1 c1 k0 lo0 hi0 va0 hb0 tb0 hpure)
    clear hpure jS0
    generalize hrd : ruleD (hasD (ys.map PairV.d) x.key) x = r at *
    have HRD := hide hrd
    clear hrd
    obtain ⟨r1, er, rc⟩ := r
    go_wp2_with fail
    go_cut [10, 11] (fun s10 s11 wx => RO w base (.slice A' ys.length cp') ys #[.int .i64 x.act, .string x.key, .slice A2 n2 c2, .int .i64 x.lo, .int .i64 x.hi, .int .i64 x.n] #[.int .i64 k0, .slice A1 n1 c1, .int .i64 lo0, .int .i64 hi0, .int .i64 va0, .bool hb0] w2.heap.size r1 er rc s10 s11 wx)
    case first =>
      have jS0 := jS.drew
      have jO : OwnB wn.drew base (.slice A1 n1 c1) tb0 := how.via (Below.refl _ _).drew
      go_region_held3 (fun w' => (w'.cell? ⟨w.heap.size, 0, none⟩ = some (.int .i64 x.act) ∧ w'.cell? ⟨w.heap.size, 1, none⟩ = some (.string x.key) ∧ w'.cell? ⟨w.heap.size, 2, none⟩ = some (.slice A2 n2 c2) ∧ w'.cell? ⟨w.heap.size, 3, none⟩ = some (.int .i64 x.lo) ∧ w'.cell? ⟨w.heap.size, 4, none⟩ = some (.int .i64 x.hi) ∧ w'.cell? ⟨w.heap.size, 5, none⟩ = some (.int .i64 x.n)) ∧ (w'.cell? ⟨w2.heap.size, 0, none⟩ = some (.int .i64 k0) ∧ w'.cell? ⟨w2.heap.size, 1, none⟩ = some (.slice A1 n1 c1) ∧ w'.cell? ⟨w2.heap.size, 2, none⟩ = some (.int .i64 lo0) ∧ w'.cell? ⟨w2.heap.size, 3, none⟩ = some (.int .i64 hi0) ∧ w'.cell? ⟨w2.heap.size, 4, none⟩ = some (.int .i64 va0) ∧ w'.cell? ⟨w2.heap.size, 5, none⟩ = some (.bool hb0)))
        (((with_reducible refine RSt.loads (base := base) (v := .slice A' ys.length cp') (ys := ys) ?_); (first | with_reducible assumption | (with_reducible apply RSt.alloc; first | with_reducible assumption | (with_reducible apply RSt.alloc; with_reducible assumption) | ((with_reducible apply RSt.sixT (z0 := .int .i64 0) (z1 := .slice none 0 0) (z2 := .int .i64 0) (z3 := .int .i64 0) (z4 := .int .i64 0) (z5 := .bool false)) <;> first | with_reducible assumption | ((with_reducible refine RSt.lt' (w := w) (base := base) (v := .slice A' ys.length cp') (ys := ys) (O := #[.int .i64 x.act, .string x.key, .slice A2 n2 c2, .int .i64 x.lo, .int .i64 x.hi, .int .i64 x.n]) (N := #[.int .i64 k0, .slice A1 n1 c1, .int .i64 lo0, .int .i64 hi0, .int .i64 va0, .bool hb0]) ?_); with_reducible assumption) | ((with_reducible refine RSt.lt2 (w := w) (base := base) (v := .slice A' ys.length cp') (ys := ys) (O := #[.int .i64 x.act, .string x.key, .slice A2 n2 c2, .int .i64 x.lo, .int .i64 x.hi, .int .i64 x.n]) (N := #[.int .i64 k0, .slice A1 n1 c1, .int .i64 lo0, .int .i64 hi0, .int .i64 va0, .bool hb0]) ?_); with_reducible assumption)) | ((with_reducible apply RSt.sixA (z0 := .int .i64 0) (z1 := .int .i64 0) (z2 := .slice none 0 0) (z3 := .int .i64 0) (z4 := .int .i64 0) (z5 := .int .i64 0)) <;> first | with_reducible assumption | ((with_reducible refine RSt.lt' (w := w) (base := base) (v := .slice A' ys.length cp') (ys := ys) (O := #[.int .i64 x.act, .string x.key, .slice A2 n2 c2, .int .i64 x.lo, .int .i64 x.hi, .int .i64 x.n]) (N := #[.int .i64 k0, .slice A1 n1 c1, .int .i64 lo0, .int .i64 hi0, .int .i64 va0, .bool hb0]) ?_); with_reducible assumption) | ((with_reducible refine RSt.lt2 (w := w) (base := base) (v := .slice A' ys.length cp') (ys := ys) (O := #[.int .i64 x.act, .string x.key, .slice A2 n2 c2, .int .i64 x.lo, .int .i64 x.hi, .int .i64 x.n]) (N := #[.int .i64 k0, .slice A1 n1 c1, .int .i64 lo0, .int .i64 hi0, .int .i64 va0, .bool hb0]) ?_); with_reducible assumption))) | (with_reducible apply RSt.drew; first | with_reducible assumption | (with_reducible apply RSt.alloc; first | with_reducible assumption | (with_reducible apply RSt.alloc; with_reducible assumption))) | ((with_reducible apply RSt.six2 (z0 := .int .i64 0) (z1 := .slice none 0 0) (z2 := .int .i64 0) (z3 := .int .i64 0) (z4 := .int .i64 0) (z5 := .bool false) (y0 := .int .i64 0) (y1 := .int .i64 0) (y2 := .slice none 0 0) (y3 := .int .i64 0) (y4 := .int .i64 0) (y5 := .int .i64 0)) <;> first | with_reducible assumption | ((with_reducible refine RSt.lt' (w := w) (base := base) (v := .slice A' ys.length cp') (ys := ys) (O := #[.int .i64 x.act, .string x.key, .slice A2 n2 c2, .int .i64 x.lo, .int .i64 x.hi, .int .i64 x.n]) (N := #[.int .i64 k0, .slice A1 n1 c1, .int .i64 lo0, .int .i64 hi0, .int .i64 va0, .bool hb0]) ?_); with_reducible assumption) | ((with_reducible refine RSt.lt2 (w := w) (base := base) (v := .slice A' ys.length cp') (ys := ys) (O := #[.int .i64 x.act, .string x.key, .slice A2 n2 c2, .int .i64 x.lo, .int .i64 x.hi, .int .i64 x.n]) (N := #[.int .i64 k0, .slice A1 n1 c1, .int .i64 lo0, .int .i64 hi0, .int .i64 va0, .bool hb0]) ?_); with_reducible assumption)) | ((with_reducible apply RSt.sixT (z0 := .int .i64 0) (z1 := .slice none 0 0) (z2 := .int .i64 0) (z3 := .int .i64 0) (z4 := .int .i64 0) (z5 := .bool false)) <;> first | with_reducible assumption | ((with_reducible refine RSt.lt' (w := w) (base := base) (v := .slice A' ys.length cp') (ys := ys) (O := #[.int .i64 x.act, .string x.key, .slice A2 n2 c2, .int .i64 x.lo, .int .i64 x.hi, .int .i64 x.n]) (N := #[.int .i64 k0, .slice A1 n1 c1, .int .i64 lo0, .int .i64 hi0, .int .i64 va0, .bool hb0]) ?_); with_reducible assumption) | ((with_reducible refine RSt.lt2 (w := w) (base := base) (v := .slice A' ys.length cp') (ys := ys) (O := #[.int .i64 x.act, .string x.key, .slice A2 n2 c2, .int .i64 x.lo, .int .i64 x.hi, .int .i64 x.n]) (N := #[.int .i64 k0, .slice A1 n1 c1, .int .i64 lo0, .int .i64 hi0, .int .i64 va0, .bool hb0]) ?_); with_reducible assumption)) | ((with_reducible apply RSt.sixA (z0 := .int .i64 0) (z1 := .int .i64 0) (z2 := .slice none 0 0) (z3 := .int .i64 0) (z4 := .int .i64 0) (z5 := .int .i64 0)) <;> first | with_reducible assumption | ((with_reducible refine RSt.lt' (w := w) (base := base) (v := .slice A' ys.length cp') (ys := ys) (O := #[.int .i64 x.act, .string x.key, .slice A2 n2 c2, .int .i64 x.lo, .int .i64 x.hi, .int .i64 x.n]) (N := #[.int .i64 k0, .slice A1 n1 c1, .int .i64 lo0, .int .i64 hi0, .int .i64 va0, .bool hb0]) ?_); with_reducible assumption) | ((with_reducible refine RSt.lt2 (w := w) (base := base) (v := .slice A' ys.length cp') (ys := ys) (O := #[.int .i64 x.act, .string x.key, .slice A2 n2 c2, .int .i64 x.lo, .int .i64 x.hi, .int .i64 x.n]) (N := #[.int .i64 k0, .slice A1 n1 c1, .int .i64 lo0, .int .i64 hi0, .int .i64 va0, .bool hb0]) ?_); with_reducible assumption)))))
        (first | (go_at_call 84; refine (rules_any _).mono ?_; rintro e wR ⟨g1, g2, rfl, hg1, hc1, hg2, hc2, hbx⟩; have jC : CC wR g1 g2 := ⟨hg1, hc1, hg2, hc2⟩; clear hg1 hc1 hg2 hc2; (have jS' : RSt w base (.slice A' ys.length cp') ys #[.int .i64 x.act, .string x.key, .slice A2 n2 c2, .int .i64 x.lo, .int .i64 x.hi, .int .i64 x.n] #[.int .i64 k0, .slice A1 n1 c1, .int .i64 lo0, .int .i64 hi0, .int .i64 va0, .bool hb0] w2.heap.size wR := (by refine RSt.via ?_ hbx; first | with_reducible assumption | (with_reducible apply RSt.alloc; first | with_reducible assumption | (with_reducible apply RSt.alloc; with_reducible assumption)) | (with_reducible apply RSt.drew; first | with_reducible assumption | (with_reducible apply RSt.alloc; first | with_reducible assumption | (with_reducible apply RSt.alloc; with_reducible assumption))))); (try (have jT' := Blk.via (t := 122) hbx (by first | with_reducible exact Blk.new _ _ _ | (with_reducible apply Blk.alloc; first | with_reducible exact Blk.new _ _ _ | with_reducible assumption) | with_reducible assumption | (with_reducible apply Blk.drew; first | with_reducible exact Blk.new _ _ _ | (with_reducible apply Blk.alloc; with_reducible exact Blk.new _ _ _))); (try simp only [World.size_alloc] at jT'); obtain ⟨jTa, jTb, jTc, jTd, jTe, jTf⟩ := SixP.of jT'; have jT1 := jT'.frozen; have jT2 := jT'.lt)); (try (have jA' := Blk.via (t := 36) hbx (by first | with_reducible exact Blk.new _ _ _ | (with_reducible apply Blk.alloc; first | with_reducible exact Blk.new _ _ _ | with_reducible assumption) | with_reducible assumption | (with_reducible apply Blk.drew; first | with_reducible exact Blk.new _ _ _ | (with_reducible apply Blk.alloc; with_reducible exact Blk.new _ _ _))); (try simp only [World.size_alloc] at jA'); obtain ⟨jAa, jAb, jAc, jAd, jAe, jAf⟩ := SixP.of jA'; have jA1 := jA'.frozen; have jA2 := jA'.lt)); have jO' := OwnB.via (v := .slice A1 n1 c1) (by first | with_reducible assumption | (with_reducible apply OwnB.alloc; first | with_reducible assumption | (with_reducible apply OwnB.alloc; with_reducible assumption)) | (with_reducible apply OwnB.drew; first | with_reducible assumption | (with_reducible apply OwnB.alloc; first | with_reducible assumption | (with_reducible apply OwnB.alloc; with_reducible assumption)))) hbx) | (go_at_fn f; refine (HRU.out g1 g2 _ ?_ ?_ ?_).mono ?_; ((with_reducible refine RSt.b (w := w) (base := base) (v := .slice A' ys.length cp') (ys := ys) (O := #[.int .i64 x.act, .string x.key, .slice A2 n2 c2, .int .i64 x.lo, .int .i64 x.hi, .int .i64 x.n]) (N := #[.int .i64 k0, .slice A1 n1 c1, .int .i64 lo0, .int .i64 hi0, .int .i64 va0, .bool hb0]) (g9 := w2.heap.size) ?_); first | with_reducible assumption | (with_reducible apply RSt.alloc; first | with_reducible assumption | (with_reducible apply RSt.alloc; with_reducible assumption)) | (with_reducible apply RSt.drew; first | with_reducible assumption | (with_reducible apply RSt.alloc; first | with_reducible assumption | (with_reducible apply RSt.alloc; with_reducible assumption)))); (first | with_reducible assumption | (with_reducible apply CC.alloc; first | with_reducible assumption | (with_reducible apply CC.alloc; with_reducible assumption))); (first | with_reducible assumption | (with_reducible apply OwnB.alloc; first | with_reducible assumption | (with_reducible apply OwnB.alloc; with_reducible assumption)) | (with_reducible apply OwnB.drew; first | with_reducible assumption | (with_reducible apply OwnB.alloc; first | with_reducible assumption | (with_reducible apply OwnB.alloc; with_reducible assumption)))); rintro e wq ⟨At, nt, ct, kt, lot, hit, vat, hbt, tbt, Aa, na, ca, rfl, hpu, hot, hoa, hbx⟩; (have jS' : RSt w base (.slice A' ys.length cp') ys #[.int .i64 x.act, .string x.key, .slice A2 n2 c2, .int .i64 x.lo, .int .i64 x.hi, .int .i64 x.n] #[.int .i64 k0, .slice A1 n1 c1, .int .i64 lo0, .int .i64 hi0, .int .i64 va0, .bool hb0] w2.heap.size wq := (by refine RSt.via ?_ hbx; first | with_reducible assumption | (with_reducible apply RSt.alloc; first | with_reducible assumption | (with_reducible apply RSt.alloc; with_reducible assumption)) | (with_reducible apply RSt.drew; first | with_reducible assumption | (with_reducible apply RSt.alloc; first | with_reducible assumption | (with_reducible apply RSt.alloc; with_reducible assumption))))); (try (have jT' := Blk.via (t := 122) hbx (by first | with_reducible exact Blk.new _ _ _ | (with_reducible apply Blk.alloc; first | with_reducible exact Blk.new _ _ _ | with_reducible assumption) | with_reducible assumption | (with_reducible apply Blk.drew; first | with_reducible exact Blk.new _ _ _ | (with_reducible apply Blk.alloc; with_reducible exact Blk.new _ _ _))); (try simp only [World.size_alloc] at jT'); obtain ⟨jTa, jTb, jTc, jTd, jTe, jTf⟩ := SixP.of jT'; have jT1 := jT'.frozen; have jT2 := jT'.lt)); (try (have jA' := Blk.via (t := 36) hbx (by first | with_reducible exact Blk.new _ _ _ | (with_reducible apply Blk.alloc; first | with_reducible exact Blk.new _ _ _ | with_reducible assumption) | with_reducible assumption | (with_reducible apply Blk.drew; first | with_reducible exact Blk.new _ _ _ | (with_reducible apply Blk.alloc; with_reducible exact Blk.new _ _ _))); (try simp only [World.size_alloc] at jA'); obtain ⟨jAa, jAb, jAc, jAd, jAe, jAf⟩ := SixP.of jA'; have jA1 := jA'.frozen; have jA2 := jA'.lt))))
      all_goals go_wp2_with fail
      all_goals go_meet
      all_goals
        refine ⟨At, nt, ct, kt, lot, hit, vat, hbt, tbt, Aa, na, ca, hpu, ?_⟩
        first
          | (with_reducible apply RuleOut.f5) <;> first | with_reducible assumption | ((with_reducible refine RSt.lt' (w := w) (base := base) (v := .slice A' ys.length cp') (ys := ys) (O := #[.int .i64 x.act, .string x.key, .slice A2 n2 c2, .int .i64 x.lo, .int .i64 x.hi, .int .i64 x.n]) (N := #[.int .i64 k0, .slice A1 n1 c1, .int .i64 lo0, .int .i64 hi0, .int .i64 va0, .bool hb0]) ?_); with_reducible assumption) | ((with_reducible refine RSt.lt2 (w := w) (base := base) (v := .slice A' ys.length cp') (ys := ys) (O := #[.int .i64 x.act, .string x.key, .slice A2 n2 c2, .int .i64 x.lo, .int .i64 x.hi, .int .i64 x.n]) (N := #[.int .i64 k0, .slice A1 n1 c1, .int .i64 lo0, .int .i64 hi0, .int .i64 va0, .bool hb0]) ?_); with_reducible assumption)
          | (with_reducible apply RuleOut.f3) <;> first | with_reducible assumption | ((with_reducible refine RSt.lt' (w := w) (base := base) (v := .slice A' ys.length cp') (ys := ys) (O := #[.int .i64 x.act, .string x.key, .slice A2 n2 c2, .int .i64 x.lo, .int .i64 x.hi, .int .i64 x.n]) (N := #[.int .i64 k0, .slice A1 n1 c1, .int .i64 lo0, .int .i64 hi0, .int .i64 va0, .bool hb0]) ?_); with_reducible assumption) | ((with_reducible refine RSt.lt2 (w := w) (base := base) (v := .slice A' ys.length cp') (ys := ys) (O := #[.int .i64 x.act, .string x.key, .slice A2 n2 c2, .int .i64 x.lo, .int .i64 x.hi, .int .i64 x.n]) (N := #[.int .i64 k0, .slice A1 n1 c1, .int .i64 lo0, .int .i64 hi0, .int .i64 va0, .bool hb0]) ?_); with_reducible assumption)
          | (with_reducible apply RuleOut.f4) <;> first | with_reducible assumption | ((with_reducible refine RSt.lt' (w := w) (base := base) (v := .slice A' ys.length cp') (ys := ys) (O := #[.int .i64 x.act, .string x.key, .slice A2 n2 c2, .int .i64 x.lo, .int .i64 x.hi, .int .i64 x.n]) (N := #[.int .i64 k0, .slice A1 n1 c1, .int .i64 lo0, .int .i64 hi0, .int .i64 va0, .bool hb0]) ?_); with_reducible assumption) | ((with_reducible refine RSt.lt2 (w := w) (base := base) (v := .slice A' ys.length cp') (ys := ys) (O := #[.int .i64 x.act, .string x.key, .slice A2 n2 c2, .int .i64 x.lo, .int .i64 x.hi, .int .i64 x.n]) (N := #[.int .i64 k0, .slice A1 n1 c1, .int .i64 lo0, .int .i64 hi0, .int .i64 va0, .bool hb0]) ?_); with_reducible assumption)
          | (with_reducible apply RuleOut.f1) <;> first | with_reducible assumption | ((with_reducible refine RSt.lt' (w := w) (base := base) (v := .slice A' ys.length cp') (ys := ys) (O := #[.int .i64 x.act, .string x.key, .slice A2 n2 c2, .int .i64 x.lo, .int .i64 x.hi, .int .i64 x.n]) (N := #[.int .i64 k0, .slice A1 n1 c1, .int .i64 lo0, .int .i64 hi0, .int .i64 va0, .bool hb0]) ?_); with_reducible assumption) | ((with_reducible refine RSt.lt2 (w := w) (base := base) (v := .slice A' ys.length cp') (ys := ys) (O := #[.int .i64 x.act, .string x.key, .slice A2 n2 c2, .int .i64 x.lo, .int .i64 x.hi, .int .i64 x.n]) (N := #[.int .i64 k0, .slice A1 n1 c1, .int .i64 lo0, .int .i64 hi0, .int .i64 va0, .bool hb0]) ?_); with_reducible assumption)
          | (with_reducible apply RuleOut.f2) <;> first | with_reducible assumption | ((with_reducible refine RSt.lt' (w := w) (base := base) (v := .slice A' ys.length cp') (ys := ys) (O := #[.int .i64 x.act, .string x.key, .slice A2 n2 c2, .int .i64 x.lo, .int .i64 x.hi, .int .i64 x.n]) (N := #[.int .i64 k0, .slice A1 n1 c1, .int .i64 lo0, .int .i64 hi0, .int .i64 va0, .bool hb0]) ?_); with_reducible assumption) | ((with_reducible refine RSt.lt2 (w := w) (base := base) (v := .slice A' ys.length cp') (ys := ys) (O := #[.int .i64 x.act, .string x.key, .slice A2 n2 c2, .int .i64 x.lo, .int .i64 x.hi, .int .i64 x.n]) (N := #[.int .i64 k0, .slice A1 n1 c1, .int .i64 lo0, .int .i64 hi0, .int .i64 va0, .bool hb0]) ?_); with_reducible assumption)
    case rest =>
      obtain ⟨At, nt, ct, kt, lot, hit, vat, hbt, tbt, Aa, na, ca, hpu, g10, g11, rfl, rfl, hg10, hg11, kT, kA, hoT, hoA, jS2⟩ := hcut
      rename World => wx
      have HPU := hide hpu
      clear hpu jS how HRU HRULE
      have qT := kT.cell
      have qA := kA.cell
      have q1 := jS2.k1.cell
      have q2 := jS2.k1.frozen
      have q3 := jS2.k0.cell
      have h9x := jS2.h9
      cases her : (er != 0)
      · have her0 : er = 0 := by simpa using her
        subst her0
        clear her
        have hs0 : stepD (ys.map PairV.d) x = (putD (ys.map PairV.d) x.key r1, 0, rc) := by rw [HSR.out]; exact if_pos rfl
        cases hbt
        · obtain rfl : r1 = none := by
            cases r1 with
            | none => rfl
            | some cc => exact absurd HPU.out.2.2.2.2.1 (fun h => by cases h)
          cases hb
          · have htn : hasD (ys.map PairV.d) x.key = none := by
              cases h : hasD (ys.map PairV.d) x.key with
              | none => rfl
              | some c => have := HBB.out; rw [h] at this; cases this
            rw [putD_no htn] at hs0
            have HS := hide hs0
            clear hs0 htn
            go_wp2
            go_region
            all_goals
              go_wp2
              refine bodyPost_ret (v := .tuple #[.slice A' ys.length cp', .agg #[.int .i64 0, .int .i64 rc.kind, .slice Aa na ca, .int .i64 rc.lo, .int .i64 rc.hi, .int .i64 rc.val]]) (by simp [results, Tryz.results64, go_sem, q1]) rfl ?_
              exact stepP_of (ys' := ys) HS.out jS2.st rfl hoA (grown_below jS2.b _) (.inl rfl) jS2.k1 (by omega) (by (repeat first | (with_reducible refine Touch.oneP ?_ _) | (with_reducible refine Touch.drew ?_)); exact Touch.refl _)
          · obtain ⟨c0, htn⟩ : ∃ c, hasD (ys.map PairV.d) x.key = some c := by
              cases h : hasD (ys.map PairV.d) x.key with
              | none => have := HBB.out; rw [h] at this; cases this
              | some c => exact ⟨c, rfl⟩
            have hpl : p < ys.length := by
              obtain ⟨y, hy, _⟩ := hasD_some htn
              rw [HPP.out] at hy
              simpa using (List.getElem?_eq_some_iff.1 hy).1
            have HDL := hide (delete_any (.slice A' ys.length cp') ys.length p (ys.flatMap PairV.cells) base wx (by omega) hpl jS2.st.own (cells_one jS2.st))
            have hdd := putD_del htn
            rw [HPP.out] at hdd
            have HS := hide hs0
            have HDD := hide hdd
            clear hs0 htn hdd
            go_wp2_with fail
            (with_reducible refine HDL.out.mono ?_)
            rintro e w4 ⟨v', rfl, hown4, hgr4, hat4⟩
            have st4 := jS2.st.del hpl hown4 hgr4
            have k14 := jS2.k1.grown hgr4 (own_ne jS2.st.own jS2.k1 (by decide))
            have kA4 := kA.grown hgr4 (own_ne jS2.st.own kA (by decide))
            have hoA4 := hoA.grown hgr4 jS2.st.own
            clear qT qA q1 q2 q3
            have qA := kA4.cell
            have q1 := k14.cell
            have q2 := k14.frozen
            go_wp2
            go_region
            all_goals
              go_wp2
              refine bodyPost_ret (v := .tuple #[v', .agg #[.int .i64 0, .int .i64 rc.kind, .slice Aa na ca, .int .i64 rc.lo, .int .i64 rc.hi, .int .i64 rc.val]]) (by simp [results, Tryz.results64, go_sem, q1]) rfl ?_
              exact stepP_of HS.out st4 HDD.out hoA4 (grown_join jS2.b hgr4) (by rcases hat4 with h | h; exact .inl h; exact .inr ⟨_, h, jS2.b.size⟩) k14 (by omega) (by (repeat first | (with_reducible refine Touch.oneP ?_ _) | (with_reducible refine Touch.drew ?_)); exact Touch.refl _)
        · obtain ⟨cc, rfl⟩ : ∃ cc, r1 = some cc := by
            cases r1 with
            | none => exact absurd HPU.out.2.2.2.2.2.2.2.1 (fun h => by cases h)
            | some cc => exact ⟨cc, rfl⟩
          obtain ⟨rfl, rfl, rfl, rfl, _, rfl⟩ := HPU.out
          cases hb
          · have htn : hasD (ys.map PairV.d) x.key = none := by
              cases h : hasD (ys.map PairV.d) x.key with
              | none => rfl
              | some c => have := HBB.out; rw [h] at this; cases this
            have hdd := putD_ins (c := cc) (tv := .slice At nt ct) htn
            rw [HPP.out] at hdd
            have HS := hide hs0
            have HDD := hide hdd
            clear hs0 htn hdd
            have hnew : ∀ W, Blk W wx.heap.size 55 (PairV.cells ⟨⟨x.key, cc⟩, .slice At nt ct⟩).toArray → Below wx.heap.size wx W → Calls Tryz.prog 85 #[.slice A' ys.length cp', .int .i64 (p : Nat), .slice (some ⟨wx.heap.size, 0, none⟩) 1 1] W (RowPost W base (.slice A' ys.length cp') (ys.length + 1) ((ys.flatMap PairV.cells).take (p * 6) ++ (PairV.cells ⟨⟨x.key, cc⟩, .slice At nt ct⟩) ++ (ys.flatMap PairV.cells).drop (p * 6))) := fun W kn hbn =>
              insert_any (.slice A' ys.length cp') ys.length p (ys.flatMap PairV.cells) _ wx.heap.size base W (by omega) hple (by have := jS2.b.size; have := hbn.size; omega) (jS2.st.via hbn).own (cells_one jS2.st) kn rfl (PairOk.one (w := wx) (B := wx.heap.size) (x := ⟨⟨x.key, cc⟩, .slice At nt ct⟩) hoT.bytes) (fun e => by have := (World.ownsRow.lt jS2.st.own _ e).2; omega)
            have HIN := hide hnew
            clear hnew
            have hg0x := jS2.k0.lt
            have hg1x := kT.lt
            go_wp2_with fail
            refine gen1 (R := fun W => Calls Tryz.prog 85 _ W _) ?_
            intro W4 kn hbn hzn
            have kn' : Blk W4 wx.heap.size 55 (PairV.cells ⟨⟨x.key, cc⟩, .slice At nt ct⟩).toArray := kn
            (with_reducible refine (HIN.out W4 kn' hbn).mono ?_)
            rintro e w4 ⟨v', rfl, hown4, hgr4, hat4⟩
            have jS4 := jS2.via hbn
            have st4 := jS4.st.ins hple hown4 hgr4 (y := ⟨⟨x.key, cc⟩, .slice At nt ct⟩) (hoT.via hbn)
            have k14 := jS4.k1.grown hgr4 (own_ne jS4.st.own jS4.k1 (by decide))
            have kA4 := (Blk.via hbn kA).grown hgr4 (own_ne jS4.st.own (Blk.via hbn kA) (by decide))
            have hoA4 := (hoA.via hbn).grown hgr4 jS4.st.own
            clear qT qA q1 q2 q3 kn kn'
            have qA := kA4.cell
            have q1 := k14.cell
            have q2 := k14.frozen
            go_wp2
            go_region
            all_goals
              go_wp2
              refine bodyPost_ret (v := .tuple #[v', .agg #[.int .i64 0, .int .i64 rc.kind, .slice Aa na ca, .int .i64 rc.lo, .int .i64 rc.hi, .int .i64 rc.val]]) (by simp [results, Tryz.results64, go_sem, q1]) rfl ?_
              exact stepP_of HS.out st4 HDD.out hoA4 (grown_join jS4.b hgr4) (by rcases hat4 with h | h; exact .inl h; exact .inr ⟨_, h, jS4.b.size⟩) k14 (by omega) (by (repeat first | (with_reducible refine Touch.oneP ?_ _) | (with_reducible refine Touch.drew ?_)); exact Touch.refl _)
          · obtain ⟨c0, htn⟩ : ∃ c, hasD (ys.map PairV.d) x.key = some c := by
              cases h : hasD (ys.map PairV.d) x.key with
              | none => have := HBB.out; rw [h] at this; cases this
              | some c => exact ⟨c, rfl⟩
            obtain ⟨y0, hy0, hyk0, _⟩ := hasD_some htn
            rw [List.getElem?_map] at hy0
            obtain ⟨y, hy, rfl⟩ := Option.map_eq_some_iff.1 hy0
            have hdd := putD_upd (c := cc) (tv := .slice At nt ct) hy hyk0
            rw [HPP.out] at hy hdd
            have hpl := (List.getElem?_eq_some_iff.1 hy).1
            have HS := hide hs0
            have HDD := hide hdd
            have HY := hide hy
            clear hs0 htn hdd hy hy0 hyk0
            obtain ⟨g, rfl, hrow⟩ : ∃ g, A' = some ⟨g, 0, none⟩ ∧ ∃ cur : Array Value, Blk wx g 55 cur ∧ ys.length * 6 ≤ cur.size := by
              obtain ⟨h1, ⟨e, h2⟩ | ⟨g', cap', cur, e, hbg, hh, hnc, hcm', hs, ht'⟩⟩ := jS2.st.own
              · omega
              · injection e with e1 e2 e3
                exact ⟨g', e1, cur, hh, by rw [hs]; omega⟩
            obtain ⟨cur, hkr, hcs⟩ := hrow
            have hgne1 : g ≠ w.heap.size + 1 := hkr.ne_ jS2.k1 (by decide)
            have hgne2 : g ≠ g11 := hkr.ne_ kA (by decide)
            have hgx := hkr.lt
            have r2 : ∀ j, j < 6 → ∃ u, wx.cell? ⟨g, p * 6 + j, none⟩ = some u := fun j hj => ⟨_, by rw [hkr.cell, Array.getElem?_eq_getElem (by omega)]⟩
            obtain ⟨u1, hu1⟩ := r2 1 (by omega)
            obtain ⟨u2, hu2⟩ := r2 2 (by omega)
            obtain ⟨u3, hu3⟩ := r2 3 (by omega)
            obtain ⟨u4, hu4⟩ := r2 4 (by omega)
            obtain ⟨u5, hu5⟩ := r2 5 (by omega)
            have r3 := hkr.frozen
            clear r2
            have s4 : (p : Int) < ys.length := by omega
            go_upto_region 17 with fail
            refine genP (p := p) (y := y) (c := cc) (tv := .slice At nt ct) jS2.st HY.out hoT (fun w4 st4 ht4 => ?_)
            have k14 : Blk w4 (w.heap.size + 1) _ _ := (ht4.block _ (by omega)).trans jS2.k1
            have kA4 : Blk w4 g11 _ _ := (ht4.block _ (by omega)).trans kA
            have hoA4 := hoA.apart ht4 hkr (by decide)
            clear qT qA q1 q2 q3 hu1 hu2 hu3 hu4 hu5 r3
            have qA := kA4.cell
            have q1 := k14.cell
            have q2 := k14.frozen
            go_wp2
            go_region
            all_goals
              go_wp2
              refine bodyPost_ret (v := .tuple #[.slice (some ⟨g, 0, none⟩) ys.length cp', .agg #[.int .i64 0, .int .i64 rc.kind, .slice Aa na ca, .int .i64 rc.lo, .int .i64 rc.hi, .int .i64 rc.val]]) (by simp [results, Tryz.results64, go_sem, q1]) rfl ?_
              exact stepP_of HS.out st4 HDD.out hoA4 (grown_join jS2.b (grown_of_touch ht4)) (.inl rfl) k14 (by omega) (by (repeat first | (with_reducible refine Touch.oneP ?_ _) | (with_reducible refine Touch.drew ?_)); exact Touch.refl _)
      · have hs : stepD (ys.map PairV.d) x = (ys.map PairV.d, er, rc) := by rw [HSR.out]; exact if_neg (by simpa using her)
        have HS := hide hs
        clear hs
        go_wp2
        go_region
        all_goals
          go_wp2
          refine bodyPost_ret (v := .tuple #[.slice A' ys.length cp', .agg #[.int .i64 er, .int .i64 rc.kind, .slice Aa na ca, .int .i64 rc.lo, .int .i64 rc.hi, .int .i64 rc.val]]) (by simp [results, Tryz.results64, go_sem, q1]) rfl ?_
          exact stepP_of (ys' := ys) HS.out jS2.st rfl hoA (grown_below jS2.b _) (.inl rfl) jS2.k1 (by omega) (by (repeat first | (with_reducible refine Touch.oneP ?_ _) | (with_reducible refine Touch.drew ?_)); exact Touch.refl _)
end Go.Proofs.YteidmdnhkgcnoaaGreat
