/-
  WALKS OF THE PROGRAM: the closure of model.move; model.move; model.rules.
-/
import Derived.Test.YteidmdnhkgcnoaaGreatPE
namespace Go.Proofs.YteidmdnhkgcnoaaGreat
open Go.RowKit BigFrame


set_option maxHeartbeats 800000 in
theorem mv_none (x : OpD) (A2 : Option Addr) (n2 c2 : Nat) (base g : Nat) (w : World) (r : Option CellD × Int × CellD) (hr : r = (none, 5, cell0)) : Calls Tryz.prog 118 #[.agg #[.int .i64 0, .slice none 0 0, .int .i64 0, .int .i64 0, .int .i64 0, .bool false], .agg #[.int .i64 x.act, .string x.key, .slice A2 n2 c2, .int .i64 x.lo, .int .i64 x.hi, .int .i64 x.n], .pointer (some ⟨g, 0, none⟩)] w (RulePost w base r) := by
  have HRD := hide hr
  clear hr
  go_enter Tryz.func118, Tryz.ntmps118
  go_upto_region 1 with fail
  refine gen4 (fun W k0 k1 k2 k3 hbW hz => ?_)
  have p0 := k0.cell
  have p1 := k1.cell
  have p2 := k2.cell
  have p3 := k3.cell
  have p4 := k2.frozen
  have p5 := k3.frozen
  go_wp2_with (go_at_call 116; refine (refuse_any _ _).mono ?_; rintro e w1 ⟨rfl, hb1⟩; have r2 := (Blk.via hb1 k2).cell; have r3 := (Blk.via hb1 k3).cell; have r4 := (Blk.via hb1 k2).frozen; have r5 := (Blk.via hb1 k3).frozen)
  refine bodyPost_ret (v := .tuple #[thing0, ans0 5]) (by simp [results, Tryz.results118, go_sem, r2, r3, thing0, ans0]) rfl ?_
  exact rule_err (g := w.heap.size + 1 + 1) HRD.out (below_via hbW hb1 (by omega)) (by (repeat first | (with_reducible refine Touch.two ?_ _) | (with_reducible refine Touch.three ?_ _) | (with_reducible refine Touch.drew ?_)); exact Touch.refl _) (by omega)
set_option maxHeartbeats 800000 in
theorem mv_kind (c : CellD) (A1 : Option Addr) (n1 c1 : Nat) (x : OpD) (A2 : Option Addr) (n2 c2 : Nat) (base g : Nat) (w : World) (r : Option CellD × Int × CellD) (hk : (c.kind != 2) = true) (hr : r = (none, 6, cell0)) : Calls Tryz.prog 118 #[.agg #[.int .i64 c.kind, .slice A1 n1 c1, .int .i64 c.lo, .int .i64 c.hi, .int .i64 c.val, .bool true], .agg #[.int .i64 x.act, .string x.key, .slice A2 n2 c2, .int .i64 x.lo, .int .i64 x.hi, .int .i64 x.n], .pointer (some ⟨g, 0, none⟩)] w (RulePost w base r) := by
  have HRD := hide hr
  clear hr
  go_enter Tryz.func118, Tryz.ntmps118
  go_upto_region 1 with fail
  refine gen4 (fun W k0 k1 k2 k3 hbW hz => ?_)
  have p0 := k0.cell
  have p1 := k1.cell
  have p2 := k2.cell
  have p3 := k3.cell
  have p4 := k2.frozen
  have p5 := k3.frozen
  go_wp2_with (go_at_call 116; refine (refuse_any _ _).mono ?_; rintro e w1 ⟨rfl, hb1⟩; have r2 := (Blk.via hb1 k2).cell; have r3 := (Blk.via hb1 k3).cell; have r4 := (Blk.via hb1 k2).frozen; have r5 := (Blk.via hb1 k3).frozen)
  refine bodyPost_ret (v := .tuple #[thing0, ans0 6]) (by simp [results, Tryz.results118, go_sem, r2, r3, thing0, ans0]) rfl ?_
  exact rule_err (g := w.heap.size + 1 + 1) HRD.out (below_via hbW hb1 (by omega)) (by (repeat first | (with_reducible refine Touch.two ?_ _) | (with_reducible refine Touch.three ?_ _) | (with_reducible refine Touch.drew ?_)); exact Touch.refl _) (by omega)

/-- The sum that the closure asks for, as its result is spelled. -/
theorem fitA_any (a b : Int) (y : Bool) (v : Int) (hv : fitV (a + b) = .tuple #[.int .i64 v, .bool y]) (a1 : inI a) (b1 : inI b) (w : World) : Calls Tryz.prog 108 #[.int .i64 a, .int .i64 b] w fun e w' => e = .returned (.tuple #[.int .i64 v, .bool y]) ∧ Below w.heap.size w w' := hv ▸ wAdd_any a b w a1.1 a1.2 b1.1 b1.2
set_option maxHeartbeats 1600000 in
theorem mvA_no (c : CellD) (A1 : Option Addr) (n1 c1 : Nat) (x : OpD) (A2 : Option Addr) (n2 c2 : Nat) (base g : Nat) (w : World) (r : Option CellD × Int × CellD) (hk : (c.kind != 2) = false) (hw : CellWf c) (hx : inI x.n) (hg : g < w.heap.size) (hc : w.cell? ⟨g, 0, none⟩ = some (.func (.func 108) #[] #[])) (hz : ¬ (-9223372036854775808 ≤ c.val + x.n ∧ c.val + x.n ≤ 9223372036854775807)) (hr : r = (none, 8, cell0)) : Calls Tryz.prog 118 #[.agg #[.int .i64 c.kind, .slice A1 n1 c1, .int .i64 c.lo, .int .i64 c.hi, .int .i64 c.val, .bool true], .agg #[.int .i64 x.act, .string x.key, .slice A2 n2 c2, .int .i64 x.lo, .int .i64 x.hi, .int .i64 x.n], .pointer (some ⟨g, 0, none⟩)] w (RulePost w base r) := by
  have HS := hide (fun W => fitA_any c.val x.n false 0 (by unfold fitV; rw [if_neg hz]) hw.2.2 hx W)
  have HRD := hide hr
  clear hr hz
  go_enter Tryz.func118, Tryz.ntmps118
  go_upto_region 1 with fail
  refine gen4 (fun W k0 k1 k2 k3 hbW hz => ?_)
  have p0 := k0.cell
  have p1 := k1.cell
  have p2 := k2.cell
  have p3 := k3.cell
  have p4 := k2.frozen
  have p5 := k3.frozen
  have pg : W.cell? ⟨g, 0, none⟩ = some (.func (.func 108) #[] #[]) := (hbW.cell (p := ⟨g, 0, none⟩) hg).trans hc
  go_wp2_with (go_at_call 108; (with_reducible refine (HS.out _).mono ?_); rintro e w0 ⟨rfl, hb0⟩; have hbz := hbW.size; replace k0 := Blk.via hb0 k0; replace k1 := Blk.via hb0 k1; replace k2 := Blk.via hb0 k2; replace k3 := Blk.via hb0 k3; replace hbW := below_via hbW hb0 hbz; replace hbz := hbW.size; replace hz := Nat.le_trans hz hb0.size; have s0 := k0.cell)
  clear pg p0 p1 p2 p3 p4 p5
  go_wp2_with (go_at_call 116; refine (refuse_any _ _).mono ?_; rintro e w1 ⟨rfl, hb1⟩; have r2 := (Blk.via hb1 k2).cell; have r3 := (Blk.via hb1 k3).cell; have r4 := (Blk.via hb1 k2).frozen; have r5 := (Blk.via hb1 k3).frozen)
  refine bodyPost_ret (v := .tuple #[thing0, ans0 8]) (by simp [results, Tryz.results118, go_sem, r2, r3, thing0, ans0]) rfl ?_
  exact rule_err (g := w.heap.size + 1 + 1) HRD.out (below_via hbW hb1 (by omega)) (by (repeat first | (with_reducible refine Touch.two ?_ _) | (with_reducible refine Touch.three ?_ _) | (with_reducible refine Touch.drew ?_)); exact Touch.refl _) (by omega)
set_option maxHeartbeats 1600000 in
theorem mvA_err (c : CellD) (A1 : Option Addr) (n1 c1 : Nat) (x : OpD) (A2 : Option Addr) (n2 c2 : Nat) (base g : Nat) (w : World) (r : Option CellD × Int × CellD) (hk : (c.kind != 2) = false) (hw : CellWf c) (hx : inI x.n) (hg : g < w.heap.size) (hc : w.cell? ⟨g, 0, none⟩ = some (.func (.func 108) #[] #[])) (hz : -9223372036854775808 ≤ c.val + x.n ∧ c.val + x.n ≤ 9223372036854775807) (hb : c.val + x.n < c.lo ∨ c.hi < c.val + x.n) (hr : r = (none, 8, cell0)) : Calls Tryz.prog 118 #[.agg #[.int .i64 c.kind, .slice A1 n1 c1, .int .i64 c.lo, .int .i64 c.hi, .int .i64 c.val, .bool true], .agg #[.int .i64 x.act, .string x.key, .slice A2 n2 c2, .int .i64 x.lo, .int .i64 x.hi, .int .i64 x.n], .pointer (some ⟨g, 0, none⟩)] w (RulePost w base r) := by
  have HS := hide (fun W => fitA_any c.val x.n true (c.val + x.n) (by unfold fitV; rw [if_pos hz]) hw.2.2 hx W)
  have HRD := hide hr
  clear hr hz
  generalize c.val + x.n = v at *
  by_cases h1 : v < c.lo
  · go_enter Tryz.func118, Tryz.ntmps118
    go_upto_region 1 with fail
    refine gen4 (fun W k0 k1 k2 k3 hbW hz => ?_)
    have p0 := k0.cell
    have p1 := k1.cell
    have p2 := k2.cell
    have p3 := k3.cell
    have p4 := k2.frozen
    have p5 := k3.frozen
    have pg : W.cell? ⟨g, 0, none⟩ = some (.func (.func 108) #[] #[]) := (hbW.cell (p := ⟨g, 0, none⟩) hg).trans hc
    go_wp2_with (go_at_call 108; (with_reducible refine (HS.out _).mono ?_); rintro e w0 ⟨rfl, hb0⟩; have hbz := hbW.size; replace k0 := Blk.via hb0 k0; replace k1 := Blk.via hb0 k1; replace k2 := Blk.via hb0 k2; replace k3 := Blk.via hb0 k3; replace hbW := below_via hbW hb0 hbz; replace hbz := hbW.size; replace hz := Nat.le_trans hz hb0.size; have s0 := k0.cell)
    clear pg p0 p1 p2 p3 p4 p5
    go_wp2_with (go_at_call 116; refine (refuse_any _ _).mono ?_; rintro e w1 ⟨rfl, hb1⟩; have r2 := (Blk.via hb1 k2).cell; have r3 := (Blk.via hb1 k3).cell; have r4 := (Blk.via hb1 k2).frozen; have r5 := (Blk.via hb1 k3).frozen)
    refine bodyPost_ret (v := .tuple #[thing0, ans0 8]) (by simp [results, Tryz.results118, go_sem, r2, r3, thing0, ans0]) rfl ?_
    exact rule_err (g := w.heap.size + 1 + 1) HRD.out (below_via hbW hb1 (by omega)) (by (repeat first | (with_reducible refine Touch.two ?_ _) | (with_reducible refine Touch.three ?_ _) | (with_reducible refine Touch.drew ?_)); exact Touch.refl _) (by omega)
  · have h2 : c.hi < v := by omega
    clear hb
    go_enter Tryz.func118, Tryz.ntmps118
    go_upto_region 1 with fail
    refine gen4 (fun W k0 k1 k2 k3 hbW hz => ?_)
    have p0 := k0.cell
    have p1 := k1.cell
    have p2 := k2.cell
    have p3 := k3.cell
    have p4 := k2.frozen
    have p5 := k3.frozen
    have pg : W.cell? ⟨g, 0, none⟩ = some (.func (.func 108) #[] #[]) := (hbW.cell (p := ⟨g, 0, none⟩) hg).trans hc
    go_wp2_with (go_at_call 108; (with_reducible refine (HS.out _).mono ?_); rintro e w0 ⟨rfl, hb0⟩; have hbz := hbW.size; replace k0 := Blk.via hb0 k0; replace k1 := Blk.via hb0 k1; replace k2 := Blk.via hb0 k2; replace k3 := Blk.via hb0 k3; replace hbW := below_via hbW hb0 hbz; replace hbz := hbW.size; replace hz := Nat.le_trans hz hb0.size; have s0 := k0.cell)
    clear pg p0 p1 p2 p3 p4 p5
    go_wp2_with (go_at_call 116; refine (refuse_any _ _).mono ?_; rintro e w1 ⟨rfl, hb1⟩; have r2 := (Blk.via hb1 k2).cell; have r3 := (Blk.via hb1 k3).cell; have r4 := (Blk.via hb1 k2).frozen; have r5 := (Blk.via hb1 k3).frozen)
    refine bodyPost_ret (v := .tuple #[thing0, ans0 8]) (by simp [results, Tryz.results118, go_sem, r2, r3, thing0, ans0]) rfl ?_
    exact rule_err (g := w.heap.size + 1 + 1) HRD.out (below_via hbW hb1 (by omega)) (by (repeat first | (with_reducible refine Touch.two ?_ _) | (with_reducible refine Touch.three ?_ _) | (with_reducible refine Touch.drew ?_)); exact Touch.refl _) (by omega)
set_option maxHeartbeats 1600000 in
theorem mvA_ok (c : CellD) (A1 : Option Addr) (n1 c1 : Nat) (x : OpD) (A2 : Option Addr) (n2 c2 : Nat) (base g : Nat) (w : World) (r : Option CellD × Int × CellD) (hk : (c.kind != 2) = false) (hw : CellWf c) (hx : inI x.n) (hg : g < w.heap.size) (hc : w.cell? ⟨g, 0, none⟩ = some (.func (.func 108) #[] #[])) (hz : -9223372036854775808 ≤ c.val + x.n ∧ c.val + x.n ≤ 9223372036854775807) (hb1 : c.lo ≤ c.val + x.n) (hb2 : c.val + x.n ≤ c.hi) (hr : r = (some ⟨2, [], c.lo, c.hi, c.val + x.n⟩, 0, cell0)) : Calls Tryz.prog 118 #[.agg #[.int .i64 c.kind, .slice A1 n1 c1, .int .i64 c.lo, .int .i64 c.hi, .int .i64 c.val, .bool true], .agg #[.int .i64 x.act, .string x.key, .slice A2 n2 c2, .int .i64 x.lo, .int .i64 x.hi, .int .i64 x.n], .pointer (some ⟨g, 0, none⟩)] w (RulePost w base r) := by
  have HS := hide (fun W => fitA_any c.val x.n true (c.val + x.n) (by unfold fitV; rw [if_pos hz]) hw.2.2 hx W)
  have HRD := hide hr
  clear hr hz
  generalize c.val + x.n = v at *
  go_enter Tryz.func118, Tryz.ntmps118
  go_upto_region 1 with fail
  refine gen4 (fun W k0 k1 k2 k3 hbW hz => ?_)
  have p0 := k0.cell
  have p1 := k1.cell
  have p2 := k2.cell
  have p3 := k3.cell
  have p4 := k2.frozen
  have p5 := k3.frozen
  have pg : W.cell? ⟨g, 0, none⟩ = some (.func (.func 108) #[] #[]) := (hbW.cell (p := ⟨g, 0, none⟩) hg).trans hc
  go_wp2_with (go_at_call 108; (with_reducible refine (HS.out _).mono ?_); rintro e w0 ⟨rfl, hb0⟩; have hbz := hbW.size; replace k0 := Blk.via hb0 k0; replace k1 := Blk.via hb0 k1; replace k2 := Blk.via hb0 k2; replace k3 := Blk.via hb0 k3; replace hbW := below_via hbW hb0 hbz; replace hbz := hbW.size; replace hz := Nat.le_trans hz hb0.size; have s0 := k0.cell)
  clear pg p0 p1 p2 p3 p4 p5
  go_wp2_with (go_at_call 117; refine (counter_any _ _ _ _).mono ?_; rintro e w1 ⟨rfl, hb1⟩; have r2 := (Blk.via hb1 k2).cell; have r3 := (Blk.via hb1 k3).cell; have r4 := (Blk.via hb1 k2).frozen; have r5 := (Blk.via hb1 k3).frozen)
  refine bodyPost_ret (v := .tuple #[.agg #[.int .i64 2, .slice none 0 0, .int .i64 c.lo, .int .i64 c.hi, .int .i64 v, .bool true], ans0 0]) (by simp [results, Tryz.results118, go_sem, r2, r3, ans0]) rfl ?_
  rw [HRD.out]
  exact ⟨none, 0, 0, none, 0, 0, rfl, fun cd h => (by injection h with h; subst h; exact OwnB.nil _ _), OwnB.nil _ _, Touch.below (L := w.heap.size + 1 + 1) (H := w.heap.size + 1 + 1 + 1 + 1) (w := w1) (by (repeat first | (with_reducible refine Touch.two ?_ _) | (with_reducible refine Touch.three ?_ _) | (with_reducible refine Touch.drew ?_)); exact Touch.refl _) (below_via hbW hb1 hbz) (by omega)⟩

/-- The sum that the closure asks for, as its result is spelled. -/
theorem fitS_any (a b : Int) (y : Bool) (v : Int) (hv : fitV (a - b) = .tuple #[.int .i64 v, .bool y]) (a1 : inI a) (b1 : inI b) (w : World) : Calls Tryz.prog 109 #[.int .i64 a, .int .i64 b] w fun e w' => e = .returned (.tuple #[.int .i64 v, .bool y]) ∧ Below w.heap.size w w' := hv ▸ wSub_any a b w a1.1 a1.2 b1.1 b1.2
set_option maxHeartbeats 1600000 in
theorem mvS_no (c : CellD) (A1 : Option Addr) (n1 c1 : Nat) (x : OpD) (A2 : Option Addr) (n2 c2 : Nat) (base g : Nat) (w : World) (r : Option CellD × Int × CellD) (hk : (c.kind != 2) = false) (hw : CellWf c) (hx : inI x.n) (hg : g < w.heap.size) (hc : w.cell? ⟨g, 0, none⟩ = some (.func (.func 109) #[] #[])) (hz : ¬ (-9223372036854775808 ≤ c.val - x.n ∧ c.val - x.n ≤ 9223372036854775807)) (hr : r = (none, 8, cell0)) : Calls Tryz.prog 118 #[.agg #[.int .i64 c.kind, .slice A1 n1 c1, .int .i64 c.lo, .int .i64 c.hi, .int .i64 c.val, .bool true], .agg #[.int .i64 x.act, .string x.key, .slice A2 n2 c2, .int .i64 x.lo, .int .i64 x.hi, .int .i64 x.n], .pointer (some ⟨g, 0, none⟩)] w (RulePost w base r) := by
  have HS := hide (fun W => fitS_any c.val x.n false 0 (by unfold fitV; rw [if_neg hz]) hw.2.2 hx W)
  have HRD := hide hr
  clear hr hz
  go_enter Tryz.func118, Tryz.ntmps118
  go_upto_region 1 with fail
  refine gen4 (fun W k0 k1 k2 k3 hbW hz => ?_)
  have p0 := k0.cell
  have p1 := k1.cell
  have p2 := k2.cell
  have p3 := k3.cell
  have p4 := k2.frozen
  have p5 := k3.frozen
  have pg : W.cell? ⟨g, 0, none⟩ = some (.func (.func 109) #[] #[]) := (hbW.cell (p := ⟨g, 0, none⟩) hg).trans hc
  go_wp2_with (go_at_call 109; (with_reducible refine (HS.out _).mono ?_); rintro e w0 ⟨rfl, hb0⟩; have hbz := hbW.size; replace k0 := Blk.via hb0 k0; replace k1 := Blk.via hb0 k1; replace k2 := Blk.via hb0 k2; replace k3 := Blk.via hb0 k3; replace hbW := below_via hbW hb0 hbz; replace hbz := hbW.size; replace hz := Nat.le_trans hz hb0.size; have s0 := k0.cell)
  clear pg p0 p1 p2 p3 p4 p5
  go_wp2_with (go_at_call 116; refine (refuse_any _ _).mono ?_; rintro e w1 ⟨rfl, hb1⟩; have r2 := (Blk.via hb1 k2).cell; have r3 := (Blk.via hb1 k3).cell; have r4 := (Blk.via hb1 k2).frozen; have r5 := (Blk.via hb1 k3).frozen)
  refine bodyPost_ret (v := .tuple #[thing0, ans0 8]) (by simp [results, Tryz.results118, go_sem, r2, r3, thing0, ans0]) rfl ?_
  exact rule_err (g := w.heap.size + 1 + 1) HRD.out (below_via hbW hb1 (by omega)) (by (repeat first | (with_reducible refine Touch.two ?_ _) | (with_reducible refine Touch.three ?_ _) | (with_reducible refine Touch.drew ?_)); exact Touch.refl _) (by omega)
set_option maxHeartbeats 1600000 in
theorem mvS_err (c : CellD) (A1 : Option Addr) (n1 c1 : Nat) (x : OpD) (A2 : Option Addr) (n2 c2 : Nat) (base g : Nat) (w : World) (r : Option CellD × Int × CellD) (hk : (c.kind != 2) = false) (hw : CellWf c) (hx : inI x.n) (hg : g < w.heap.size) (hc : w.cell? ⟨g, 0, none⟩ = some (.func (.func 109) #[] #[])) (hz : -9223372036854775808 ≤ c.val - x.n ∧ c.val - x.n ≤ 9223372036854775807) (hb : c.val - x.n < c.lo ∨ c.hi < c.val - x.n) (hr : r = (none, 8, cell0)) : Calls Tryz.prog 118 #[.agg #[.int .i64 c.kind, .slice A1 n1 c1, .int .i64 c.lo, .int .i64 c.hi, .int .i64 c.val, .bool true], .agg #[.int .i64 x.act, .string x.key, .slice A2 n2 c2, .int .i64 x.lo, .int .i64 x.hi, .int .i64 x.n], .pointer (some ⟨g, 0, none⟩)] w (RulePost w base r) := by
  have HS := hide (fun W => fitS_any c.val x.n true (c.val - x.n) (by unfold fitV; rw [if_pos hz]) hw.2.2 hx W)
  have HRD := hide hr
  clear hr hz
  generalize c.val - x.n = v at *
  by_cases h1 : v < c.lo
  · go_enter Tryz.func118, Tryz.ntmps118
    go_upto_region 1 with fail
    refine gen4 (fun W k0 k1 k2 k3 hbW hz => ?_)
    have p0 := k0.cell
    have p1 := k1.cell
    have p2 := k2.cell
    have p3 := k3.cell
    have p4 := k2.frozen
    have p5 := k3.frozen
    have pg : W.cell? ⟨g, 0, none⟩ = some (.func (.func 109) #[] #[]) := (hbW.cell (p := ⟨g, 0, none⟩) hg).trans hc
    go_wp2_with (go_at_call 109; (with_reducible refine (HS.out _).mono ?_); rintro e w0 ⟨rfl, hb0⟩; have hbz := hbW.size; replace k0 := Blk.via hb0 k0; replace k1 := Blk.via hb0 k1; replace k2 := Blk.via hb0 k2; replace k3 := Blk.via hb0 k3; replace hbW := below_via hbW hb0 hbz; replace hbz := hbW.size; replace hz := Nat.le_trans hz hb0.size; have s0 := k0.cell)
    clear pg p0 p1 p2 p3 p4 p5
    go_wp2_with (go_at_call 116; refine (refuse_any _ _).mono ?_; rintro e w1 ⟨rfl, hb1⟩; have r2 := (Blk.via hb1 k2).cell; have r3 := (Blk.via hb1 k3).cell; have r4 := (Blk.via hb1 k2).frozen; have r5 := (Blk.via hb1 k3).frozen)
    refine bodyPost_ret (v := .tuple #[thing0, ans0 8]) (by simp [results, Tryz.results118, go_sem, r2, r3, thing0, ans0]) rfl ?_
    exact rule_err (g := w.heap.size + 1 + 1) HRD.out (below_via hbW hb1 (by omega)) (by (repeat first | (with_reducible refine Touch.two ?_ _) | (with_reducible refine Touch.three ?_ _) | (with_reducible refine Touch.drew ?_)); exact Touch.refl _) (by omega)
  · have h2 : c.hi < v := by omega
    clear hb
    go_enter Tryz.func118, Tryz.ntmps118
    go_upto_region 1 with fail
    refine gen4 (fun W k0 k1 k2 k3 hbW hz => ?_)
    have p0 := k0.cell
    have p1 := k1.cell
    have p2 := k2.cell
    have p3 := k3.cell
    have p4 := k2.frozen
    have p5 := k3.frozen
    have pg : W.cell? ⟨g, 0, none⟩ = some (.func (.func 109) #[] #[]) := (hbW.cell (p := ⟨g, 0, none⟩) hg).trans hc
    go_wp2_with (go_at_call 109; (with_reducible refine (HS.out _).mono ?_); rintro e w0 ⟨rfl, hb0⟩; have hbz := hbW.size; replace k0 := Blk.via hb0 k0; replace k1 := Blk.via hb0 k1; replace k2 := Blk.via hb0 k2; replace k3 := Blk.via hb0 k3; replace hbW := below_via hbW hb0 hbz; replace hbz := hbW.size; replace hz := Nat.le_trans hz hb0.size; have s0 := k0.cell)
    clear pg p0 p1 p2 p3 p4 p5
    go_wp2_with (go_at_call 116; refine (refuse_any _ _).mono ?_; rintro e w1 ⟨rfl, hb1⟩; have r2 := (Blk.via hb1 k2).cell; have r3 := (Blk.via hb1 k3).cell; have r4 := (Blk.via hb1 k2).frozen; have r5 := (Blk.via hb1 k3).frozen)
    refine bodyPost_ret (v := .tuple #[thing0, ans0 8]) (by simp [results, Tryz.results118, go_sem, r2, r3, thing0, ans0]) rfl ?_
    exact rule_err (g := w.heap.size + 1 + 1) HRD.out (below_via hbW hb1 (by omega)) (by (repeat first | (with_reducible refine Touch.two ?_ _) | (with_reducible refine Touch.three ?_ _) | (with_reducible refine Touch.drew ?_)); exact Touch.refl _) (by omega)
set_option maxHeartbeats 1600000 in
theorem mvS_ok (c : CellD) (A1 : Option Addr) (n1 c1 : Nat) (x : OpD) (A2 : Option Addr) (n2 c2 : Nat) (base g : Nat) (w : World) (r : Option CellD × Int × CellD) (hk : (c.kind != 2) = false) (hw : CellWf c) (hx : inI x.n) (hg : g < w.heap.size) (hc : w.cell? ⟨g, 0, none⟩ = some (.func (.func 109) #[] #[])) (hz : -9223372036854775808 ≤ c.val - x.n ∧ c.val - x.n ≤ 9223372036854775807) (hb1 : c.lo ≤ c.val - x.n) (hb2 : c.val - x.n ≤ c.hi) (hr : r = (some ⟨2, [], c.lo, c.hi, c.val - x.n⟩, 0, cell0)) : Calls Tryz.prog 118 #[.agg #[.int .i64 c.kind, .slice A1 n1 c1, .int .i64 c.lo, .int .i64 c.hi, .int .i64 c.val, .bool true], .agg #[.int .i64 x.act, .string x.key, .slice A2 n2 c2, .int .i64 x.lo, .int .i64 x.hi, .int .i64 x.n], .pointer (some ⟨g, 0, none⟩)] w (RulePost w base r) := by
  have HS := hide (fun W => fitS_any c.val x.n true (c.val - x.n) (by unfold fitV; rw [if_pos hz]) hw.2.2 hx W)
  have HRD := hide hr
  clear hr hz
  generalize c.val - x.n = v at *
  go_enter Tryz.func118, Tryz.ntmps118
  go_upto_region 1 with fail
  refine gen4 (fun W k0 k1 k2 k3 hbW hz => ?_)
  have p0 := k0.cell
  have p1 := k1.cell
  have p2 := k2.cell
  have p3 := k3.cell
  have p4 := k2.frozen
  have p5 := k3.frozen
  have pg : W.cell? ⟨g, 0, none⟩ = some (.func (.func 109) #[] #[]) := (hbW.cell (p := ⟨g, 0, none⟩) hg).trans hc
  go_wp2_with (go_at_call 109; (with_reducible refine (HS.out _).mono ?_); rintro e w0 ⟨rfl, hb0⟩; have hbz := hbW.size; replace k0 := Blk.via hb0 k0; replace k1 := Blk.via hb0 k1; replace k2 := Blk.via hb0 k2; replace k3 := Blk.via hb0 k3; replace hbW := below_via hbW hb0 hbz; replace hbz := hbW.size; replace hz := Nat.le_trans hz hb0.size; have s0 := k0.cell)
  clear pg p0 p1 p2 p3 p4 p5
  go_wp2_with (go_at_call 117; refine (counter_any _ _ _ _).mono ?_; rintro e w1 ⟨rfl, hb1⟩; have r2 := (Blk.via hb1 k2).cell; have r3 := (Blk.via hb1 k3).cell; have r4 := (Blk.via hb1 k2).frozen; have r5 := (Blk.via hb1 k3).frozen)
  refine bodyPost_ret (v := .tuple #[.agg #[.int .i64 2, .slice none 0 0, .int .i64 c.lo, .int .i64 c.hi, .int .i64 v, .bool true], ans0 0]) (by simp [results, Tryz.results118, go_sem, r2, r3, ans0]) rfl ?_
  rw [HRD.out]
  exact ⟨none, 0, 0, none, 0, 0, rfl, fun cd h => (by injection h with h; subst h; exact OwnB.nil _ _), OwnB.nil _ _, Touch.below (L := w.heap.size + 1 + 1) (H := w.heap.size + 1 + 1 + 1 + 1) (w := w1) (by (repeat first | (with_reducible refine Touch.two ?_ _) | (with_reducible refine Touch.three ?_ _) | (with_reducible refine Touch.drew ?_)); exact Touch.refl _) (below_via hbW hb1 hbz) (by omega)⟩
end Go.Proofs.YteidmdnhkgcnoaaGreat
