/-
  WALKS OF THE PROGRAM: package wide: sums of 128 bits.
-/
import Derived.Test.YteidmdnhkgcnoaaGreatProg
import Derived.Test.YteidmdnhkgcnoaaGreatMem
import Derived.Test.YteidmdnhkgcnoaaGreatQin
import Derived.Laws.Externs
import Derived.Deep.DeepCutAuto
import Derived.Deep.RegionHeld3
import Derived.Deep.DrawnRows
import Derived.Shelf.Spec.BitsCarry
namespace Go.Proofs.YteidmdnhkgcnoaaGreat
set_option maxRecDepth 100000
open Go.RowKit BigFrame
attribute [local go_sem ↓] Go.wp_at_zero Go.wp_at_succ

/-- The lower word of a number. -/
def lowN (n : Int) : Nat := (n % 18446744073709551616).toNat
theorem lowN_lt (n : Int) : lowN n < 18446744073709551616 := by unfold lowN; omega
theorem lowN_cast (n : Int) : ((lowN n : Nat) : Int) = n % 18446744073709551616 := by unfold lowN; omega

set_option maxHeartbeats 800000 in
theorem pOf_any (n : Int) (w : World) (h1 : -9223372036854775808 ≤ n) (h2 : n ≤ 9223372036854775807) :
    Calls Tryz.prog 120 #[.int .i64 n] w fun e w' => e = .returned (.agg #[.int .i64 (n / 18446744073709551616), .int .u64 (lowN n : Nat)]) ∧ Below w.heap.size w w' := by
  go_enter Tryz.func120, Tryz.ntmps120
  go_wp2
  have e1 : n / 9223372036854775808 = n / 18446744073709551616 := by omega
  have e2 : IntKind.u64.wrap n = ((lowN n : Nat) : Int) := by rw [lowN_cast]; simp [IntKind.wrap, IntKind.bits, IntKind.signed]
  rw [e1, e2]
  refine bodyPost_ret (v := .agg #[.int .i64 (n / 18446744073709551616), .int .u64 (lowN n : Nat)]) (by simp [results, Tryz.results120, go_sem]) rfl ⟨rfl, ?_⟩
  exact (Below.refl _ _).alloc (Nat.le_refl _) _

theorem add64_run (x y : Nat) (w : World) :
    (callFunc 129 #[.int .u64 (x : Int), .int .u64 (y : Int), .int .u64 0]).run Tryz.prog w =
      .ok (.value (.tuple #[.int .u64 (((x + y) % 18446744073709551616 : Nat) : Int), .int .u64 (((x + y) / 18446744073709551616 : Nat) : Int)])) w := by
  rw [run_callFunc_extern Tryz.func129 (by kernel_rfl) (by kernel_rfl) (by kernel_rfl) (e := add64Entry) (by kernel_rfl), run_add64 (x : Int) (y : Int) 0 (by omega) (by omega) (by omega) (by omega)]
  simp only [Result.andThen]
  congr 5 <;> omega
theorem sub64_run (x y : Nat) (w : World) :
    (callFunc 127 #[.int .u64 (x : Int), .int .u64 (y : Int), .int .u64 0]).run Tryz.prog w =
      .ok (.value (.tuple #[.int .u64 (((x + 18446744073709551616 - y) % 18446744073709551616 : Nat) : Int), .int .u64 ((if x < y then 1 else 0 : Nat) : Int)])) w := by
  have := run_sub64 (P := Tryz.prog) x y 0 (by omega) w
  rw [run_callFunc_extern Tryz.func127 (by kernel_rfl) (by kernel_rfl) (by kernel_rfl) (e := sub64Entry) (by kernel_rfl)]
  have e : (sub64Entry #[.int .u64 (x : Int), .int .u64 (y : Int), .int .u64 0]) = sub64Entry #[.int .u64 (x : Int), .int .u64 (y : Int), .int .u64 ((0 : Nat) : Int)] := rfl
  rw [e, this]
  rfl

set_option maxHeartbeats 1600000 in
theorem pJoin_any (ha hb : Int) (la lb : Nat) (w : World) (a1 : -10 ≤ ha) (a2 : ha ≤ 10) (b1 : -10 ≤ hb) (b2 : hb ≤ 10) (l1 : la < 18446744073709551616) (l2 : lb < 18446744073709551616) :
    Calls Tryz.prog 126 #[.agg #[.int .i64 ha, .int .u64 (la : Nat)], .agg #[.int .i64 hb, .int .u64 (lb : Nat)]] w fun e w' =>
      e = .returned (.agg #[.int .i64 (ha + hb + ((la + lb) / 18446744073709551616 : Nat)), .int .u64 ((la + lb) % 18446744073709551616 : Nat)]) ∧ Below w.heap.size w w' := by
  have hr := fun W => add64_run la lb W
  have hc : (la + lb) / 18446744073709551616 ≤ 1 := by omega
  generalize (la + lb) / 18446744073709551616 = c at *
  generalize (la + lb) % 18446744073709551616 = r at *
  have HR := hide hr
  clear hr l1 l2
  go_enter Tryz.func126, Tryz.ntmps126
  go_wp2
  rw [HR.out]
  rw [Oper.upon_value]
  go_wp2
  refine bodyPost_ret (v := .agg #[.int .i64 (ha + hb + (c : Nat)), .int .u64 (r : Nat)]) (by simp [results, Tryz.results126, go_sem]) rfl ⟨rfl, ?_⟩
  exact (below2 _ _ _).alloc (by simp; omega) _

set_option maxHeartbeats 1600000 in
theorem pMinus_any (ha n : Int) (la : Nat) (w : World) (a1 : -10 ≤ ha) (a2 : ha ≤ 10) (h1 : -9223372036854775808 ≤ n) (h2 : n ≤ 9223372036854775807) :
    Calls Tryz.prog 122 #[.agg #[.int .i64 ha, .int .u64 (la : Nat)], .int .i64 n] w fun e w' =>
      e = .returned (.agg #[.int .i64 (ha - n / 18446744073709551616 - ((if la < lowN n then 1 else 0 : Nat) : Int)), .int .u64 ((la + 18446744073709551616 - lowN n) % 18446744073709551616 : Nat)]) ∧ Below w.heap.size w w' := by
  have HO := hide (fun W => pOf_any n W h1 h2)
  have hr := fun W => sub64_run la (lowN n) W
  have hc : (if la < lowN n then 1 else 0 : Nat) ≤ 1 := by split <;> omega
  have hq : -1 ≤ n / 18446744073709551616 ∧ n / 18446744073709551616 ≤ 0 := by omega
  obtain ⟨hq1, hq2⟩ := hq
  generalize (if la < lowN n then 1 else 0 : Nat) = c at *
  generalize (la + 18446744073709551616 - lowN n) % 18446744073709551616 = r at *
  generalize lowN n = lb at *
  generalize n / 18446744073709551616 = hb at *
  have HR := hide hr
  clear hr h1 h2
  go_enter Tryz.func122, Tryz.ntmps122
  go_wp2_with fail
  refine gen2 (R := fun W => Calls Tryz.prog 120 _ W _) ?_
  intro W k0 k1 hbW hz
  refine (HO.out _).mono ?_
  rintro e w1 ⟨rfl, hb1⟩
  go_upto_region 2 with fail
  refine gen1 (fun W2 k2 hb2 hz2 => ?_)
  have j0 := Blk.via hb2 (Blk.via hb1 k0)
  have j1 := Blk.via hb2 (Blk.via hb1 k1)
  have q0 := j0.cell
  have q1 := j1.cell
  have q2 := j1.frozen
  have q3 := k2.cell
  have hbW2 := below_via (below_via hbW hb1 (by omega)) hb2 (by have := hbW.size; have := hb1.size; omega)
  go_wp2
  rw [HR.out]
  rw [Oper.upon_value]
  go_wp2
  refine bodyPost_ret (v := .agg #[.int .i64 (ha - hb - (c : Nat)), .int .u64 (r : Nat)]) (by simp [results, Tryz.results122, go_sem, q1]) rfl ⟨rfl, ?_⟩
  exact ((hbW2.setCell (p := ⟨w.heap.size + 1, 0, none⟩) (by simp) _).setCell (p := ⟨w.heap.size + 1, 1, none⟩) (by simp) _)

set_option maxHeartbeats 1600000 in
theorem pPlus_any (ha n : Int) (la : Nat) (w : World) (a1 : -10 ≤ ha) (a2 : ha ≤ 10) (l1 : la < 18446744073709551616) (h1 : -9223372036854775808 ≤ n) (h2 : n ≤ 9223372036854775807) :
    Calls Tryz.prog 121 #[.agg #[.int .i64 ha, .int .u64 (la : Nat)], .int .i64 n] w fun e w' =>
      e = .returned (.agg #[.int .i64 (ha + n / 18446744073709551616 + ((la + lowN n) / 18446744073709551616 : Nat)), .int .u64 ((la + lowN n) % 18446744073709551616 : Nat)]) ∧ Below w.heap.size w w' := by
  have HO := hide (fun W => pOf_any n W h1 h2)
  have HJ := hide (fun W => pJoin_any ha (n / 18446744073709551616) la (lowN n) W a1 a2 (by omega) (by omega) l1 (lowN_lt n))
  generalize (la + lowN n) / 18446744073709551616 = c at *
  generalize (la + lowN n) % 18446744073709551616 = r at *
  generalize lowN n = lb at *
  generalize n / 18446744073709551616 = hb at *
  go_enter Tryz.func121, Tryz.ntmps121
  go_wp2_with fail
  refine gen2 (fun W k0 k1 hbW hz => ?_)
  have j0 := k0.drew
  have j1 := k1.drew
  have jb := hbW.drew
  go_region_held3 (fun w' => w'.cell? ⟨w.heap.size, 0, none⟩ = some (.int .i64 ha) ∧ w'.cell? ⟨w.heap.size, 1, none⟩ = some (.int .u64 (la : Nat)))
    (first | exact ⟨j0'.cell 0, j0'.cell 1⟩ | exact ⟨j0.cell 0, j0.cell 1⟩ | exact ⟨((j0'.far (by simp) _).far (by simp) _).cell 0, ((j0'.far (by simp) _).far (by simp) _).cell 1⟩)
    (first
      | (go_at_call 120; (with_reducible refine (HO.out _).mono ?_); rintro e w' ⟨rfl, hbx⟩; have j0' := Blk.via hbx j0; have j1' := Blk.via hbx j1; have jb' := below_via jb hbx (by simp; omega))
      | (go_at_call 126; (with_reducible refine (HJ.out _).mono ?_); rintro e w'' ⟨rfl, hbx'⟩; replace j0' := Blk.via hbx' j0'; replace j1' := Blk.via hbx' j1'; replace jb' := below_via jb' hbx' (by have := jb'.size; omega); have q1 := j1'.cell; have q2 := j1'.frozen))
  go_wp2
  refine bodyPost_ret (v := .agg #[.int .i64 (ha + hb + (c : Nat)), .int .u64 (r : Nat)]) (by simp [results, Tryz.results121, go_sem, q1]) rfl ⟨rfl, ?_⟩
  exact ((jb'.setCell (p := ⟨w.heap.size + 1, 0, none⟩) (by simp) _).setCell (p := ⟨w.heap.size + 1, 1, none⟩) (by simp) _)

theorem wrap_low (l : Nat) (hl : l < 18446744073709551616) : IntKind.i64.wrap (l : Int) = if l < 9223372036854775808 then (l : Int) else (l : Int) - 18446744073709551616 := by
  unfold IntKind.wrap IntKind.bits IntKind.signed
  simp
  split <;> split <;> omega
set_option maxHeartbeats 1600000 in
theorem pInt_yes (h : Int) (l : Nat) (w : World) (hl : l < 18446744073709551616) (h1 : -9223372036854775808 ≤ h * 18446744073709551616 + l) (h2 : h * 18446744073709551616 + l ≤ 9223372036854775807) :
    Calls Tryz.prog 125 #[.agg #[.int .i64 h, .int .u64 (l : Nat)]] w fun e w' => e = .returned (.tuple #[.int .i64 (h * 18446744073709551616 + l), .bool true]) ∧ Below w.heap.size w w' := by
  have hw := wrap_low l hl
  obtain ⟨n, hn⟩ : ∃ n, h * 18446744073709551616 + (l : Int) = n := ⟨_, rfl⟩
  have hwn : IntKind.i64.wrap (l : Int) = n := by rw [hw]; split <;> omega
  have e1 : n / 18446744073709551616 = h := by omega
  have e2 : lowN n = l := by unfold lowN; omega
  have ho := fun W => pOf_any n W (by omega) (by omega)
  rw [e1, e2] at ho
  rw [hn]
  have HO := hide ho
  clear ho hw e1 e2 hn h1 h2 hl
  go_enter Tryz.func125, Tryz.ntmps125
  go_wp2
  refine gen1 (fun W k0 hbW hz => ?_)
  have d0 : ∀ t : In (Below W.heap.size W), t.w.cell? ⟨w.heap.size, 0, none⟩ = some (.int .i64 h) := fun t => (Blk.via t.h k0).cell 0
  have d1 : ∀ t : In (Below W.heap.size W), t.w.cell? ⟨w.heap.size, 1, none⟩ = some (.int .u64 (l : Nat)) := fun t => (Blk.via t.h k0).cell 1
  refine wp_region_in (C := (Below W.heap.size W)) (by kernel_rfl) (by kernel_rfl) (Below.refl _ _).drew ?_
  repeat (first | go_big_quiet_step ((go_at_call 120; with_reducible exact calls_in (Nat.le_refl _) (HO.out _))) | quiet_step ((go_at_call 120; with_reducible exact calls_in (Nat.le_refl _) (HO.out _))))
  refine wpQuiet_nil ?_
  intro _ hw'
  obtain ⟨t, hw''⟩ := hw'
  subst hw''
  go_wp2
  go_ret2
  exact ⟨rfl, below_via hbW t.h (by omega)⟩
set_option maxHeartbeats 1600000 in
theorem pInt_no (h : Int) (l : Nat) (w : World) (hl : l < 18446744073709551616) (h1 : ¬ (-9223372036854775808 ≤ h * 18446744073709551616 + l ∧ h * 18446744073709551616 + l ≤ 9223372036854775807)) :
    Calls Tryz.prog 125 #[.agg #[.int .i64 h, .int .u64 (l : Nat)]] w fun e w' => e = .returned (.tuple #[.int .i64 0, .bool false]) ∧ Below w.heap.size w w' := by
  have hw := wrap_low l hl
  obtain ⟨n, hwn⟩ : ∃ n, IntKind.i64.wrap (l : Int) = n := ⟨_, rfl⟩
  have hnn : n = if l < 9223372036854775808 then (l : Int) else (l : Int) - 18446744073709551616 := by rw [← hwn, hw]
  have e0 : -9223372036854775808 ≤ n ∧ n ≤ 9223372036854775807 := by rw [hnn]; split <;> omega
  have e1 : n / 18446744073709551616 ≠ h := by intro e; apply h1; rw [← e]; split at hnn <;> omega
  have e2 : lowN n = l := by unfold lowN; split at hnn <;> omega
  have ho := fun W => pOf_any n W e0.1 e0.2
  rw [e2] at ho
  generalize n / 18446744073709551616 = h' at *
  have e3 : (h == h') = false := by simp; exact fun e => e1 e.symm
  have HO := hide ho
  clear ho hw e1 e2 hnn h1 hl e0
  go_enter Tryz.func125, Tryz.ntmps125
  go_wp2
  refine gen1 (fun W k0 hbW hz => ?_)
  have d0 : ∀ t : In (Below W.heap.size W), t.w.cell? ⟨w.heap.size, 0, none⟩ = some (.int .i64 h) := fun t => (Blk.via t.h k0).cell 0
  have d1 : ∀ t : In (Below W.heap.size W), t.w.cell? ⟨w.heap.size, 1, none⟩ = some (.int .u64 (l : Nat)) := fun t => (Blk.via t.h k0).cell 1
  refine wp_region_in (C := (Below W.heap.size W)) (by kernel_rfl) (by kernel_rfl) (Below.refl _ _).drew ?_
  repeat (first | go_big_quiet_step ((go_at_call 120; with_reducible exact calls_in (Nat.le_refl _) (HO.out _))) | quiet_step ((go_at_call 120; with_reducible exact calls_in (Nat.le_refl _) (HO.out _))))
  refine wpQuiet_nil ?_
  intro _ hw'
  obtain ⟨t, hw''⟩ := hw'
  subst hw''
  go_wp2
  go_ret2
  exact ⟨rfl, below_via hbW t.h (by omega)⟩

/-- What wide.Add and wide.Sub tell. -/
def fitV (z : Int) : Value := if -9223372036854775808 ≤ z ∧ z ≤ 9223372036854775807 then .tuple #[.int .i64 z, .bool true] else .tuple #[.int .i64 0, .bool false]
theorem pInt_any (h : Int) (l : Nat) (z : Int) (w : World) (hl : l < 18446744073709551616) (hz : h * 18446744073709551616 + l = z) :
    Calls Tryz.prog 125 #[.agg #[.int .i64 h, .int .u64 (l : Nat)]] w fun e w' => e = .returned (fitV z) ∧ Below w.heap.size w w' := by
  subst hz
  unfold fitV
  split
  · rename_i hh; exact pInt_yes h l w hl hh.1 hh.2
  · rename_i hh; exact pInt_no h l w hl hh
set_option maxHeartbeats 800000 in
theorem toldPlus_any (a b : Int) (w : World) (a1 : -9223372036854775808 ≤ a) (a2 : a ≤ 9223372036854775807) (b1 : -9223372036854775808 ≤ b) (b2 : b ≤ 9223372036854775807) :
    Calls Tryz.prog 119 #[.func (.func 121) #[.agg #[.int .i64 (a / 18446744073709551616), .int .u64 (lowN a : Nat)]] #[], .int .i64 b] w fun e w' => e = .returned (fitV (a + b)) ∧ Below w.heap.size w w' := by
  have la := lowN_cast a
  have lb := lowN_cast b
  have l1 := lowN_lt a
  have l2 := lowN_lt b
  have hp := fun W => pPlus_any (a / 18446744073709551616) b (lowN a) W (by omega) (by omega) l1 b1 b2
  have hi := fun W => pInt_any (a / 18446744073709551616 + b / 18446744073709551616 + ((lowN a + lowN b) / 18446744073709551616 : Nat)) ((lowN a + lowN b) % 18446744073709551616) (a + b) W (by omega) (by omega)
  obtain ⟨x, y, hv⟩ : ∃ (x : Int) (y : Bool), fitV (a + b) = .tuple #[.int .i64 x, .bool y] := by
    unfold fitV
    split <;> exact ⟨_, _, rfl⟩
  rw [hv] at hi ⊢
  generalize a / 18446744073709551616 + b / 18446744073709551616 + ((lowN a + lowN b) / 18446744073709551616 : Nat) = hh at *
  generalize (lowN a + lowN b) % 18446744073709551616 = ll at *
  generalize a / 18446744073709551616 = ha at *
  have HP := hide hp
  have HI := hide hi
  clear hp hi hv la lb l1 l2
  go_enter Tryz.func119, Tryz.ntmps119
  go_wp2_with (first
    | (go_at_call 121; (with_reducible refine (HP.out _).mono ?_); rintro e w1 ⟨rfl, hb1⟩)
    | (go_at_call 125; (with_reducible refine (HI.out _).mono ?_); rintro e w2 ⟨rfl, hb2⟩))
  go_ret2
  exact ⟨rfl, below_via hb1 hb2 hb1.size⟩
set_option maxHeartbeats 800000 in
theorem wAdd_any (a b : Int) (w : World) (a1 : -9223372036854775808 ≤ a) (a2 : a ≤ 9223372036854775807) (b1 : -9223372036854775808 ≤ b) (b2 : b ≤ 9223372036854775807) :
    Calls Tryz.prog 108 #[.int .i64 a, .int .i64 b] w fun e w' => e = .returned (fitV (a + b)) ∧ Below w.heap.size w w' := by
  have ht := fun W => toldPlus_any a b W a1 a2 b1 b2
  have ho := fun W => pOf_any a W a1 a2
  obtain ⟨x, y, hv⟩ : ∃ (x : Int) (y : Bool), fitV (a + b) = .tuple #[.int .i64 x, .bool y] := by
    unfold fitV
    split <;> exact ⟨_, _, rfl⟩
  rw [hv] at ht ⊢
  generalize a / 18446744073709551616 = ha at *
  have HT := hide ht
  have HO := hide ho
  clear ht ho hv
  go_enter Tryz.func108, Tryz.ntmps108
  go_wp2_with (first
    | (go_at_call 120; (with_reducible refine (HO.out _).mono ?_); rintro e w1 ⟨rfl, hb1⟩)
    | (go_at_call 119; (with_reducible refine (HT.out _).mono ?_); rintro e w2 ⟨rfl, hb2⟩))
  go_ret2
  exact ⟨rfl, below_via hb1 hb2 hb1.size⟩
set_option maxHeartbeats 800000 in
theorem toldMinus_any (a b : Int) (w : World) (a1 : -9223372036854775808 ≤ a) (a2 : a ≤ 9223372036854775807) (b1 : -9223372036854775808 ≤ b) (b2 : b ≤ 9223372036854775807) :
    Calls Tryz.prog 119 #[.func (.func 122) #[.agg #[.int .i64 (a / 18446744073709551616), .int .u64 (lowN a : Nat)]] #[], .int .i64 b] w fun e w' => e = .returned (fitV (a - b)) ∧ Below w.heap.size w w' := by
  have la := lowN_cast a
  have lb := lowN_cast b
  have l1 := lowN_lt a
  have l2 := lowN_lt b
  have hp := fun W => pMinus_any (a / 18446744073709551616) b (lowN a) W (by omega) (by omega) b1 b2
  have hi := fun W => pInt_any (a / 18446744073709551616 - b / 18446744073709551616 - ((if lowN a < lowN b then 1 else 0 : Nat) : Int)) ((lowN a + 18446744073709551616 - lowN b) % 18446744073709551616) (a - b) W (by omega) (by split <;> omega)
  obtain ⟨x, y, hv⟩ : ∃ (x : Int) (y : Bool), fitV (a - b) = .tuple #[.int .i64 x, .bool y] := by
    unfold fitV
    split <;> exact ⟨_, _, rfl⟩
  rw [hv] at hi ⊢
  generalize a / 18446744073709551616 - b / 18446744073709551616 - ((if lowN a < lowN b then 1 else 0 : Nat) : Int) = hh at *
  generalize (lowN a + 18446744073709551616 - lowN b) % 18446744073709551616 = ll at *
  generalize a / 18446744073709551616 = ha at *
  have HP := hide hp
  have HI := hide hi
  clear hp hi hv la lb l1 l2
  go_enter Tryz.func119, Tryz.ntmps119
  go_wp2_with (first
    | (go_at_call 122; (with_reducible refine (HP.out _).mono ?_); rintro e w1 ⟨rfl, hb1⟩)
    | (go_at_call 125; (with_reducible refine (HI.out _).mono ?_); rintro e w2 ⟨rfl, hb2⟩))
  go_ret2
  exact ⟨rfl, below_via hb1 hb2 hb1.size⟩
set_option maxHeartbeats 800000 in
theorem wSub_any (a b : Int) (w : World) (a1 : -9223372036854775808 ≤ a) (a2 : a ≤ 9223372036854775807) (b1 : -9223372036854775808 ≤ b) (b2 : b ≤ 9223372036854775807) :
    Calls Tryz.prog 109 #[.int .i64 a, .int .i64 b] w fun e w' => e = .returned (fitV (a - b)) ∧ Below w.heap.size w w' := by
  have ht := fun W => toldMinus_any a b W a1 a2 b1 b2
  have ho := fun W => pOf_any a W a1 a2
  obtain ⟨x, y, hv⟩ : ∃ (x : Int) (y : Bool), fitV (a - b) = .tuple #[.int .i64 x, .bool y] := by
    unfold fitV
    split <;> exact ⟨_, _, rfl⟩
  rw [hv] at ht ⊢
  generalize a / 18446744073709551616 = ha at *
  have HT := hide ht
  have HO := hide ho
  clear ht ho hv
  go_enter Tryz.func109, Tryz.ntmps109
  go_wp2_with (first
    | (go_at_call 120; (with_reducible refine (HO.out _).mono ?_); rintro e w1 ⟨rfl, hb1⟩)
    | (go_at_call 119; (with_reducible refine (HT.out _).mono ?_); rintro e w2 ⟨rfl, hb2⟩))
  go_ret2
  exact ⟨rfl, below_via hb1 hb2 hb1.size⟩
end Go.Proofs.YteidmdnhkgcnoaaGreat
