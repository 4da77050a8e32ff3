/-
  WALKS: moneyerref03: numbers as two parts: norm, Of, Join, Take, Less, Int.
-/
import Derived.Test.YteidmdnhkgcnoaaGreatProg
import Derived.Test.YteidmdnhkgcnoaaGreatMem
import Derived.Deep.QuietTactic
import Derived.BigQuiet
namespace Go.Proofs.YteidmdnhkgcnoaaGreat
open Go.RowKit

theorem norm_step (h l : Int) : (h - 1) + (l + 4294967296) / 4294967296 = h + l / 4294967296 ∧ (l + 4294967296) % 4294967296 = l % 4294967296 := by omega

set_option maxHeartbeats 800000 in
theorem norm_any (h l : Int) (w : World) (h1 : -1000000000000 ≤ h) (h2 : h ≤ 1000000000000) (l1 : -1000000000000 ≤ l) (l2 : l ≤ 1000000000000) :
    Calls Tryz.prog 112 #[.int .i64 h, .int .i64 l] w fun e w' => e = .returned (.agg #[.int .i64 (h + l / 4294967296), .int .i64 (l % 4294967296)]) ∧ Below w.heap.size w w' := by
  go_enter Tryz.func112, Tryz.ntmps112
  go_wp2
  go_loop [0, 1] (fun a b => ∃ h' l' : Int, a = .int .i64 h' ∧ b = .int .i64 l' ∧ h' + l' / 4294967296 = h + l / 4294967296 ∧ l' % 4294967296 = l % 4294967296 ∧ -2000000000000 ≤ h' ∧ h' ≤ 1000000000000 ∧ -1000000000000 ≤ l' ∧ l' ≤ 1000000000000) (fun _ b => (- intOf b).toNat)
  case atStart => exact ⟨h, l, rfl, rfl, rfl, rfl, by omega, h2, l1, l2⟩
  case round =>
    obtain ⟨h', l', rfl, rfl, e1, e2, b1, b2, b3, b4⟩ := hrel
    have b5 : -1500000000000 ≤ h' := by omega
    have E1 := hide (And.intro e1 e2)
    clear e1 e2
    by_cases hl : l' < 0
    · go_wp2
      go_round
      case rel =>
        obtain ⟨e1, e2⟩ := E1.out
        refine ⟨h' - 1, l' + 4294967296, rfl, rfl, by omega, by omega, by omega, by omega, by omega, by omega⟩
      case measure => simp [intOf]; omega
    · have hl0 : 0 ≤ l' := by omega
      go_wp2
      obtain ⟨e1, e2⟩ := E1.out
      refine bodyPost_ret (v := .agg #[.int .i64 (h' + l' / 4294967296), .int .i64 (l' % 4294967296)]) (by simp [results, Tryz.results112, go_sem]) rfl ⟨by rw [e1, e2], ?_⟩
      exact (Below.refl _ _).alloc (Nat.le_refl _) _

theorem of_parts (n : Int) : (n - n.tmod 4294967296).tdiv 4294967296 + (n.tmod 4294967296) / 4294967296 = n / 4294967296 ∧ (n.tmod 4294967296) % 4294967296 = n % 4294967296 ∧ -4294967296 < n.tmod 4294967296 ∧ n.tmod 4294967296 < 4294967296 := by
  by_cases hn : 0 ≤ n
  · rw [Int.tmod_eq_emod_of_nonneg hn, Int.tdiv_eq_ediv_of_nonneg (by omega)]
    omega
  · obtain ⟨m, rfl⟩ : ∃ m : Int, n = -m := ⟨-n, by omega⟩
    rw [Int.neg_tmod, Int.tmod_eq_emod_of_nonneg (by omega), show -m - -(m % 4294967296) = -(m - m % 4294967296) by omega, Int.neg_tdiv, Int.tdiv_eq_ediv_of_nonneg (by omega)]
    omega

set_option maxHeartbeats 800000 in
theorem wOf_any (n : Int) (w : World) (h1 : -9223372036854775808 ≤ n) (h2 : n ≤ 9223372036854775807) :
    Calls Tryz.prog 89 #[.int .i64 n] w fun e w' => e = .returned (.agg #[.int .i64 (n / 4294967296), .int .i64 (n % 4294967296)]) ∧ Below w.heap.size w w' := by
  obtain ⟨p1, p2, p3, p4⟩ := of_parts n
  have q1 : -9223372036854775808 ≤ n - n.tmod 4294967296 ∧ n - n.tmod 4294967296 ≤ 9223372036854775807 := by
    by_cases hn : 0 ≤ n
    · rw [Int.tmod_eq_emod_of_nonneg hn]; omega
    · obtain ⟨m, rfl⟩ : ∃ m : Int, n = -m := ⟨-n, by omega⟩
      rw [Int.neg_tmod, Int.tmod_eq_emod_of_nonneg (by omega)]; omega
  obtain ⟨q1, q2⟩ := q1
  have q3 : -1000000000000 ≤ (n - n.tmod 4294967296).tdiv 4294967296 ∧ (n - n.tmod 4294967296).tdiv 4294967296 ≤ 1000000000000 := by omega
  have P := hide (And.intro p1 p2)
  clear p1 p2
  obtain ⟨q3, q4⟩ := q3
  go_enter Tryz.func89, Tryz.ntmps89
  go_wp2_with fail
  refine gen1 (R := fun W => Calls Tryz.prog 112 _ W _) ?_
  intro W k hb hz
  refine (norm_any _ _ _ (by omega) (by omega) (by omega) (by omega)).mono ?_
  rintro e w1 ⟨rfl, hb1⟩
  obtain ⟨p1, p2⟩ := P.out
  rw [p1, p2]
  have k1 := Blk.via hb1 k
  have q0 := k1.cell
  have q5 := k1.frozen
  clear p1 p2 P q1 q2 q3 q4 p3 p4
  go_wp2
  refine bodyPost_ret (v := .agg #[.int .i64 (n / 4294967296), .int .i64 (n % 4294967296)]) (by simp [results, Tryz.results89, go_sem, q0]) rfl ⟨rfl, ?_⟩
  exact (((below_via hb hb1 (by omega)).setCell (p := ⟨w.heap.size, 0, none⟩) (Nat.le_refl _) _).setCell (p := ⟨w.heap.size, 1, none⟩) (Nat.le_refl _) _)

set_option maxHeartbeats 1600000 in
theorem wJoin_any (a b : Int) (w : World) (a1 : -100000000000000000000 ≤ a) (a2 : a ≤ 100000000000000000000) (b1 : -100000000000000000000 ≤ b) (b2 : b ≤ 100000000000000000000) :
    Calls Tryz.prog 88 #[.agg #[.int .i64 (a / 4294967296), .int .i64 (a % 4294967296)], .agg #[.int .i64 (b / 4294967296), .int .i64 (b % 4294967296)]] w fun e w' =>
      e = .returned (.agg #[.int .i64 ((a + b) / 4294967296), .int .i64 ((a + b) % 4294967296)]) ∧ Below w.heap.size w w' := by
  have P : Hid ((a / 4294967296 + b / 4294967296) + (a % 4294967296 + b % 4294967296) / 4294967296 = (a + b) / 4294967296 ∧ (a % 4294967296 + b % 4294967296) % 4294967296 = (a + b) % 4294967296) := hide (by omega)
  have r1 : -30000000000 ≤ a / 4294967296 := by omega
  have r2 : a / 4294967296 ≤ 30000000000 := by omega
  have r3 : -30000000000 ≤ b / 4294967296 := by omega
  have r4 : b / 4294967296 ≤ 30000000000 := by omega
  have r5 : 0 ≤ a % 4294967296 := by omega
  have r6 : a % 4294967296 < 4294967296 := by omega
  have r7 : 0 ≤ b % 4294967296 := by omega
  have r8 : b % 4294967296 < 4294967296 := by omega
  clear a1 a2 b1 b2
  generalize (a + b) / 4294967296 = rh at *
  generalize (a + b) % 4294967296 = rl at *
  generalize a / 4294967296 = ah at *
  generalize b / 4294967296 = bh at *
  generalize a % 4294967296 = al at *
  generalize b % 4294967296 = bl at *
  go_enter Tryz.func88, Tryz.ntmps88
  go_wp2_with fail
  refine gen3 (R := fun W => Calls Tryz.prog 112 _ W _) ?_
  intro W k1 k2 hb hz
  refine (norm_any _ _ _ (by omega) (by omega) (by omega) (by omega)).mono ?_
  rintro e w1 ⟨rfl, hb1⟩
  obtain ⟨e1, e2⟩ := P.out
  rw [e1, e2]
  have k3 := Blk.via hb1 k2
  have q0 := k3.cell
  have q1 := k3.frozen
  clear e1 e2 P
  go_wp2
  refine bodyPost_ret (v := .agg #[.int .i64 rh, .int .i64 rl]) (by simp [results, Tryz.results88, go_sem, q0]) rfl ⟨rfl, ?_⟩
  exact (((below_via hb hb1 (by omega)).setCell (p := ⟨w.heap.size + 2, 0, none⟩) (by simp) _).setCell (p := ⟨w.heap.size + 2, 1, none⟩) (by simp) _)

set_option maxHeartbeats 1600000 in
theorem wTake_any (a b : Int) (w : World) (a1 : -100000000000000000000 ≤ a) (a2 : a ≤ 100000000000000000000) (b1 : -100000000000000000000 ≤ b) (b2 : b ≤ 100000000000000000000) :
    Calls Tryz.prog 90 #[.agg #[.int .i64 (a / 4294967296), .int .i64 (a % 4294967296)], .agg #[.int .i64 (b / 4294967296), .int .i64 (b % 4294967296)]] w fun e w' =>
      e = .returned (.agg #[.int .i64 ((a - b) / 4294967296), .int .i64 ((a - b) % 4294967296)]) ∧ Below w.heap.size w w' := by
  have P : Hid ((a / 4294967296 - b / 4294967296) + (a % 4294967296 - b % 4294967296) / 4294967296 = (a - b) / 4294967296 ∧ (a % 4294967296 - b % 4294967296) % 4294967296 = (a - b) % 4294967296) := hide (by omega)
  have r1 : -30000000000 ≤ a / 4294967296 := by omega
  have r2 : a / 4294967296 ≤ 30000000000 := by omega
  have r3 : -30000000000 ≤ b / 4294967296 := by omega
  have r4 : b / 4294967296 ≤ 30000000000 := by omega
  have r5 : 0 ≤ a % 4294967296 := by omega
  have r6 : a % 4294967296 < 4294967296 := by omega
  have r7 : 0 ≤ b % 4294967296 := by omega
  have r8 : b % 4294967296 < 4294967296 := by omega
  clear a1 a2 b1 b2
  generalize (a - b) / 4294967296 = rh at *
  generalize (a - b) % 4294967296 = rl at *
  generalize a / 4294967296 = ah at *
  generalize b / 4294967296 = bh at *
  generalize a % 4294967296 = al at *
  generalize b % 4294967296 = bl at *
  go_enter Tryz.func90, Tryz.ntmps90
  go_wp2_with fail
  refine gen3 (R := fun W => Calls Tryz.prog 112 _ W _) ?_
  intro W k1 k2 hb hz
  refine (norm_any _ _ _ (by omega) (by omega) (by omega) (by omega)).mono ?_
  rintro e w1 ⟨rfl, hb1⟩
  obtain ⟨e1, e2⟩ := P.out
  rw [e1, e2]
  have k3 := Blk.via hb1 k2
  have q0 := k3.cell
  have q1 := k3.frozen
  clear e1 e2 P
  go_wp2
  refine bodyPost_ret (v := .agg #[.int .i64 rh, .int .i64 rl]) (by simp [results, Tryz.results90, go_sem, q0]) rfl ⟨rfl, ?_⟩
  exact (((below_via hb hb1 (by omega)).setCell (p := ⟨w.heap.size + 2, 0, none⟩) (by simp) _).setCell (p := ⟨w.heap.size + 2, 1, none⟩) (by simp) _)

set_option maxHeartbeats 1600000 in
theorem wLess_any (a b : Int) (w : World) :
    Calls Tryz.prog 91 #[.agg #[.int .i64 (a / 4294967296), .int .i64 (a % 4294967296)], .agg #[.int .i64 (b / 4294967296), .int .i64 (b % 4294967296)]] w fun e w' =>
      e = .returned (.bool (decide (a < b))) ∧ Below w.heap.size w w' := by
  have hb2 := fun o1 o2 => below2 w o1 o2
  by_cases h1 : a / 4294967296 < b / 4294967296
  · have hr : decide (a < b) = true := by simp; omega
    rw [hr]
    go_enter Tryz.func91, Tryz.ntmps91
    go_wp2
    go_ret
    exact ⟨rfl, hb2 _ _⟩
  · by_cases h2 : a / 4294967296 = b / 4294967296
    · by_cases h3 : a % 4294967296 < b % 4294967296
      · have hr : decide (a < b) = true := by simp; omega
        rw [hr]
        have h4 : ((a / 4294967296) == (b / 4294967296)) = true := by simpa using h2
        clear h2
        go_enter Tryz.func91, Tryz.ntmps91
        go_wp2
        go_ret
        exact ⟨rfl, hb2 _ _⟩
      · have hr : decide (a < b) = false := by simp; omega
        rw [hr]
        have h4 : ((a / 4294967296) == (b / 4294967296)) = true := by simpa using h2
        clear h2
        go_enter Tryz.func91, Tryz.ntmps91
        go_wp2
        go_ret
        exact ⟨rfl, hb2 _ _⟩
    · have hr : decide (a < b) = false := by simp; omega
      rw [hr]
      have h4 : ((a / 4294967296) == (b / 4294967296)) = false := by simpa using h2
      clear h2
      go_enter Tryz.func91, Tryz.ntmps91
      go_wp2
      go_ret
      exact ⟨rfl, hb2 _ _⟩

set_option maxHeartbeats 1600000 in
theorem wInt_any (a : Int) (w : World) (h1 : -9223372036854775808 ≤ a) (h2 : a ≤ 9223372036854775807) :
    Calls Tryz.prog 92 #[.agg #[.int .i64 (a / 4294967296), .int .i64 (a % 4294967296)]] w fun e w' => e = .returned (.tuple #[.int .i64 a, .bool true]) ∧ Below w.heap.size w w' := by
  have r1 : ¬ a / 4294967296 < -2147483648 := by omega
  have r2 : ¬ 2147483647 < a / 4294967296 := by omega
  have r3 : a / 4294967296 * 4294967296 + a % 4294967296 = a := by omega
  have r5 : 0 ≤ a % 4294967296 := by omega
  have r6 : a % 4294967296 < 4294967296 := by omega
  have P := hide r3
  clear r3
  generalize a / 4294967296 = ah at *
  generalize a % 4294967296 = al at *
  have r7 : -9223372036854775808 ≤ ah * 4294967296 + al := by rw [P.out]; exact h1
  have r8 : ah * 4294967296 + al ≤ 9223372036854775807 := by rw [P.out]; exact h2
  go_enter Tryz.func92, Tryz.ntmps92
  go_wp2
  go_ret2
  exact ⟨by rw [← P.out]; rfl, (Below.refl _ _).alloc (Nat.le_refl _) _⟩
end Go.Proofs.YteidmdnhkgcnoaaGreat
