/-
  WALKS: moneyerref04.Right, moneyerref05.Right, moneyerref09.MuchState, Right.
-/
import Derived.Test.YtnanlaefehaifaaGreatProg
import Derived.Test.YtnanlaefehaifaaGreatMem
import Derived.Deep.QuietTactic
import Derived.BigQuiet
import Derived.Deep.RegionHeld3
import Derived.WalkSpells
namespace Go.Proofs.YtnanlaefehaifaaGreat
open Go.RowKit

theorem take_snoc_b (s : ByteArray) (k : Nat) (h : k < s.size) : s.data.toList.take (k + 1) = s.data.toList.take k ++ [s[k]] := by
  rw [List.take_succ_eq_append_getElem (by simpa using h)]; rfl

set_option maxHeartbeats 800000 in
theorem keyRight_any (s : ByteArray) (w : World) (hs : s.size ≤ 9223372036854775807) :
    Calls Tryz.prog 236 #[.string s] w fun e w' => e = .returned (.bool (goodKey s)) ∧ w' = w := by
  go_enter Tryz.func236, Tryz.ntmps236
  go_wp2
  go_loop [3] (fun i => ∃ k : Nat, k ≤ s.size ∧ i = .int .i64 k ∧ (s.data.toList.take k).all okByte = true) (fun i => s.size - (intOf i).toNat)
  case atStart => exact ⟨0, Nat.zero_le _, rfl, by simp⟩
  case round =>
    obtain ⟨k, hk, rfl, hall⟩ := hrel
    have HA := hide hall
    clear hall
    by_cases hlt : k < s.size
    · have hbad : ¬ (33 ≤ s[k].toNat ∧ s[k].toNat ≤ 126) → goodKey s = false := fun hn => by
        unfold goodKey
        have h1 : s.data.toList.all okByte = false := by
          rw [List.all_eq_false]
          refine ⟨s[k], ?_, by unfold okByte; simp only [decide_eq_true_eq]; exact hn⟩
          have : s[k] = s.data.toList[k]'(by simpa using hlt) := rfl
          rw [this]
          exact List.getElem_mem _
        rw [h1]
        rfl
      have HB := hide hbad
      clear hbad
      go_wp2
      · go_ret
        have h1 : (s[k].toNat : Int) < 33 ∨ 126 < (s[k].toNat : Int) := by assumption
        exact ⟨ret_bool (HB.out (by omega)).symm, rfl⟩
      · have h1 : 33 ≤ (s[k].toNat : Int) ∧ (s[k].toNat : Int) ≤ 126 := by assumption
        go_round
        case rel =>
          refine ⟨k + 1, by omega, by go_num, ?_⟩
          rw [take_snoc_b s k hlt, List.all_append, HA.out]
          simp only [List.all_cons, List.all_nil, Bool.and_true, Bool.true_and]
          unfold okByte
          simp only [decide_eq_true_eq]
          omega
        case measure => simp [intOf]; omega
      · go_ret
        have h1 : (s[k].toNat : Int) < 33 := by assumption
        exact ⟨ret_bool (HB.out (by omega)).symm, rfl⟩
    · have hend : s.data.toList.all okByte = true := by have := HA.out; rwa [List.take_of_length_le (by simp; omega)] at this
      have HE := hide hend
      clear hend
      by_cases hpos : (0 : Int) < s.size
      · go_wp2
        go_ret
        refine ⟨ret_bool ?_, rfl⟩
        unfold goodKey
        rw [HE.out, decide_eq_true (show 0 < s.size by omega)]
        simp
        omega
      · go_wp2
        go_ret
        refine ⟨ret_bool ?_, rfl⟩
        have h1 : ¬ 0 < s.size := by omega
        unfold goodKey
        rw [decide_eq_false h1]
        simp

set_option maxHeartbeats 1600000 in
theorem cellRight_any (d : CellD) (A : Option Addr) (n c : Nat) (w : World) (hn : n = d.data.length) :
    Calls Tryz.prog 237 #[.agg #[.int .i64 d.kind, .slice A n c, .int .i64 d.lo, .int .i64 d.hi, .int .i64 d.val]] w fun e w' => e = .returned (.bool (rightC d)) ∧ Below w.heap.size w w' := by
  have HN := hide hn
  clear hn
  go_enter Tryz.func237, Tryz.ntmps237
  go_wp2
  all_goals
    go_ret
    refine ⟨ret_bool ?_, (Below.refl _ _).alloc (Nat.le_refl _) _⟩
    have hn := HN.out
    clear HN
    unfold rightC
    simp_all <;> omega

/-- Is a state more than is asked in statements? -/
def muchS (xs : List PairV) : Bool := ((xs.take 100).any fun x => decide (300 < x.d.key.size) || decide (300 < x.d.cell.data.length)) || decide (60 < xs.length)
theorem take_any_snoc' {α : Type} (p : α → Bool) {l : List α} {k : Nat} {x : α} (h : l[k]? = some x) : (l.take (k + 1)).any p = ((l.take k).any p || p x) := by
  obtain ⟨hk, e⟩ := List.getElem?_eq_some_iff.1 h
  rw [List.take_succ_eq_append_getElem hk, List.any_append, e]
  simp

end Go.Proofs.YtnanlaefehaifaaGreat
