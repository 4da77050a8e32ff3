/-
  WALKS: moneyerref04.Right, moneyerref05.Right, moneyerref09.MuchState, Right.
-/
import Derived.Test.YteidmdnhkgcnoaaGreatProg
import Derived.Test.YteidmdnhkgcnoaaGreatMem
import Derived.Deep.QuietTactic
import Derived.BigQuiet
import Derived.Deep.RegionHeld3
import Derived.WalkSpells
namespace Go.Proofs.YteidmdnhkgcnoaaGreat
open Go.RowKit

theorem take_snoc_b (s : ByteArray) (k : Nat) (h : k < s.size) : s.data.toList.take (k + 1) = s.data.toList.take k ++ [s[k]] := by
  rw [List.take_succ_eq_append_getElem (by simpa using h)]; rfl

set_option maxHeartbeats 800000 in
theorem keyRight_any (s : ByteArray) (w : World) (hs : s.size ≤ 9223372036854775807) :
    Calls Tryz.prog 20 #[.string s] w fun e w' => e = .returned (.bool (goodKey s)) ∧ w' = w := by
  go_enter Tryz.func20, Tryz.ntmps20
  go_wp2
  go_loop [3] (fun i => ∃ k : Nat, k ≤ s.size ∧ i = .int .i64 k ∧ (s.data.toList.take k).all okByte = true) (fun i => s.size - (intOf i).toNat)
  case atStart => exact ⟨0, Nat.zero_le _, rfl, by simp⟩
  case round =>
    obtain ⟨k, hk, rfl, hall⟩ := hrel
    have HA := hide hall
    clear hall
    by_cases hlt : k < s.size
    · have hbad : ¬ (33 ≤ s[k].toNat ∧ s[k].toNat ≤ 126) → goodKey s = false := fun hn => by
        unfold goodKey
        have h1 : s.data.toList.all okByte = false := by
          rw [List.all_eq_false]
          refine ⟨s[k], ?_, by unfold okByte; simp only [decide_eq_true_eq]; exact hn⟩
          have : s[k] = s.data.toList[k]'(by simpa using hlt) := rfl
          rw [this]
          exact List.getElem_mem _
        rw [h1]
        rfl
      have HB := hide hbad
      clear hbad
      go_wp2
      · go_ret
        have h1 : (s[k].toNat : Int) < 33 ∨ 126 < (s[k].toNat : Int) := by assumption
        exact ⟨ret_bool (HB.out (by omega)).symm, rfl⟩
      · have h1 : 33 ≤ (s[k].toNat : Int) ∧ (s[k].toNat : Int) ≤ 126 := by assumption
        go_round
        case rel =>
          refine ⟨k + 1, by omega, by go_num, ?_⟩
          rw [take_snoc_b s k hlt, List.all_append, HA.out]
          simp only [List.all_cons, List.all_nil, Bool.and_true, Bool.true_and]
          unfold okByte
          simp only [decide_eq_true_eq]
          omega
        case measure => simp [intOf]; omega
      · go_ret
        have h1 : (s[k].toNat : Int) < 33 := by assumption
        exact ⟨ret_bool (HB.out (by omega)).symm, rfl⟩
    · have hend : s.data.toList.all okByte = true := by have := HA.out; rwa [List.take_of_length_le (by simp; omega)] at this
      have HE := hide hend
      clear hend
      by_cases hpos : (0 : Int) < s.size
      · go_wp2
        go_ret
        refine ⟨ret_bool ?_, rfl⟩
        unfold goodKey
        rw [HE.out, decide_eq_true (show 0 < s.size by omega)]
        simp
        omega
      · go_wp2
        go_ret
        refine ⟨ret_bool ?_, rfl⟩
        have h1 : ¬ 0 < s.size := by omega
        unfold goodKey
        rw [decide_eq_false h1]
        simp

set_option maxHeartbeats 1600000 in
theorem cellRight_any (d : CellD) (A : Option Addr) (n c : Nat) (w : World) (hn : n = d.data.length) :
    Calls Tryz.prog 21 #[.agg #[.int .i64 d.kind, .slice A n c, .int .i64 d.lo, .int .i64 d.hi, .int .i64 d.val]] w fun e w' => e = .returned (.bool (rightC d)) ∧ Below w.heap.size w w' := by
  have HN := hide hn
  clear hn
  go_enter Tryz.func21, Tryz.ntmps21
  go_wp2
  all_goals
    go_ret
    refine ⟨ret_bool ?_, (Below.refl _ _).alloc (Nat.le_refl _) _⟩
    have hn := HN.out
    clear HN
    unfold rightC
    simp_all <;> omega

/-- Is a state more than is asked in statements? -/
def muchS (xs : List PairV) : Bool := ((xs.take 100).any fun x => decide (300 < x.d.key.size) || decide (300 < x.d.cell.data.length)) || decide (60 < xs.length)
theorem take_any_snoc' {α : Type} (p : α → Bool) {l : List α} {k : Nat} {x : α} (h : l[k]? = some x) : (l.take (k + 1)).any p = ((l.take k).any p || p x) := by
  obtain ⟨hk, e⟩ := List.getElem?_eq_some_iff.1 h
  rw [List.take_succ_eq_append_getElem hk, List.any_append, e]
  simp

set_option maxHeartbeats 1600000 in
theorem MuchState_any (A : Option Addr) (n c : Nat) (xs : List PairV) (B : Nat) (w : World) (hn : n ≤ 9223372036854775807) (h : Pairs w B A n xs) :
    Calls Tryz.prog 4 #[.slice A n c] w fun e w' => e = .returned (.bool (muchS xs)) ∧ w' = w := by
  have HL := hide h.1
  go_enter Tryz.func4, Tryz.ntmps4
  go_wp2
  go_loop [3] (fun i => ∃ k : Nat, k ≤ n ∧ k ≤ 100 ∧ i = .int .i64 k ∧ (xs.take k).any (fun x => decide (300 < x.d.key.size) || decide (300 < x.d.cell.data.length)) = false) (fun i => n - (intOf i).toNat)
  case atStart => exact ⟨0, Nat.zero_le _, Nat.zero_le _, rfl, by simp⟩
  case round =>
    obtain ⟨k, hk, hk2, rfl, hany⟩ := hrel
    have HA := hide hany
    clear hany
    by_cases hlt : (k : Int) < n
    · by_cases hlt2 : (k : Int) < 100
      · obtain ⟨b, o, x, rfl, hb, hkx, hok, hc⟩ := h.at_ (show k < n by omega)
        obtain ⟨c0, c1, c2, c3, c4, c5⟩ := h.row hkx
        obtain ⟨⟨ky, cd⟩, cv⟩ := x
        obtain ⟨A2, n2, m2, rfl, _, _, hl2, _, hr2⟩ := hok
        dsimp only at *
        have HST : Hid (∀ v : Bool, v = (decide (300 < ky.size) || decide (300 < cd.data.length)) → (xs.take (k + 1)).any (fun x => decide (300 < x.d.key.size) || decide (300 < x.d.cell.data.length)) = v) := hide (fun v hv => by rw [take_any_snoc' _ hkx, HA.out, hv]; rfl)
        have HSUB : Hid ((xs.take (k + 1)).any (fun x => decide (300 < x.d.key.size) || decide (300 < x.d.cell.data.length)) = true → muchS xs = true) := hide (fun hm => by
          unfold muchS
          have hsub : (xs.take 100).any (fun x => decide (300 < x.d.key.size) || decide (300 < x.d.cell.data.length)) = true := by
            rw [List.any_eq_true] at hm ⊢
            obtain ⟨y, hy, hp⟩ := hm
            exact ⟨y, (List.take_subset_take_left xs (by omega)) hy, hp⟩
          rw [hsub]
          rfl)
        have HL2 := hide hl2
        clear hl2 hr2 hkx hc
        by_cases h1 : (300 : Int) < ky.size
        · go_wp2
          go_ret
          exact ⟨ret_bool (HSUB.out (HST.out true (by simp; omega))).symm, rfl⟩
        · by_cases h2 : (300 : Int) < n2
          · go_wp2
            go_ret
            exact ⟨ret_bool (HSUB.out (HST.out true (by have := HL2.out; simp; omega))).symm, rfl⟩
          · go_wp2
            go_round
            case rel => exact ⟨k + 1, by omega, by omega, by go_num, HST.out false (by have := HL2.out; simp; omega)⟩
            case measure => simp [intOf]; omega
      · go_wp2
        go_ret
        refine ⟨ret_bool ?_, rfl⟩
        obtain rfl : k = 100 := by omega
        have hl := HL.out
        unfold muchS
        rw [HA.out]
        simp
        omega
    · have hkn : k = n := by omega
      have HKN := hide hkn
      clear hkn
      go_wp2
      go_ret
      refine ⟨ret_bool ?_, rfl⟩
      have hl := HL.out
      have hkn := HKN.out
      have h1 : xs.take 100 = xs.take k := by rw [List.take_of_length_le (by omega), List.take_of_length_le (by omega)]
      unfold muchS
      rw [h1, HA.out]
      simp
      omega
end Go.Proofs.YteidmdnhkgcnoaaGreat
