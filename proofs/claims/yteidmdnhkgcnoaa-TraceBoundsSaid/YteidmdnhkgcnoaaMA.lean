/-
  WALKS: moneyerref04.Right, moneyerref05.Right, moneyerref09.MuchState, Right.
-/
import Derived.Test.YteidmdnhkgcnoaaProg
import Derived.Test.YteidmdnhkgcnoaaMem
import Derived.Deep.QuietTactic
import Derived.BigQuiet
import Derived.Deep.RegionHeld3
import Derived.WalkSpells
namespace Go.Proofs.Yteidmdnhkgcnoaa
open Go.RowKit

theorem take_snoc_b (s : ByteArray) (k : Nat) (h : k < s.size) : s.data.toList.take (k + 1) = s.data.toList.take k ++ [s[k]] := by
  rw [List.take_succ_eq_append_getElem (by simpa using h)]; rfl

/-- Is a state more than is asked in statements? -/
def muchS (xs : List PairV) : Bool := ((xs.take 100).any fun x => decide (300 < x.d.key.size) || decide (300 < x.d.cell.data.length)) || decide (60 < xs.length)
theorem take_any_snoc' {α : Type} (p : α → Bool) {l : List α} {k : Nat} {x : α} (h : l[k]? = some x) : (l.take (k + 1)).any p = ((l.take k).any p || p x) := by
  obtain ⟨hk, e⟩ := List.getElem?_eq_some_iff.1 h
  rw [List.take_succ_eq_append_getElem hk, List.any_append, e]
  simp

set_option maxHeartbeats 1600000 in
theorem MuchState_any (A : Option Addr) (n c : Nat) (xs : List PairV) (B : Nat) (w : World) (hn : n ≤ 9223372036854775807) (h : Pairs w B A n xs) :
    Calls Try.prog 4 #[.slice A n c] w fun e w' => e = .returned (.bool (muchS xs)) ∧ w' = w := by
  have HL := hide h.1
  go_enter Try.func4, Try.ntmps4
  go_wp2
  go_loop [3] (fun i => ∃ k : Nat, k ≤ n ∧ k ≤ 100 ∧ i = .int .i64 k ∧ (xs.take k).any (fun x => decide (300 < x.d.key.size) || decide (300 < x.d.cell.data.length)) = false) (fun i => n - (intOf i).toNat)
  case atStart => exact ⟨0, Nat.zero_le _, Nat.zero_le _, rfl, by simp⟩
  case round =>
    obtain ⟨k, hk, hk2, rfl, hany⟩ := hrel
    have HA := hide hany
    clear hany
    by_cases hlt : (k : Int) < n
    · by_cases hlt2 : (k : Int) < 100
      · obtain ⟨b, o, x, rfl, hb, hkx, hok, hc⟩ := h.at_ (show k < n by omega)
        obtain ⟨c0, c1, c2, c3, c4, c5⟩ := h.row hkx
        obtain ⟨⟨ky, cd⟩, cv⟩ := x
        obtain ⟨A2, n2, m2, rfl, _, _, hl2, _, hr2⟩ := hok
        dsimp only at *
        have HST : Hid (∀ v : Bool, v = (decide (300 < ky.size) || decide (300 < cd.data.length)) → (xs.take (k + 1)).any (fun x => decide (300 < x.d.key.size) || decide (300 < x.d.cell.data.length)) = v) := hide (fun v hv => by rw [take_any_snoc' _ hkx, HA.out, hv]; rfl)
        have HSUB : Hid ((xs.take (k + 1)).any (fun x => decide (300 < x.d.key.size) || decide (300 < x.d.cell.data.length)) = true → muchS xs = true) := hide (fun hm => by
          unfold muchS
          have hsub : (xs.take 100).any (fun x => decide (300 < x.d.key.size) || decide (300 < x.d.cell.data.length)) = true := by
            rw [List.any_eq_true] at hm ⊢
            obtain ⟨y, hy, hp⟩ := hm
            exact ⟨y, (List.take_subset_take_left xs (by omega)) hy, hp⟩
          rw [hsub]
          rfl)
        have HL2 := hide hl2
        clear hl2 hr2 hkx hc
        by_cases h1 : (300 : Int) < ky.size
        · go_wp2
          go_ret
          exact ⟨ret_bool (HSUB.out (HST.out true (by simp; omega))).symm, rfl⟩
        · by_cases h2 : (300 : Int) < n2
          · go_wp2
            go_ret
            exact ⟨ret_bool (HSUB.out (HST.out true (by have := HL2.out; simp; omega))).symm, rfl⟩
          · go_wp2
            go_round
            case rel => exact ⟨k + 1, by omega, by omega, by go_num, HST.out false (by have := HL2.out; simp; omega)⟩
            case measure => simp [intOf]; omega
      · go_wp2
        go_ret
        refine ⟨ret_bool ?_, rfl⟩
        obtain rfl : k = 100 := by omega
        have hl := HL.out
        unfold muchS
        rw [HA.out]
        simp
        omega
    · have hkn : k = n := by omega
      have HKN := hide hkn
      clear hkn
      go_wp2
      go_ret
      refine ⟨ret_bool ?_, rfl⟩
      have hl := HL.out
      have hkn := HKN.out
      have h1 : xs.take 100 = xs.take k := by rw [List.take_of_length_le (by omega), List.take_of_length_le (by omega)]
      unfold muchS
      rw [h1, HA.out]
      simp
      omega
end Go.Proofs.Yteidmdnhkgcnoaa
