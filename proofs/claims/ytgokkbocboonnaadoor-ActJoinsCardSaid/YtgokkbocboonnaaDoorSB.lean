/-
  WALK: moneyerref31.Num.
-/
import Derived.Test.YtgokkbocboonnaaDoorSA
namespace Go.Proofs.YtgokkbocboonnaaDoor
open Go.RowKit Go.Lib

/-- What is left of a number, and the digits so far. -/
def DigInv (m u : Nat) (l : List UInt8) : Prop := (l = [] ∧ u = m) ∨ (l ≠ [] ∧ (0 < u → Lib.decDigits m = Lib.decDigits u ++ l) ∧ (u = 0 → Lib.decDigits m = l))
theorem decDigits_len {m : Nat} (h : m ≤ 9223372036854775808) : (Lib.decDigits m).length ≤ 20 := by
  rw [Lib.decDigits_length]
  exact Lib.nDigits_le20 m (by omega)
theorem DigInv.size {m u : Nat} {l : List UInt8} (h : DigInv m u l) (hm : m ≤ 9223372036854775808) : l.length ≤ 20 := by
  have h1 := decDigits_len hm
  rcases h with ⟨rfl, _⟩ | ⟨_, h2, h3⟩
  · simp
  · by_cases hu : 0 < u
    · rw [h2 hu, List.length_append] at h1
      omega
    · rw [h3 (by omega)] at h1
      exact h1
theorem DigInv.step {m u : Nat} {l : List UInt8} (h : DigInv m u l) (hu : 0 < u ∨ l = []) : DigInv m (u / 10) (UInt8.ofNat (48 + u % 10) :: l) := by
  have hd : Lib.decDigits m = Lib.decDigits u ++ l := by
    rcases h with ⟨rfl, rfl⟩ | ⟨hl, h2, _⟩
    · simp
    · rcases hu with hu | hu
      · exact h2 hu
      · exact absurd hu hl
  refine .inr ⟨by simp, fun h10 => ?_, fun h10 => ?_⟩
  · rw [hd, Lib.decDigits.eq_def u, dif_neg (by omega)]
    simp
  · rw [hd, Lib.decDigits.eq_def u, dif_pos (by omega), Nat.mod_eq_of_lt (by omega)]
    simp
theorem digit_at (k : Nat) (h : k < 10) : ((⟨#[48, 49, 50, 51, 52, 53, 54, 55, 56, 57]⟩ : ByteArray).extract k (k + 1)).data.toList = [UInt8.ofNat (48 + k)] := by
  rcases (show k = 0 ∨ k = 1 ∨ k = 2 ∨ k = 3 ∨ k = 4 ∨ k = 5 ∨ k = 6 ∨ k = 7 ∨ k = 8 ∨ k = 9 by omega) with rfl | rfl | rfl | rfl | rfl | rfl | rfl | rfl | rfl | rfl <;> rfl
theorem digInv_end {m : Nat} {l : List UInt8} (h : DigInv m 0 l) (hl : l ≠ []) : Lib.decDigits m = l := by
  rcases h with ⟨h, _⟩ | ⟨_, _, h⟩
  · exact absurd h hl
  · exact h rfl
theorem size_pos_of {l : ByteArray} (h : l.data.toList ≠ []) : 0 < l.size := by
  have : l.size = l.data.toList.length := (Array.length_toList (xs := l.data)).symm
  rw [this]
  exact List.length_pos_iff.2 h
theorem num_step {m a : Nat} {l : ByteArray} (hm : m ≤ 9223372036854775808) (h : DigInv m a l.data.toList) (hu : 0 < a ∨ l.data.toList = []) :
    DigInv m (a / 10) ((⟨#[48, 49, 50, 51, 52, 53, 54, 55, 56, 57]⟩ : ByteArray).extract (a % 10) (a % 10 + 1) ++ l).data.toList ∧ ((⟨#[48, 49, 50, 51, 52, 53, 54, 55, 56, 57]⟩ : ByteArray).extract (a % 10) (a % 10 + 1) ++ l).size ≤ 20 ∧ 0 < ((⟨#[48, 49, 50, 51, 52, 53, 54, 55, 56, 57]⟩ : ByteArray).extract (a % 10) (a % 10 + 1) ++ l).size := by
  have e : ((⟨#[48, 49, 50, 51, 52, 53, 54, 55, 56, 57]⟩ : ByteArray).extract (a % 10) (a % 10 + 1) ++ l).data.toList = UInt8.ofNat (48 + a % 10) :: l.data.toList := by
    rw [ByteArray.data_append, Array.toList_append, digit_at _ (Nat.mod_lt _ (by omega))]
    rfl
  have h1 := h.step hu
  rw [← e] at h1
  have h2 := h1.size hm
  have h3 : ∀ s : ByteArray, s.size = s.data.toList.length := fun s => (Array.length_toList (xs := s.data)).symm
  refine ⟨h1, by rw [h3]; exact h2, size_pos_of (by rw [e]; simp)⟩
def NumRel (m : Nat) (u s : Value) : Prop := ∃ (a : Nat) (l : ByteArray), a ≤ 9223372036854775808 ∧ u = .int .u64 a ∧ s = .string l ∧ l.size ≤ 20 ∧ Hid (DigInv m a l.data.toList)
def numMeas (u s : Value) : Nat := match u, s with | .int _ n, .string l => 2 * n.toNat + (if l.size = 0 then 1 else 0) | _, _ => 0
theorem numMeas_mk (k : IntKind) (a : Nat) (l : ByteArray) : numMeas (.int k a) (.string l) = 2 * a + (if l.size = 0 then 1 else 0) := rfl
theorem numMeas_mk' (k : IntKind) (a : Int) (l : ByteArray) : numMeas (.int k a) (.string l) = 2 * a.toNat + (if l.size = 0 then 1 else 0) := rfl
theorem num_neg {m : Nat} (h : m ≤ 9223372036854775808) : Value.int .u64 (IntKind.u64.wrap (-IntKind.u64.wrap (-(m : Int)))) = .int .u64 (m : Int) := by
  congr 1
  rw [IntKind.wrap_u64, IntKind.wrap_u64]
  omega
set_option maxHeartbeats 1600000 in
theorem Num_any (n : Int) (w : World) (h0 : -9223372036854775808 ≤ n) (h1 : n ≤ 9223372036854775807) :
    Calls Tryd.prog 25 #[.int .i64 n] w fun e w' => e = .returned (.string (tx (Lib.itoa n))) ∧ w' = w := by
  by_cases hneg : n < 0
  · obtain ⟨m, rfl⟩ : ∃ m : Nat, n = -m := ⟨n.natAbs, by omega⟩
    have HM := hide (show m ≤ 9223372036854775808 by omega)
    have HP := hide (show 0 < m by omega)
    go_enter Tryd.func25, Tryd.ntmps25
    go_wp2
    clear h0 h1
    go_loop [3, 5] (NumRel m) numMeas
    case atStart => exact ⟨m, ⟨#[]⟩, by have := HM.out; omega, by rw [num_neg HM.out], rfl, Nat.zero_le _, .inl ⟨rfl, rfl⟩⟩
    case round =>
      obtain ⟨a, l, ha, rfl, rfl, hls, HI⟩ := hrel
      by_cases hpos : (0 : Int) < a
      · go_wp2
        go_round
        case rel =>
          obtain ⟨h1, h2, _⟩ := num_step HM.out HI.out (.inl (by omega))
          exact ⟨a / 10, _, by omega, by go_num, rfl, h2, h1⟩
        case measure =>
          obtain ⟨_, _, h3⟩ := num_step HM.out HI.out (.inl (by omega))
          rw [numMeas_mk, numMeas_mk', if_neg (by omega)]
          omega
      · obtain rfl : a = 0 := by omega
        by_cases hl : l.data.toList = []
        · obtain rfl : l = ⟨#[]⟩ := by
            apply ByteArray.ext
            simpa using hl
          go_wp2
          go_round
          case rel =>
            obtain ⟨h1, h2, _⟩ := num_step HM.out HI.out (.inr rfl)
            exact ⟨0, _, by omega, by go_num, rfl, h2, h1⟩
          case measure => decide
        · have hne : l.toList.isEmpty = false := by rw [ByteArray.toList_eq]; cases hl' : l.data.toList with | nil => exact absurd hl' hl | cons _ _ => rfl
          have HE := hide (digInv_end HI.out hl)
          clear hl
          go_wp2
          go_ret
          refine ⟨ret_tx ?_, rfl⟩
          rw [Lib.itoa_neg m HP.out, HE.out]; simp
  · obtain ⟨m, rfl⟩ : ∃ m : Nat, n = m := ⟨n.toNat, by omega⟩
    go_enter Tryd.func25, Tryd.ntmps25
    go_wp2
    have HM := hide (show m ≤ 9223372036854775808 by omega)
    clear h0 h1
    go_loop [3, 5] (NumRel m) numMeas
    case atStart => exact ⟨m, ⟨#[]⟩, by have := HM.out; omega, rfl, rfl, Nat.zero_le _, .inl ⟨rfl, rfl⟩⟩
    case round =>
      obtain ⟨a, l, ha, rfl, rfl, hls, HI⟩ := hrel
      by_cases hpos : (0 : Int) < a
      · go_wp2
        go_round
        case rel =>
          obtain ⟨h1, h2, _⟩ := num_step HM.out HI.out (.inl (by omega))
          exact ⟨a / 10, _, by omega, by go_num, rfl, h2, h1⟩
        case measure =>
          obtain ⟨_, _, h3⟩ := num_step HM.out HI.out (.inl (by omega))
          rw [numMeas_mk, numMeas_mk', if_neg (by omega)]
          omega
      · obtain rfl : a = 0 := by omega
        by_cases hl : l.data.toList = []
        · obtain rfl : l = ⟨#[]⟩ := by
            apply ByteArray.ext
            simpa using hl
          go_wp2
          go_round
          case rel =>
            obtain ⟨h1, h2, _⟩ := num_step HM.out HI.out (.inr rfl)
            exact ⟨0, _, by omega, by go_num, rfl, h2, h1⟩
          case measure => decide
        · have hne : l.toList.isEmpty = false := by rw [ByteArray.toList_eq]; cases hl' : l.data.toList with | nil => exact absurd hl' hl | cons _ _ => rfl
          have HE := hide (digInv_end HI.out hl)
          clear hl
          go_wp2
          go_ret
          refine ⟨ret_tx ?_, rfl⟩
          rw [Lib.itoa_nonneg, HE.out]; simp
end Go.Proofs.YtgokkbocboonnaaDoor
