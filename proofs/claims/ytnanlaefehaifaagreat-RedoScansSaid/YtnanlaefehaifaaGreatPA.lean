/-
  WALKS OF THE PROGRAM: key.seen, key.Check, model.Check, model.copyData, model.copyCell.
-/
import Derived.Test.YtnanlaefehaifaaGreatMA
import Derived.Test.YtnanlaefehaifaaGreatApp
import Derived.Laws.RangeAny
import Derived.Laws.RangeString
namespace Go.Proofs.YtnanlaefehaifaaGreat
open Go.RowKit

theorem seen_any (r : Nat) (b : Bool) (hb : decide (33 ≤ r ∧ r ≤ 126) = b) (w : World) :
    Calls Tryz.prog 248 #[.int .i32 (r : Int)] w fun e w' => e = .returned (.bool b) ∧ w' = w := by
  by_cases h1 : 33 ≤ r
  · by_cases h2 : r ≤ 126
    · obtain rfl : b = true := by rw [← hb]; simp [h1, h2]
      clear hb
      have g1 : (33 : Int) ≤ r := by omega
      have g2 : (r : Int) ≤ 126 := by omega
      go_enter Tryz.func248, Tryz.ntmps248
      go_wp2
      go_ret
      exact ⟨rfl, rfl⟩
    · obtain rfl : b = false := by rw [← hb]; simp [h2]
      clear hb
      have g1 : (33 : Int) ≤ r := by omega
      have g2 : ¬ (r : Int) ≤ 126 := by omega
      go_enter Tryz.func248, Tryz.ntmps248
      go_wp2
      go_ret
      exact ⟨rfl, rfl⟩
  · obtain rfl : b = false := by rw [← hb]; simp [h1]
    clear hb
    have g1 : ¬ (33 : Int) ≤ r := by omega
    go_enter Tryz.func248, Tryz.ntmps248
    go_wp2
    go_ret
    exact ⟨rfl, rfl⟩

/-- The error's number of a key. -/
def keyE (s : ByteArray) : Int := if goodKey s = true then 0 else 1
theorem keyE_bad {s : ByteArray} {k : Nat} (hlt : k < s.size) (h : okByte s[k] = false) : keyE s = 1 := by
  have h1 : s.data.toList.all okByte = false := by
    rw [List.all_eq_false]
    refine ⟨s[k], ?_, by rw [h]; exact Bool.false_ne_true⟩
    have : s[k] = s.data.toList[k]'(by simpa using hlt) := rfl
    rw [this]
    exact List.getElem_mem _
  unfold keyE goodKey
  rw [h1]
  rfl
theorem keyE_len {s : ByteArray} (h : ¬ (0 < s.size ∧ s.size ≤ 16)) : keyE s = 1 := by
  unfold keyE goodKey
  rw [if_neg]
  intro hh
  simp only [Bool.and_eq_true, decide_eq_true_eq] at hh
  exact h hh.2

set_option maxHeartbeats 1600000 in
set_option maxRecDepth 100000 in
theorem keyCheck_any (s : ByteArray) (w : World) (hs : s.size ≤ 9223372036854775807) :
    Calls Tryz.prog 222 #[.string s] w fun e w' => e = .returned (.int .i64 (keyE s)) ∧ Below w.heap.size w w' := by
  by_cases h1 : (s.size : Int) < 1
  · have HE := hide (keyE_len (s := s) (by omega))
    go_enter Tryz.func222, Tryz.ntmps222
    go_wp2
    go_ret
    exact ⟨ret_int HE.out.symm, Below.refl _ _⟩
  · by_cases h2 : (16 : Int) < s.size
    · have HE := hide (keyE_len (s := s) (by omega))
      go_enter Tryz.func222, Tryz.ntmps222
      go_wp2
      go_ret
      exact ⟨ret_int HE.out.symm, Below.refl _ _⟩
    · go_enter Tryz.func222, Tryz.ntmps222
      go_wp2
      go_loopw [4] (fun _ wr => ∃ pos : Nat, pos ≤ s.size ∧ wr = w.iter s pos ∧ (s.data.toList.take pos).all okByte = true) (fun _ wr => s.size - wr.iterPos w.heap.size)
      case atStart => exact ⟨0, Nat.zero_le _, rfl, by simp⟩
      case round =>
        obtain ⟨pos, hpos, rfl, hall⟩ := hrel
        have HA := hide hall
        clear hall
        by_cases hp : pos < s.size
        · by_cases ha : (s[pos]'hp).toNat < 128
          · have hnx : ∀ ty, (Instr.next (.pointer (some ⟨w.heap.size, 0, none⟩)) true ty).run Tryz.prog (w.iter s pos) = _ := fun ty => run_next_ascii w s pos ty hp ha
            cases hok : okByte s[pos]
            · have HE := hide (keyE_bad hp hok)
              have HS := hide (fun W => seen_any (s[pos]'hp).toNat false hok W)
              clear hok
              go_wp2_with (go_at_call 248; refine (HS.out _).mono ?_; rintro e w' ⟨rfl, rfl⟩)
              go_ret
              exact ⟨ret_int HE.out.symm, (Below.refl _ _).alloc (Nat.le_refl _) _⟩
            · have HS := hide (fun W => seen_any (s[pos]'hp).toNat true hok W)
              have HO := hide hok
              clear hok
              go_wp2_with (go_at_call 248; refine (HS.out _).mono ?_; rintro e w' ⟨rfl, rfl⟩)
              go_roundw
              case rel =>
                refine ⟨pos + 1, by omega, rfl, ?_⟩
                rw [take_snoc_b s pos hp, List.all_append, HA.out]
                simp [HO.out]
              case measure => simp; omega
          · have hnx : ∀ ty, (Instr.next (.pointer (some ⟨w.heap.size, 0, none⟩)) true ty).run Tryz.prog (w.iter s pos) = _ := fun ty => run_next_any w s pos ty hp
            have hdh := decode_high s pos hp (by omega)
            have HS := hide (fun W => seen_any (Utf8.decode s pos).1 false (by simp; omega) W)
            have HE := hide (keyE_bad hp (by unfold okByte; simp; omega))
            clear hdh
            go_wp2_with (go_at_call 248; refine (HS.out _).mono ?_; rintro e w' ⟨rfl, rfl⟩)
            go_ret
            exact ⟨ret_int HE.out.symm, (Below.refl _ _).alloc (Nat.le_refl _) _⟩
        · have hnx : ∀ ty, (Instr.next (.pointer (some ⟨w.heap.size, 0, none⟩)) true ty).run Tryz.prog (w.iter s pos) = _ := fun ty => run_next_end w s pos ty hp
          go_wp2
          go_ret
          refine ⟨ret_int (Eq.symm ?_), (Below.refl _ _).alloc (Nat.le_refl _) _⟩
          have hall := HA.out
          rw [List.take_of_length_le (by simp; omega)] at hall
          unfold keyE goodKey
          rw [hall, if_pos]
          simp
          omega

/-- The error's number of an operation. -/
def opE (x : OpD) : Int := if goodOp x = true then 0 else 1


end Go.Proofs.YtnanlaefehaifaaGreat
