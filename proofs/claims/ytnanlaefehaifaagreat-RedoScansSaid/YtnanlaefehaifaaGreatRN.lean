/-
  WALKS OF THE LIBRARY AT THIS PROGRAM: slices.Clone of bytes, numbers, runs, patches.
-/
import Derived.Test.YtnanlaefehaifaaGreatRJ
namespace Go.Proofs.YtnanlaefehaifaaGreat
open Go.RowKit

/-- A row of the call's own with those cells. -/
def OwnRow (w : World) (t : TypeId) (size n : Nat) (xs : List Value) (e : Ending) (w' : World) : Prop := ∃ A2 c2, e = .returned (.slice A2 n c2) ∧ w'.ownsRow w.heap.size t size (.slice A2 n c2) n xs ∧ Below w.heap.size w w'
theorem info_intR : (Tryz.prog.info? 3).map (fun i => (i.zero, i.size, i.bytes)) = some (some (.int .i64 0), 1, 8) := by kernel_rfl
theorem info_run : (Tryz.prog.info? 180).map (fun i => (i.zero, i.size, i.bytes)) = some (some (.agg #[.int .i64 0, .slice none 0 0]), 2, 32) := by kernel_rfl
theorem info_pat : (Tryz.prog.info? 111).map (fun i => (i.zero, i.size, i.bytes)) = some (some (.agg #[.int .i64 0, .bool false, .slice none 0 0]), 3, 40) := by kernel_rfl
set_option maxHeartbeats 1600000 in
set_option maxRecDepth 100000 in
theorem cloneB_any (A : Option Addr) (n c : Nat) (xs : List Value) (B : Nat) (w : World) (hB : B ≤ w.heap.size) (hn : n ≤ 10000000) (h : Reads w B 1 A n xs) (hc : A = none → c = 0) (h1 : ∀ u ∈ xs, u.oneCell' = true) :
    Calls Tryz.prog 108 #[.slice A n c] w (OwnRow w 5 1 n xs) := by
  obtain ⟨i0, hi, hz0, hz1, hz2⟩ := info_parts info_u8R
  cases A with
  | none =>
    obtain rfl : c = 0 := hc rfl
    obtain rfl : n = 0 := by
      rcases Nat.eq_zero_or_pos n with h0 | h0
      · exact h0
      · obtain ⟨ad, ha, _⟩ := h.2 h0
        cases ha
    have HE := hide (show xs = [] from List.eq_nil_of_length_eq_zero (by rw [h.1, Nat.zero_mul]))
    clear h hc hi hz0 hz1 hz2 h1
    have hq := fun w : World => Lib.run_eql_slice_nil (P := Tryz.prog) w 33 5 none 0 0 0 0 Tryz.underlying33
    go_enter Tryz.func108, Tryz.ntmps108
    go_wp2
    go_ret
    refine ⟨none, 0, rfl, ?_, Below.refl _ _⟩
    rw [HE.out]
    exact World.ownsRow_nil _ _ _ _
  | some ad =>
    have HR := hide h
    have HO := hide h1
    clear h hc h1
    have hq := fun w : World => Lib.run_eql_slice_nil (P := Tryz.prog) w 33 5 (some ad) n c 0 0 Tryz.underlying33
    go_enter Tryz.func108, Tryz.ntmps108
    go_wp2_with (at_builtin; refine heldG ?_)
    refine unheldG ?_
    at_builtin
    refine wpList_append_any _ rfl _ _ _ rfl w.heap.size 5 i0 _ 1 1 Tryz.underlying33 hi hz0 hz1 hz2 rfl (by omega) _ 0 [] rfl (World.ownsRow_made w #[] 0 (Nat.le_refl _) (Nat.zero_le _) rfl) B (some ad) n c xs rfl (HR.out.alloc hB _) HO.out (by unfold maxLen; omega) (by omega) (by simp) ?_
    intro v' w1 hown hg _
    have hb1 : Below w.heap.size w w1 := ((Below.refl _ _).alloc (Nat.le_refl _) _).grown hg (by simp) (fun k hk => by cases hk; exact Nat.le_refl _)
    simp only [Nat.zero_add, List.nil_append] at hown
    obtain ⟨A2, c2, rfl, _⟩ := own_slice hown
    have HO := hide hown
    clear hown hg
    go_wp2
    go_ret
    exact ⟨A2, c2, rfl, HO.out, hb1⟩
set_option maxHeartbeats 1600000 in
set_option maxRecDepth 100000 in
theorem cloneI_any (A : Option Addr) (n c : Nat) (xs : List Value) (B : Nat) (w : World) (hB : B ≤ w.heap.size) (hn : n ≤ 10000000) (h : Reads w B 1 A n xs) (hc : A = none → c = 0) (h1 : ∀ u ∈ xs, u.oneCell' = true) :
    Calls Tryz.prog 124 #[.slice A n c] w (OwnRow w 3 1 n xs) := by
  obtain ⟨i0, hi, hz0, hz1, hz2⟩ := info_parts info_intR
  cases A with
  | none =>
    obtain rfl : c = 0 := hc rfl
    obtain rfl : n = 0 := by
      rcases Nat.eq_zero_or_pos n with h0 | h0
      · exact h0
      · obtain ⟨ad, ha, _⟩ := h.2 h0
        cases ha
    have HE := hide (show xs = [] from List.eq_nil_of_length_eq_zero (by rw [h.1, Nat.zero_mul]))
    clear h hc hi hz0 hz1 hz2 h1
    have hq := fun w : World => Lib.run_eql_slice_nil (P := Tryz.prog) w 30 3 none 0 0 0 0 Tryz.underlying30
    go_enter Tryz.func124, Tryz.ntmps124
    go_wp2
    go_ret
    refine ⟨none, 0, rfl, ?_, Below.refl _ _⟩
    rw [HE.out]
    exact World.ownsRow_nil _ _ _ _
  | some ad =>
    have HR := hide h
    have HO := hide h1
    clear h hc h1
    have hq := fun w : World => Lib.run_eql_slice_nil (P := Tryz.prog) w 30 3 (some ad) n c 0 0 Tryz.underlying30
    go_enter Tryz.func124, Tryz.ntmps124
    go_wp2_with (at_builtin; refine heldG ?_)
    refine unheldG ?_
    at_builtin
    refine wpList_append_any _ rfl _ _ _ rfl w.heap.size 3 i0 _ 1 8 Tryz.underlying30 hi hz0 hz1 hz2 rfl (by omega) _ 0 [] rfl (World.ownsRow_made w #[] 0 (Nat.le_refl _) (Nat.zero_le _) rfl) B (some ad) n c xs rfl (HR.out.alloc hB _) HO.out (by unfold maxLen; omega) (by omega) (by simp) ?_
    intro v' w1 hown hg _
    have hb1 : Below w.heap.size w w1 := ((Below.refl _ _).alloc (Nat.le_refl _) _).grown hg (by simp) (fun k hk => by cases hk; exact Nat.le_refl _)
    simp only [Nat.zero_add, List.nil_append] at hown
    obtain ⟨A2, c2, rfl, _⟩ := own_slice hown
    have HO := hide hown
    clear hown hg
    go_wp2
    go_ret
    exact ⟨A2, c2, rfl, HO.out, hb1⟩
set_option maxHeartbeats 1600000 in
set_option maxRecDepth 100000 in
theorem cloneR_any (A : Option Addr) (n c : Nat) (xs : List Value) (B : Nat) (w : World) (hB : B ≤ w.heap.size) (hn : n ≤ 10000000) (h : Reads w B 2 A n xs) (hc : A = none → c = 0) (h1 : ∀ u ∈ xs, u.oneCell' = true) :
    Calls Tryz.prog 121 #[.slice A n c] w (OwnRow w 180 2 n xs) := by
  obtain ⟨i0, hi, hz0, hz1, hz2⟩ := info_parts info_run
  cases A with
  | none =>
    obtain rfl : c = 0 := hc rfl
    obtain rfl : n = 0 := by
      rcases Nat.eq_zero_or_pos n with h0 | h0
      · exact h0
      · obtain ⟨ad, ha, _⟩ := h.2 h0
        cases ha
    have HE := hide (show xs = [] from List.eq_nil_of_length_eq_zero (by rw [h.1, Nat.zero_mul]))
    clear h hc hi hz0 hz1 hz2 h1
    have hq := fun w : World => Lib.run_eql_slice_nil (P := Tryz.prog) w 109 180 none 0 0 0 0 Tryz.underlying109
    go_enter Tryz.func121, Tryz.ntmps121
    go_wp2
    go_ret
    refine ⟨none, 0, rfl, ?_, Below.refl _ _⟩
    rw [HE.out]
    exact World.ownsRow_nil _ _ _ _
  | some ad =>
    have HR := hide h
    have HO := hide h1
    clear h hc h1
    have hq := fun w : World => Lib.run_eql_slice_nil (P := Tryz.prog) w 109 180 (some ad) n c 0 0 Tryz.underlying109
    go_enter Tryz.func121, Tryz.ntmps121
    go_wp2_with (at_builtin; refine heldG ?_)
    refine unheldG ?_
    at_builtin
    refine wpList_append_any _ rfl _ _ _ rfl w.heap.size 180 i0 _ 2 32 Tryz.underlying109 hi hz0 hz1 hz2 rfl (by omega) _ 0 [] rfl (World.ownsRow_made w #[] 0 (Nat.le_refl _) (Nat.zero_le _) rfl) B (some ad) n c xs rfl (HR.out.alloc hB _) HO.out (by unfold maxLen; omega) (by omega) (by simp) ?_
    intro v' w1 hown hg _
    have hb1 : Below w.heap.size w w1 := ((Below.refl _ _).alloc (Nat.le_refl _) _).grown hg (by simp) (fun k hk => by cases hk; exact Nat.le_refl _)
    simp only [Nat.zero_add, List.nil_append] at hown
    obtain ⟨A2, c2, rfl, _⟩ := own_slice hown
    have HO := hide hown
    clear hown hg
    go_wp2
    go_ret
    exact ⟨A2, c2, rfl, HO.out, hb1⟩
set_option maxHeartbeats 1600000 in
set_option maxRecDepth 100000 in
theorem cloneP_any (A : Option Addr) (n c : Nat) (xs : List Value) (B : Nat) (w : World) (hB : B ≤ w.heap.size) (hn : n ≤ 10000000) (h : Reads w B 3 A n xs) (hc : A = none → c = 0) (h1 : ∀ u ∈ xs, u.oneCell' = true) :
    Calls Tryz.prog 120 #[.slice A n c] w (OwnRow w 111 3 n xs) := by
  obtain ⟨i0, hi, hz0, hz1, hz2⟩ := info_parts info_pat
  cases A with
  | none =>
    obtain rfl : c = 0 := hc rfl
    obtain rfl : n = 0 := by
      rcases Nat.eq_zero_or_pos n with h0 | h0
      · exact h0
      · obtain ⟨ad, ha, _⟩ := h.2 h0
        cases ha
    have HE := hide (show xs = [] from List.eq_nil_of_length_eq_zero (by rw [h.1, Nat.zero_mul]))
    clear h hc hi hz0 hz1 hz2 h1
    have hq := fun w : World => Lib.run_eql_slice_nil (P := Tryz.prog) w 32 111 none 0 0 0 0 Tryz.underlying32
    go_enter Tryz.func120, Tryz.ntmps120
    go_wp2
    go_ret
    refine ⟨none, 0, rfl, ?_, Below.refl _ _⟩
    rw [HE.out]
    exact World.ownsRow_nil _ _ _ _
  | some ad =>
    have HR := hide h
    have HO := hide h1
    clear h hc h1
    have hq := fun w : World => Lib.run_eql_slice_nil (P := Tryz.prog) w 32 111 (some ad) n c 0 0 Tryz.underlying32
    go_enter Tryz.func120, Tryz.ntmps120
    go_wp2_with (at_builtin; refine heldG ?_)
    refine unheldG ?_
    at_builtin
    refine wpList_append_any _ rfl _ _ _ rfl w.heap.size 111 i0 _ 3 40 Tryz.underlying32 hi hz0 hz1 hz2 rfl (by omega) _ 0 [] rfl (World.ownsRow_made w #[] 0 (Nat.le_refl _) (Nat.zero_le _) rfl) B (some ad) n c xs rfl (HR.out.alloc hB _) HO.out (by unfold maxLen; omega) (by omega) (by simp) ?_
    intro v' w1 hown hg _
    have hb1 : Below w.heap.size w w1 := ((Below.refl _ _).alloc (Nat.le_refl _) _).grown hg (by simp) (fun k hk => by cases hk; exact Nat.le_refl _)
    simp only [Nat.zero_add, List.nil_append] at hown
    obtain ⟨A2, c2, rfl, _⟩ := own_slice hown
    have HO := hide hown
    clear hown hg
    go_wp2
    go_ret
    exact ⟨A2, c2, rfl, HO.out, hb1⟩
end Go.Proofs.YtnanlaefehaifaaGreat
