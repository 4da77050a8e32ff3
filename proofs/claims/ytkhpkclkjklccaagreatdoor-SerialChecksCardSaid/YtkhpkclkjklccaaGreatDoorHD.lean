/-
  WALKS: who was committed (serial, ref34), a number among numbers (ref33.In), what counts, two lists of numbers.
-/
import Derived.Test.YtkhpkclkjklccaaGreatDoorHC
import Derived.Test.YtkhpkclkjklccaaGreatDoorWJ
import Derived.BigQuiet
import Derived.Deep.QuietTactic
namespace Go.Proofs.YtkhpkclkjklccaaGreatDoor
open Go.RowKit

/-- P34.3: those whose commits were written. -/
def comL (xs : List EvV) : List Int := (xs.filter (fun x => x.d.act == 2)).map (fun x => x.d.txn)
theorem comL_yes {xs : List EvV} {k : Nat} {x : EvV} (h : xs[k]? = some x) (hq : (x.d.act == 2) = true) : comL (xs.take (k + 1)) = comL (xs.take k) ++ [x.d.txn] := by
  unfold comL
  rw [take_snoc1 h, List.filter_append]
  simp [hq]
theorem comL_no {xs : List EvV} {k : Nat} {x : EvV} (h : xs[k]? = some x) (hq : (x.d.act == 2) = false) : comL (xs.take (k + 1)) = comL (xs.take k) := by
  unfold comL
  rw [take_snoc1 h, List.filter_append]
  simp [hq]
theorem comL_len (xs : List EvV) : (comL xs).length ≤ xs.length := by
  unfold comL
  rw [List.length_map]
  exact List.length_filter_le _ _
theorem ints_one (l : List Int) : ∀ u ∈ l.map (Value.int .i64), u.oneCell' = true := by
  intro u hu
  obtain ⟨x, _, rfl⟩ := List.mem_map.1 hu
  rfl
/-- What a list of numbers of the call's own is. -/
def IntsPost (w : World) (l : List Int) (e : Ending) (w' : World) : Prop :=
  ∃ A c, e = .returned (.slice A l.length c) ∧ Ints w' w'.heap.size A l.length l ∧ Below w.heap.size w w'

set_option maxHeartbeats 1600000 in
theorem sCommitted_any (A : Option Addr) (m c : Nat) (xs : List EvV) (B : Nat) (w : World) (hB : B ≤ w.heap.size) (hm : m ≤ 1000000) (h : Evs w B A m xs) :
    Calls Tryz.prog 12 #[.slice A m c] w (IntsPost w (comL xs)) := by
  have HL := hide h.1
  obtain ⟨i0, hi, hz0, hz1, hz2⟩ := info_parts info_int
  go_enter Tryz.func12, Tryz.ntmps12
  go_wp2
  go_loopw [3, 8] (fun t i wr => ∃ k : Nat, k ≤ m ∧ i = .int .i64 k ∧ wr.ownsRow w.heap.size 3 1 t (comL (xs.take k)).length ((comL (xs.take k)).map (Value.int .i64)) ∧ Below w.heap.size w wr) (fun _ i _ => m - (intOf i).toNat)
  case atStart => exact ⟨0, Nat.zero_le _, rfl, World.ownsRow_nil _ _ _ _, Below.refl _ _⟩
  case round =>
    obtain ⟨k, hk, rfl, hown, hbw⟩ := hrel
    by_cases hlt : k < m
    · have hE := h.below hbw hB
      obtain ⟨b, o, x, rfl, hb, hkx, hok, _⟩ := hE.at_ hlt
      obtain ⟨c0, c1, c2, c3, c4, c5, c6, c7, c8, c9, c10, c11, c12, c13, c14⟩ := hE.row hkx
      have HK := hide hkx
      have hz := hbw.size
      obtain ⟨d, dv, cv⟩ := x
      obtain ⟨⟨A1, n1, m1, rfl, p1⟩, ⟨A2, n2, m2, rfl, p2⟩⟩ := hok
      dsimp only at *
      clear p1 p2 hkx hE
      have s1 : (k : Int) < m := by omega
      have s2 : (0 : Int) ≤ k := by omega
      have hbz : b < wr.heap.size := by omega
      have hlc : (comL (xs.take k)).length ≤ k := Nat.le_trans (comL_len _) (List.length_take_le _ _)
      cases t1 : ((d.act : Int) == 2)
      · go_wp2
        go_roundw
        case rel =>
          exact ⟨k + 1, by omega, by go_num, by rw [comL_no HK.out t1]; exact hown.alloc _, hbw.alloc hz _⟩
        case measure => simp [intOf]; omega
      · obtain ⟨A3, c3', rfl, hcap3, _⟩ := own_slice hown
        clear hcap3
        go_wp2_with (at_builtin; refine wpList_append_any _ rfl (.tmp 15) (.tmp 18) _ rfl w.heap.size 3 i0 _ 1 8 Tryz.underlying46 hi hz0 hz1 hz2 rfl (by omega) _ _ _ rfl ((hown.alloc _).alloc _) (wr.heap.size + 1 + 1) (some ⟨wr.heap.size + 1, 0, none⟩) 1 1 [.int .i64 d.txn] rfl ?c2 ?c3 ?c4 ?c5 ?c6 ?_)
        case c2 => simpa using Reads.of_blk (size := 1) (n := 1) (Blk.new (wr.alloc _) 3 #[.int .i64 d.txn]) rfl
        case c3 => exact ints_one [d.txn]
        case c4 => unfold maxLen; omega
        case c5 => omega
        case c6 => simp; omega
        intro v' w1 hown1 hg hat
        have hr0 := (World.ownsRow.lt hown)
        go_wp2
        go_roundw
        case rel =>
          refine ⟨k + 1, by omega, by go_num, ?_, ?_⟩
          · rw [comL_yes HK.out t1]
            simpa using hown1
          · exact (((hbw.alloc hz _).alloc (by simp; omega) _)).grown hg (by simp; omega) (fun q hq => (hr0 q hq).1)
        case measure => simp [intOf]; omega
    · obtain rfl : k = m := by omega
      rw [List.take_of_length_le (by have := HL.out; omega)] at hown
      obtain ⟨A3, c3', rfl, _, _, _, hR, _⟩ := own_slice hown
      go_wp2
      go_ret
      exact ⟨_, _, rfl, ⟨rfl, hR⟩, hbw⟩

set_option maxHeartbeats 1600000 in
theorem rCommitted_any (A : Option Addr) (m c : Nat) (xs : List EvV) (B : Nat) (w : World) (hB : B ≤ w.heap.size) (hm : m ≤ 1000000) (h : Evs w B A m xs) :
    Calls Tryz.prog 13 #[.slice A m c] w (IntsPost w (comL xs)) := by
  have HL := hide h.1
  obtain ⟨i0, hi, hz0, hz1, hz2⟩ := info_parts info_int
  go_enter Tryz.func13, Tryz.ntmps13
  go_wp2
  go_loopw [3, 4] (fun t i wr => ∃ k : Nat, k ≤ m ∧ i = .int .i64 k ∧ wr.ownsRow w.heap.size 3 1 t (comL (xs.take k)).length ((comL (xs.take k)).map (Value.int .i64)) ∧ Below w.heap.size w wr) (fun _ i _ => m - (intOf i).toNat)
  case atStart => exact ⟨0, Nat.zero_le _, rfl, World.ownsRow_nil _ _ _ _, Below.refl _ _⟩
  case round =>
    obtain ⟨k, hk, rfl, hown, hbw⟩ := hrel
    by_cases hlt : k < m
    · have hE := h.below hbw hB
      obtain ⟨b, o, x, rfl, hb, hkx, hok, _⟩ := hE.at_ hlt
      obtain ⟨c0, c1, c2, c3, c4, c5, c6, c7, c8, c9, c10, c11, c12, c13, c14⟩ := hE.row hkx
      have HK := hide hkx
      have hz := hbw.size
      obtain ⟨d, dv, cv⟩ := x
      dsimp only at *
      clear hkx hE hok c1 c3 c4 c5 c6 c7 c8 c9 c10 c11 c12 c13 c14
      have s1 : (k : Int) < m := by omega
      have s2 : (0 : Int) ≤ k := by omega
      have hbz : b < wr.heap.size := by omega
      have hlc : (comL (xs.take k)).length ≤ k := Nat.le_trans (comL_len _) (List.length_take_le _ _)
      cases t1 : ((d.act : Int) == 2)
      · go_wp2
        go_roundw
        case rel =>
          exact ⟨k + 1, by omega, by go_num, by rw [comL_no HK.out t1]; exact hown, hbw⟩
        case measure => simp [intOf]; omega
      · obtain ⟨A3, c3', rfl, hcap3, _⟩ := own_slice hown
        clear hcap3
        go_wp2_with (at_builtin; refine wpList_append_any _ rfl (.tmp 17) (.tmp 23) _ rfl w.heap.size 3 i0 _ 1 8 Tryz.underlying46 hi hz0 hz1 hz2 rfl (by omega) _ _ _ rfl (hown.alloc _) (wr.heap.size + 1) (some ⟨wr.heap.size, 0, none⟩) 1 1 [.int .i64 d.txn] rfl ?c2 ?c3 ?c4 ?c5 ?c6 ?_)
        case c2 => simpa using Reads.of_blk (size := 1) (n := 1) (Blk.new wr 3 #[.int .i64 d.txn]) rfl
        case c3 => exact ints_one [d.txn]
        case c4 => unfold maxLen; omega
        case c5 => omega
        case c6 => simp; omega
        intro v' w1 hown1 hg hat
        have hr0 := (World.ownsRow.lt hown)
        go_wp2
        go_roundw
        case rel =>
          refine ⟨k + 1, by omega, by go_num, ?_, ?_⟩
          · rw [comL_yes HK.out t1]
            simpa using hown1
          · exact (hbw.alloc hz _).grown hg (by simp; omega) (fun q hq => (hr0 q hq).1)
        case measure => simp [intOf]; omega
    · obtain rfl : k = m := by omega
      rw [List.take_of_length_le (by have := HL.out; omega)] at hown
      obtain ⟨A3, c3', rfl, _, _, _, hR, _⟩ := own_slice hown
      go_wp2
      go_ret
      exact ⟨_, _, rfl, ⟨rfl, hR⟩, hbw⟩

set_option maxHeartbeats 400000 in
theorem In_any (A : Option Addr) (n c : Nat) (zs : List Int) (x : Int) (B : Nat) (w : World) (hn : n ≤ 1000000) (h : Ints w B A n zs) :
    Calls Tryz.prog 53 #[.slice A n c, .int .i64 x] w fun e w' => e = .returned (.bool (decide (x ∈ zs))) ∧ w = w' := by
  have HL := hide h.1
  go_enter Tryz.func53, Tryz.ntmps53
  go_wp2
  go_loop [5] (fun i => ∃ k : Nat, k ≤ n ∧ i = .int .i64 k ∧ x ∉ zs.take k) (fun i => n - (intOf i).toNat)
  case atStart => exact ⟨0, Nat.zero_le _, rfl, by simp⟩
  case round =>
    obtain ⟨k, hk, rfl, hni⟩ := hrel
    have HNI := hide hni
    clear hni
    by_cases hlt : k < n
    · obtain ⟨b, o, y, rfl, hb, hy, hcell⟩ := h.at_ hlt
      have HY := hide hy
      clear hy
      have s1 : (k : Int) < n := by omega
      have s2 : (0 : Int) ≤ k := by omega
      cases t1 : ((y : Int) == x)
      · go_wp2
        go_round
        case rel =>
          refine ⟨k + 1, by omega, by go_num, ?_⟩
          rw [take_snoc1 HY.out, List.mem_append, List.mem_singleton]
          intro hx
          rcases hx with hx | rfl
          · exact HNI.out hx
          · simp at t1
        case measure => simp [intOf]; omega
      · have e : decide (x ∈ zs) = true := by
          have : y = x := by simpa using t1
          subst this
          simpa using List.mem_of_getElem? HY.out
        have HE := hide e
        clear e
        go_wp2
        go_ret
        exact ⟨ret_bool HE.out.symm, rfl⟩
    · have e : decide (x ∈ zs) = false := by
        have := HNI.out
        rw [List.take_of_length_le (by have := HL.out; omega)] at this
        simpa using this
      have HE := hide e
      clear e
      go_wp2
      go_ret
      exact ⟨ret_bool HE.out.symm, rfl⟩

/-- P33.4: was it one of the abstract machine? -/
def countsD (d : DidD) : Bool := d.err != 8 && d.err != 9
def didA (d : DidD) (dv cv : Value) : Value := .agg #[.int .i64 d.txn, .int .i64 d.op.act, .string d.op.key, dv, .int .i64 d.op.lo, .int .i64 d.op.hi, .int .i64 d.op.n, .int .i64 d.err, .int .i64 d.cell.kind, cv, .int .i64 d.cell.lo, .int .i64 d.cell.hi, .int .i64 d.cell.val]
set_option maxHeartbeats 800000 in
theorem hCounts_any (d : DidD) (A1 A2 : Option Addr) (n1 c1 n2 c2 : Nat) (w : World) :
    Calls Tryz.prog 22 #[didA d (.slice A1 n1 c1) (.slice A2 n2 c2)] w fun e w' => e = .returned (.bool (countsD d)) ∧ Below w.heap.size w w' := by
  unfold didA
  cases t1 : (d.err != 8)
  · go_enter Tryz.func22, Tryz.ntmps22
    go_wp2
    go_ret
    exact ⟨ret_bool (by simp [countsD, t1]), (Below.refl _ _).alloc (Nat.le_refl _) _⟩
  · cases t2 : (d.err != 9)
    all_goals
      go_enter Tryz.func22, Tryz.ntmps22
      go_wp2
      go_ret
      exact ⟨ret_bool (by simp [countsD, t1, t2]), (Below.refl _ _).alloc (Nat.le_refl _) _⟩
set_option maxHeartbeats 800000 in
theorem rCounts_any (d : DidD) (A1 A2 : Option Addr) (n1 c1 n2 c2 : Nat) (w : World) :
    Calls Tryz.prog 41 #[didA d (.slice A1 n1 c1) (.slice A2 n2 c2)] w fun e w' => e = .returned (.bool (countsD d)) ∧ Below w.heap.size w w' := by
  unfold didA
  cases t1 : (d.err != 8)
  · go_enter Tryz.func41, Tryz.ntmps41
    go_wp2
    go_ret
    exact ⟨ret_bool (by simp [countsD, t1]), (Below.refl _ _).alloc (Nat.le_refl _) _⟩
  · cases t2 : (d.err != 9)
    all_goals
      go_enter Tryz.func41, Tryz.ntmps41
      go_wp2
      go_ret
      exact ⟨ret_bool (by simp [countsD, t1, t2]), (Below.refl _ _).alloc (Nat.le_refl _) _⟩
set_option maxHeartbeats 800000 in
theorem notCounts_any (d : DidD) (A1 A2 : Option Addr) (n1 c1 n2 c2 : Nat) (w : World) :
    Calls Tryz.prog 21 #[didA d (.slice A1 n1 c1) (.slice A2 n2 c2)] w fun e w' => e = .returned (.bool (!countsD d)) ∧ Below w.heap.size w w' := by
  have HC := fun W => hCounts_any d A1 A2 n1 c1 n2 c2 W
  unfold didA at *
  have HCH := hide HC
  clear HC
  go_enter Tryz.func21, Tryz.ntmps21
  go_wp2_with fail
  refine (HCH.out _).mono ?_
  rintro e w1 ⟨rfl, hb1⟩
  go_wp2
  go_ret
  exact ⟨rfl, below_via ((Below.refl _ _).alloc (Nat.le_refl _) _) hb1 (by simp)⟩

set_option maxHeartbeats 800000 in
/-- Two lists of the same numbers. -/
theorem SameList_true (A A' : Option Addr) (n c c' : Nat) (zs : List Int) (B : Nat) (w : World) (hn : n ≤ 1000000) (h : Ints w B A n zs) (h' : Ints w B A' n zs) (hB : B ≤ w.heap.size) :
    Calls Tryz.prog 11 #[.slice A n c, .slice A' n c'] w fun e w' => e = .returned (.bool true) ∧ Below w.heap.size w w' := by
  go_enter Tryz.func11, Tryz.ntmps11
  go_wp2
  go_loopw [5] (fun i wr => ∃ k : Nat, k ≤ n ∧ i = .int .i64 k ∧ Below w.heap.size w wr) (fun i _ => n - (intOf i).toNat)
  case atStart => exact ⟨0, Nat.zero_le _, rfl, Below.refl _ _⟩
  case round =>
    obtain ⟨k, hk, rfl, hbw⟩ := hrel
    by_cases hlt : k < n
    · obtain ⟨b, o, y, rfl, hb, hy, hcell⟩ := (h.below hbw hB).at_ hlt
      obtain ⟨b', o', y', rfl, hb', hy', hcell'⟩ := (h'.below hbw hB).at_ hlt
      obtain rfl : y = y' := by rw [hy] at hy'; injection hy'
      have HY := hide hy
      clear hy hy'
      have s1 : (k : Int) < n := by omega
      have s2 : (0 : Int) ≤ k := by omega
      have t1 : (y != y) = false := by simp
      go_wp2
      go_quiet (fail)
      go_wp2
      go_roundw
      case rel => exact ⟨k + 1, by omega, by go_num, below_drewN hbw _⟩
      case measure => simp [intOf]; omega
    · go_wp2
      go_ret
      exact ⟨rfl, hbw⟩
end Go.Proofs.YtkhpkclkjklccaaGreatDoor
