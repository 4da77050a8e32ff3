/-
  WALKS: moneyerref09.Much (of one Op), moneyerref34.Much.
-/
import Derived.Test.YteidmdnhkgcnoaaGreatWC
namespace Go.Proofs.YteidmdnhkgcnoaaGreat
open Go.RowKit

/-- Lengths alone: is an Op more than is asked? -/
def muchOp (d : OpD) : Bool := decide (300 < d.key.size) || decide (300 < d.data.length)

set_option maxHeartbeats 800000 in
/-- Much of a slice of one Op. -/
theorem Much1_any (d : OpD) (A : Option Addr) (m c : Nat) (g : Nat) (w : World) (hm : m = d.data.length)
    (h : Blk w g 31 #[.int .i64 d.act, .string d.key, .slice A m c, .int .i64 d.lo, .int .i64 d.hi, .int .i64 d.n]) :
    Calls Tryz.prog 22 #[.slice (some ⟨g, 0, none⟩) 1 1] w fun e w' => e = .returned (.bool (muchOp d)) ∧ w' = w := by
  have HM := hide hm
  clear hm
  have hc := h.cell
  by_cases h1 : (300 : Int) < (d.key.size : Int)
  · have e1 : muchOp d = true := by unfold muchOp; simp; omega
    rw [e1]
    clear e1
    go_enter Tryz.func22, Tryz.ntmps22
    go_wp2
    refine wp_loop_rounds 1 ?_
    rw [rounds_succ]
    go_wp2
    go_ret
    exact ⟨rfl, rfl⟩
  · by_cases h2 : (300 : Int) < (m : Int)
    · have e1 : muchOp d = true := by have := HM.out; unfold muchOp; simp; omega
      rw [e1]
      clear e1
      go_enter Tryz.func22, Tryz.ntmps22
      go_wp2
      refine wp_loop_rounds 1 ?_
      rw [rounds_succ]
      go_wp2
      go_ret
      exact ⟨rfl, rfl⟩
    · have e1 : muchOp d = false := by have := HM.out; unfold muchOp; simp; omega
      rw [e1]
      clear e1
      go_enter Tryz.func22, Tryz.ntmps22
      go_wp2
      refine wp_loop_rounds 2 ?_
      rw [rounds_succ]
      go_wp2
      rw [rounds_succ]
      go_wp2
      go_ret
      exact ⟨rfl, rfl⟩

/-- Is a list more than is asked? (of the first hundred; or more than forty) -/
def much (xs : List DidV) : Bool := ((xs.take 100).any fun x => muchOp x.d.op || decide (300 < x.d.cell.data.length)) || decide (40 < xs.length)

theorem take_any_snoc {α : Type} (p : α → Bool) {l : List α} {k : Nat} {x : α} (h : l[k]? = some x) : (l.take (k + 1)).any p = ((l.take k).any p || p x) := by
  obtain ⟨hk, e⟩ := List.getElem?_eq_some_iff.1 h
  rw [List.take_succ_eq_append_getElem hk, List.any_append, e]
  simp

set_option maxHeartbeats 1600000 in
theorem Much_any (A : Option Addr) (n c : Nat) (xs : List DidV) (B : Nat) (w : World) (hB : B ≤ w.heap.size) (hn : n ≤ 9223372036854775807) (h : Dids w B A n xs) :
    Calls Tryz.prog 6 #[.slice A n c] w fun e w' => e = .returned (.bool (much xs)) ∧ Below w.heap.size w w' := by
  have HL := hide h.1
  go_enter Tryz.func6, Tryz.ntmps6
  go_wp2
  go_loopw [3] (fun i wr => ∃ k : Nat, k ≤ n ∧ k ≤ 100 ∧ i = .int .i64 k ∧ Below w.heap.size w wr ∧ (xs.take k).any (fun x => muchOp x.d.op || decide (300 < x.d.cell.data.length)) = false) (fun i _ => n - (intOf i).toNat)
  case atStart => exact ⟨0, Nat.zero_le _, Nat.zero_le _, rfl, Below.refl _ _, by simp⟩
  case round =>
    obtain ⟨k, hk, hk2, rfl, hbw, hany⟩ := hrel
    have HA := hide hany
    clear hany
    by_cases hlt : (k : Int) < n
    · by_cases hlt2 : (k : Int) < 100
      · have hD := h.below hbw hB
        obtain ⟨b, o, x, rfl, hb, hkx, hok, _⟩ := hD.at_ (show k < n by omega)
        obtain ⟨c0, c1, c2, c3, c4, c5, c6, c7, c8, c9, c10, c11, c12⟩ := hD.row hkx
        obtain ⟨d, dv, cv⟩ := x
        obtain ⟨⟨A1, n1, m1, rfl, _, _, hl1, _, hr1⟩, ⟨A2, n2, m2, rfl, _, _, hl2, _, hr2⟩⟩ := hok
        dsimp only at *
        have HK := hide hkx
        have HL1 := hide hl1
        have HL2 := hide hl2
        clear hkx hl1 hl2 hr1 hr2
        have hwz := hbw.size
        have hbz : b < wr.heap.size := by omega
        have hmu := Much1_any d.op A1 n1 m1 wr.heap.size (wr.alloc (.cells #[.int .i64 d.op.act, .string d.op.key, .slice A1 n1 m1, .int .i64 d.op.lo, .int .i64 d.op.hi, .int .i64 d.op.n] 31)) HL1.out (Blk.new _ _ _)
        have HMU := hide hmu
        clear hmu
        have hba : Below w.heap.size w (wr.alloc (.cells #[.int .i64 d.op.act, .string d.op.key, .slice A1 n1 m1, .int .i64 d.op.lo, .int .i64 d.op.hi, .int .i64 d.op.n] 31)) := hbw.alloc hwz _
        have hst : ∀ v : Bool, v = (muchOp d.op || decide (300 < d.cell.data.length)) → (xs.take (k + 1)).any (fun x => muchOp x.d.op || decide (300 < x.d.cell.data.length)) = v := fun v hv => by rw [take_any_snoc _ HK.out, HA.out, hv]; rfl
        have HST := hide hst
        clear hst
        cases hmo : muchOp d.op
        · rw [hmo] at HMU HST
          by_cases h2 : (300 : Int) < (n2 : Int)
          · go_wp2_with (go_at_call 22; refine HMU.out.mono ?_; rintro e w' ⟨rfl, rfl⟩)
            go_ret
            refine ⟨ret_bool ?_, hba⟩
            have hm := HST.out true (by have := HL2.out; simp; omega)
            unfold much
            have hsub : (xs.take 100).any (fun x => muchOp x.d.op || decide (300 < x.d.cell.data.length)) = true := by
              rw [List.any_eq_true] at hm ⊢
              obtain ⟨y, hy, hp⟩ := hm
              exact ⟨y, (List.take_subset_take_left xs (by omega)) hy, hp⟩
            simp [hsub]
          · go_wp2_with (go_at_call 22; refine HMU.out.mono ?_; rintro e w' ⟨rfl, rfl⟩)
            go_roundw
            case rel => exact ⟨k + 1, by omega, by omega, by go_num, hba, HST.out false (by have := HL2.out; simp; omega)⟩
            case measure => simp [intOf]; omega
        · rw [hmo] at HMU HST
          go_wp2_with (go_at_call 22; refine HMU.out.mono ?_; rintro e w' ⟨rfl, rfl⟩)
          go_ret
          refine ⟨ret_bool ?_, hba⟩
          have hm := HST.out true (by simp)
          unfold much
          have hsub : (xs.take 100).any (fun x => muchOp x.d.op || decide (300 < x.d.cell.data.length)) = true := by
            rw [List.any_eq_true] at hm ⊢
            obtain ⟨y, hy, hp⟩ := hm
            exact ⟨y, (List.take_subset_take_left xs (by omega)) hy, hp⟩
          simp [hsub]
      · go_wp2
        go_ret
        refine ⟨ret_bool ?_, hbw⟩
        obtain rfl : k = 100 := by omega
        have hl := HL.out
        unfold much
        rw [HA.out]
        simp
        omega
    · have hkn : k = n := by omega
      have HKN := hide hkn
      clear hkn
      go_wp2
      go_ret
      refine ⟨ret_bool ?_, hbw⟩
      have hl := HL.out
      have hkn := HKN.out
      have h1 : xs.take 100 = xs.take k := by rw [List.take_of_length_le (by omega), List.take_of_length_le (by omega)]
      unfold much
      rw [h1, HA.out]
      simp
      omega
end Go.Proofs.YteidmdnhkgcnoaaGreat
