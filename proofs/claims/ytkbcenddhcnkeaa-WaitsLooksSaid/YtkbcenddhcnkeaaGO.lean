/-
  WALKS: moneyerlaw14.WaitsLooks, WaitsCycles.
-/
import Derived.Test.YtkbcenddhcnkeaaGN
namespace Go.Proofs.Ytkbcenddhcnkeaa
open Go.RowKit

theorem noRing_bool (es : List Ed) : ∃ rb : Bool, rb = true ↔ NoRing es := by
  by_cases h : NoRing es
  · exact ⟨true, ⟨fun _ => h, fun _ => rfl⟩⟩
  · exact ⟨false, ⟨fun h' => (by cases h'), fun h' => absurd h' h⟩⟩
def wfE (es : List Ed) : Prop := ∀ e ∈ es, (Lit.int .i64 e.1).wf = true ∧ (Lit.int .i64 e.2).wf = true
set_option maxHeartbeats 3200000 in
theorem looks_any (A A' : Option Addr) (n c n' c' : Nat) (es : List Ed) (xs : List Int) (B : Nat) (w : World) (hB : B ≤ w.heap.size) (hE : Eds w B A n es) (hI : Ints w B A' n' xs) (hc : A = none → c = 0) (hwe : wfE es) :
    Calls Try.prog 5 #[.slice A n c, .slice A' n' c'] w fun e w' => e = .returned (.bool true) ∧ Below w.heap.size w w' := by
  have HLV := hide (fun W => live_any W)
  by_cases h40 : 40 < n
  · have s1 : (40 : Int) < n := by omega
    clear hE hI hc hwe
    go_enter Try.func5, Try.ntmps5
    go_wp2_with (go_at_call 6; refine (HLV.out _).mono ?_; rintro e w1 ⟨rfl, hb1⟩)
    go_ret
    exact ⟨rfl, hb1⟩
  · by_cases h60 : 60 < n'
    · have s1 : ¬ (40 : Int) < n := by omega
      have s2 : (60 : Int) < n' := by omega
      clear hE hI hc hwe
      go_enter Try.func5, Try.ntmps5
      go_wp2_with (go_at_call 6; refine (HLV.out _).mono ?_; rintro e w1 ⟨rfl, hb1⟩)
      go_ret
      exact ⟨rfl, hb1⟩
    · have s1 : ¬ (40 : Int) < n := by omega
      have s2 : ¬ (60 : Int) < n' := by omega
      obtain ⟨rb, hrb⟩ := noRing_bool es
      have HA := hide (fun W (hW : Below w.heap.size w W) => wAcyclic_any A n c es rb hrb B W (Nat.le_trans hB hW.size) (by omega) (hE.below hW hB) hc hwe)
      have HR := hide (fun W (hW : Below w.heap.size w W) => rAcyclic_any A n c es rb hrb B W (Nat.le_trans hB hW.size) (by omega) (hE.below hW hB))
      have HY := hide (fun W (hW : Below w.heap.size w W) => wYoung_any A' n' c' xs B W (by omega) (hI.below hW hB))
      have HZ := hide (fun W (hW : Below w.heap.size w W) => rYoung_any A' n' c' xs B W (by omega) (hI.below hW hB))
      clear hE hI hc hwe hrb
      generalize young xs = y at HY HZ
      go_enter Try.func5, Try.ntmps5
      go_wp2_with fail
      refine (HA.out _ (Below.refl _ _)).mono ?_
      rintro e w1 ⟨rfl, hb1⟩
      go_wp2_with fail
      refine (HR.out _ hb1).mono ?_
      rintro e w2 ⟨rfl, hb2⟩
      have hbw2 := hb1.trans (hb2.mono hb1.size)
      go_wp2_with (first | (go_at_call 16; refine (HY.out _ hbw2).mono ?_; rintro e w' ⟨rfl, hw'⟩; obtain rfl := hw'.symm) | (go_at_call 17; refine (HZ.out _ hbw2).mono ?_; rintro e w' ⟨rfl, hw'⟩; obtain rfl := hw'.symm) | (go_at_call 6; refine (HLV.out _).mono ?_; rintro e w3 ⟨rfl, hb3⟩))
      go_ret
      exact ⟨rfl, hbw2.trans (hb3.mono hbw2.size)⟩
/-- Was the edge among the first? -/
def FoundE (es : List Ed) (x t : Int) (jj : Nat) (fb : Bool) : Prop := fb = true ↔ ∃ q, q < jj ∧ es[q]? = some (x, t)
set_option maxHeartbeats 6400000 in
set_option maxRecDepth 100000 in
theorem cycles_any (A : Option Addr) (n c : Nat) (es : List Ed) (a : Int) (B : Nat) (w : World) (hB : B ≤ w.heap.size) (hE : Eds w B A n es) (hc : A = none → c = 0) (hwe : wfE es) (hwa : (Lit.int .i64 a).wf = true) :
    Calls Try.prog 3 #[.slice A n c, .int .i64 a] w fun e w' => e = .returned (.bool true) ∧ Below w.heap.size w w' := by
  have HLV := hide (fun W => live_any W)
  by_cases h40 : 40 < n
  · have s1 : (40 : Int) < n := by omega
    clear hE hc hwe hwa
    go_enter Try.func3, Try.ntmps3
    go_wp2_with (go_at_call 6; refine (HLV.out _).mono ?_; rintro e w1 ⟨rfl, hb1⟩)
    go_ret
    exact ⟨rfl, hb1⟩
  · have s1 : ¬ (40 : Int) < n := by omega
    obtain ⟨rb, hrb⟩ := rch_bool es a a
    have HC := hide (fun W (hW : Below w.heap.size w W) => wCycle_any A n c es a B W (Nat.le_trans hB hW.size) (by omega) (hE.below hW hB) hc (fun e he => (hwe e he).2) hwa)
    have HC2 := hide (fun W (hW : Below w.heap.size w W) => rCycle_any A n c es a B W (Nat.le_trans hB hW.size) (by omega) (hE.below hW hB))
    have HR := hide (fun W (hW : Below w.heap.size w W) => reach_any A n c es a a rb hrb B W (Nat.le_trans hB hW.size) (by omega) (hE.below hW hB))
    have HE := hide hE
    have HL := hide hE.1
    have HRB := hide (hrb.trans (cyc_iff es a).symm)
    have hcl := cyc_len es a
    have hcl2 : (cyc es a).length ≤ 41 := by have := hE.1; omega
    clear hE hc hwe hwa hrb hcl
    go_enter Try.func3, Try.ntmps3
    go_wp2_with fail
    refine (HC.out _ (Below.refl _ _)).mono ?_
    rintro e w1 ⟨A1, n1, c1, rfl, hi1, hb1⟩
    have HI1 := hide hi1
    have hn1 : n1 ≤ 41 := by have := hi1.1; omega
    clear hi1
    go_wp2_with fail
    refine (HC2.out _ hb1).mono ?_
    rintro e w2 ⟨A2, n2, c2, rfl, hi2, hb2⟩
    have hbw2 := hb1.trans (hb2.mono hb1.size)
    have hSL : Calls Try.prog 8 #[.slice A1 n1 c1, .slice A2 n2 c2] w2 fun e w' => e = .returned (.bool true) ∧ Below w2.heap.size w2 w' := by
      have h := SameList_any A1 A2 n1 c1 n2 c2 (cyc es a) (cyc es a) w2.heap.size w2 (by omega) (by have := hi2.1; omega) ((HI1.out.below hb2 (Nat.le_refl _)).more hb2.size) hi2
      rwa [show numsEq (cyc es a) (cyc es a) = true by simp [numsEq]] at h
    have HSL := hide hSL
    clear hi2 hSL
    go_wp2_with fail
    refine HSL.out.mono ?_
    rintro e w3 ⟨rfl, hb3⟩
    have hbw3 := hbw2.trans (hb3.mono hbw2.size)
    have hb13 := hb2.trans (hb3.mono hb2.size)
    go_wp2_with fail
    refine (HR.out _ hbw3).mono ?_
    rintro e w4 ⟨rfl, hb4⟩
    have hbw4 := hbw3.trans (hb4.mono hbw3.size)
    have hb14 := hb13.trans (hb4.mono hb13.size)
    have hrbv : rb = decide (0 < n1) := by
      rw [Bool.eq_iff_iff, HRB.out, decide_eq_true_eq, HI1.out.1, List.length_pos_iff]
    have HEw := hide (fun W (hW : Below w1.heap.size w1 W) => (HE.out.below hb1 hB).below hW (Nat.le_trans hB hb1.size))
    subst hrbv
    by_cases h0 : 0 < n1
    · have sd : decide (0 < n1) = true := decide_eq_true h0
      have sd2 : (0 : Int) < n1 := by omega
      have hne : cyc es a ≠ [] := by
        intro e
        have := HI1.out.1
        rw [e] at this
        simp at this
        omega
      obtain ⟨_, hway, _, ⟨yl, hyl, hyl2⟩, _⟩ := cyc_ring hne
      have hz1 := hb1.size
      have hz14 := hb14.size
      have HWay := hide hway
      have HYL := hide (show (cyc es a)[n1 - 1]? = some yl ∧ (yl, a) ∈ es from ⟨by rw [HI1.out.1]; exact hyl, hyl2⟩)
      clear hne hway hyl hyl2
      go_wp2
      go_loopw [6] (fun i wr => ∃ k : Nat, k ≤ n1 ∧ i = .int .i64 k ∧ Below w1.heap.size w1 wr) (fun i _ => n1 - (intOf i).toNat)
      case atStart => exact ⟨0, Nat.zero_le _, rfl, hb14⟩
      case round =>
        obtain ⟨k, hk, rfl, hbw⟩ := hrel
        by_cases hlt : k < n1
        · obtain ⟨b1, o1, x, rfl, hbb, hkx, c0⟩ := HI1.out.at_ (k := k) hlt
          have HCell := hide (fun W (hW : Below w1.heap.size w1 W) => (hW.cell (p := ⟨b1, o1 + k, none⟩) hbb).trans c0)
          have HKX := hide hkx
          have s2 : (k : Int) < n1 := by omega
          have s3 : (0 : Int) ≤ k := by omega
          clear c0 hkx
          by_cases hlast : k + 1 < n1
          · obtain ⟨b1', o1', x2, hA2, _, hkx2, c2⟩ := HI1.out.at_ (k := k + 1) hlast
            injection hA2 with hA2
            injection hA2 with h1 h2
            subst h1 h2
            have cn := (hbw.cell (p := ⟨b1, o1 + (k + 1), none⟩) hbb).trans c2
            have HED := hide (HWay.out k x x2 HKX.out hkx2)
            have s6 : (k : Int) + 1 < n1 := by omega
            clear hkx2 c2
            go_wp2
            obtain ⟨wo, rfl⟩ : ∃ wo : World, wo = wr := ⟨_, rfl⟩
            go_loopw [8, 9] (fun f j wr => ∃ (jj : Nat) (fb : Bool), j = .int .i64 jj ∧ jj ≤ n ∧ f = .bool fb ∧ Hid (FoundE es x x2 jj fb) ∧ Below w1.heap.size w1 wr) (fun _ j _ => n - (intOf j).toNat)
            case atStart => exact ⟨0, false, rfl, Nat.zero_le _, rfl, hide ⟨fun h => (by cases h), fun ⟨q, hq, _⟩ => absurd hq (by omega)⟩, hbw⟩
            case round =>
              have hbo := hbw
              clear hbw
              obtain ⟨jj, fb, rfl, hjj, rfl, HFB, hbw⟩ := hrel
              have c0 := HCell.out wr hbw
              by_cases hltj : jj < n
              · obtain ⟨be, oe, ⟨pp, tt⟩, rfl, hbe, hkx, d0, d1⟩ := (HEw.out wr hbw).at_ (k := jj) hltj
                have HKX := hide hkx
                have s4 : (0 : Int) ≤ jj := by omega
                have s5 : (jj : Int) < n := by omega
                dsimp only at d0 d1
                clear hkx
                by_cases hpx : pp = x
                · by_cases htt : tt = x2
                  · have HF' : Hid (FoundE es x x2 (jj + 1) true) := hide ⟨fun _ => ⟨jj, by omega, by rw [HKX.out, hpx, htt]⟩, fun _ => rfl⟩
                    have hb1 : (pp == x) = true := by rw [beq_iff_eq]; exact hpx
                    have hb2 : (tt == x2) = true := by rw [beq_iff_eq]; exact htt
                    clear hpx htt
                    go_wp2
                    go_quiet (fail)
                    go_wp2
                    go_roundw
                    case rel => exact ⟨jj + 1, true, by go_num, by omega, rfl, HF', below_drewN hbw _⟩
                    case measure => simp [intOf]; omega
                  · have HF' : Hid (FoundE es x x2 (jj + 1) fb) := hide (by
                      unfold FoundE
                      rw [show fb = true ↔ _ from HFB.out]
                      constructor
                      · rintro ⟨q, hq, h⟩
                        exact ⟨q, by omega, h⟩
                      · rintro ⟨q, hq, h⟩
                        rcases Nat.lt_or_ge q jj with h1 | h1
                        · exact ⟨q, h1, h⟩
                        · obtain rfl : q = jj := by omega
                          rw [HKX.out] at h
                          injection h with h
                          injection h with _ h
                          exact absurd h htt)
                    have hb1 : (pp == x) = true := by rw [beq_iff_eq]; exact hpx
                    have hb2 : (tt == x2) = false := beq_eq_false_iff_ne.2 htt
                    clear hpx htt
                    go_wp2
                    go_quiet (fail)
                    go_wp2
                    go_roundw
                    case rel => exact ⟨jj + 1, fb, by go_num, by omega, rfl, HF', below_drewN hbw _⟩
                    case measure => simp [intOf]; omega
                · have HF' : Hid (FoundE es x x2 (jj + 1) fb) := hide (by
                    unfold FoundE
                    rw [show fb = true ↔ _ from HFB.out]
                    constructor
                    · rintro ⟨q, hq, h⟩
                      exact ⟨q, by omega, h⟩
                    · rintro ⟨q, hq, h⟩
                      rcases Nat.lt_or_ge q jj with h1 | h1
                      · exact ⟨q, h1, h⟩
                      · obtain rfl : q = jj := by omega
                        rw [HKX.out] at h
                        injection h with h
                        injection h with h _
                        exact absurd h hpx)
                  have hb1 : (pp == x) = false := beq_eq_false_iff_ne.2 hpx
                  clear hpx
                  go_wp2
                  go_quiet (fail)
                  go_wp2
                  go_roundw
                  case rel => exact ⟨jj + 1, fb, by go_num, by omega, rfl, HF', below_drewN hbw _⟩
                  case measure => simp [intOf]; omega
              · obtain rfl : fb = true := HFB.out.2 (by
                  obtain ⟨q, hq⟩ := List.mem_iff_getElem?.1 HED.out
                  exact ⟨q, by have := (List.getElem?_eq_some_iff.1 hq).1; have := HL.out; omega, hq⟩)
                go_wp2
                go_roundw
                case rel => exact ⟨k + 1, by omega, by go_num, hbw⟩
                case measure => simp [intOf]; omega
          · have HED : Hid ((x, a) ∈ es) := hide (by
              obtain ⟨h1, h2⟩ := HYL.out
              have : n1 - 1 = k := by omega
              rw [this, HKX.out] at h1
              injection h1 with h1
              rw [h1]
              exact h2)
            have s6 : ¬ (k : Int) + 1 < n1 := by omega
            go_wp2
            obtain ⟨wo, rfl⟩ : ∃ wo : World, wo = wr := ⟨_, rfl⟩
            go_loopw [8, 9] (fun f j wr => ∃ (jj : Nat) (fb : Bool), j = .int .i64 jj ∧ jj ≤ n ∧ f = .bool fb ∧ Hid (FoundE es x a jj fb) ∧ Below w1.heap.size w1 wr) (fun _ j _ => n - (intOf j).toNat)
            case atStart => exact ⟨0, false, rfl, Nat.zero_le _, rfl, hide ⟨fun h => (by cases h), fun ⟨q, hq, _⟩ => absurd hq (by omega)⟩, hbw⟩
            case round =>
              have hbo := hbw
              clear hbw
              obtain ⟨jj, fb, rfl, hjj, rfl, HFB, hbw⟩ := hrel
              have c0 := HCell.out wr hbw
              by_cases hltj : jj < n
              · obtain ⟨be, oe, ⟨pp, tt⟩, rfl, hbe, hkx, d0, d1⟩ := (HEw.out wr hbw).at_ (k := jj) hltj
                have HKX := hide hkx
                have s4 : (0 : Int) ≤ jj := by omega
                have s5 : (jj : Int) < n := by omega
                dsimp only at d0 d1
                clear hkx
                by_cases hpx : pp = x
                · by_cases htt : tt = a
                  · have HF' : Hid (FoundE es x a (jj + 1) true) := hide ⟨fun _ => ⟨jj, by omega, by rw [HKX.out, hpx, htt]⟩, fun _ => rfl⟩
                    have hb1 : (pp == x) = true := by rw [beq_iff_eq]; exact hpx
                    have hb2 : (tt == a) = true := by rw [beq_iff_eq]; exact htt
                    clear hpx htt
                    go_wp2
                    go_quiet (fail)
                    go_wp2
                    go_roundw
                    case rel => exact ⟨jj + 1, true, by go_num, by omega, rfl, HF', below_drewN hbw _⟩
                    case measure => simp [intOf]; omega
                  · have HF' : Hid (FoundE es x a (jj + 1) fb) := hide (by
                      unfold FoundE
                      rw [show fb = true ↔ _ from HFB.out]
                      constructor
                      · rintro ⟨q, hq, h⟩
                        exact ⟨q, by omega, h⟩
                      · rintro ⟨q, hq, h⟩
                        rcases Nat.lt_or_ge q jj with h1 | h1
                        · exact ⟨q, h1, h⟩
                        · obtain rfl : q = jj := by omega
                          rw [HKX.out] at h
                          injection h with h
                          injection h with _ h
                          exact absurd h htt)
                    have hb1 : (pp == x) = true := by rw [beq_iff_eq]; exact hpx
                    have hb2 : (tt == a) = false := beq_eq_false_iff_ne.2 htt
                    clear hpx htt
                    go_wp2
                    go_quiet (fail)
                    go_wp2
                    go_roundw
                    case rel => exact ⟨jj + 1, fb, by go_num, by omega, rfl, HF', below_drewN hbw _⟩
                    case measure => simp [intOf]; omega
                · have HF' : Hid (FoundE es x a (jj + 1) fb) := hide (by
                    unfold FoundE
                    rw [show fb = true ↔ _ from HFB.out]
                    constructor
                    · rintro ⟨q, hq, h⟩
                      exact ⟨q, by omega, h⟩
                    · rintro ⟨q, hq, h⟩
                      rcases Nat.lt_or_ge q jj with h1 | h1
                      · exact ⟨q, h1, h⟩
                      · obtain rfl : q = jj := by omega
                        rw [HKX.out] at h
                        injection h with h
                        injection h with h _
                        exact absurd h hpx)
                  have hb1 : (pp == x) = false := beq_eq_false_iff_ne.2 hpx
                  clear hpx
                  go_wp2
                  go_quiet (fail)
                  go_wp2
                  go_roundw
                  case rel => exact ⟨jj + 1, fb, by go_num, by omega, rfl, HF', below_drewN hbw _⟩
                  case measure => simp [intOf]; omega
              · obtain rfl : fb = true := HFB.out.2 (by
                  obtain ⟨q, hq⟩ := List.mem_iff_getElem?.1 HED.out
                  exact ⟨q, by have := (List.getElem?_eq_some_iff.1 hq).1; have := HL.out; omega, hq⟩)
                go_wp2
                go_roundw
                case rel => exact ⟨k + 1, by omega, by go_num, hbw⟩
                case measure => simp [intOf]; omega
        · go_wp2_with (go_at_call 6; refine (HLV.out _).mono ?_; rintro e w5 ⟨rfl, hb5⟩)
          go_ret
          exact ⟨rfl, hb1.trans ((hbw.trans (hb5.mono hbw.size)).mono hz1)⟩
    · obtain rfl : n1 = 0 := by omega
      have sd : decide (0 < 0) = false := by decide
      go_wp2
      refine wp_loop_rounds 1 ?_
      rw [rounds_succ]
      go_wp2_with (go_at_call 6; refine (HLV.out _).mono ?_; rintro e w5 ⟨rfl, hb5⟩)
      go_ret
      exact ⟨rfl, hbw4.trans (hb5.mono hbw4.size)⟩
end Go.Proofs.Ytkbcenddhcnkeaa
