/-
  Texts of this claim, joined: OC, OD, OE, VA, VB.
-/
import Derived.Test.YtceocfeckipihaaGreatDoorRo03
set_option maxHeartbeats 6400000
set_option maxRecDepth 100000
namespace Go.Proofs.YtceocfeckipihaaGreatDoor
open Go.RowKit
theorem OpRows.via {w w' : World} {B : Nat} {v : Value} {rs : List RowV} (h : OpRows w B v rs) (hb : Below w.heap.size w w') (hB : B ≤ w.heap.size) : OpRows w' B v rs :=
  ⟨h.1.keep (fun _ hp => hb.cell (Nat.lt_of_lt_of_le hp hB)), fun r hr => ⟨(h.2 r hr).1.keep (fun _ hp => hb.cell (Nat.lt_of_lt_of_le hp hB)), fun x hx => ((h.2 r hr).2 x hx).keep (fun _ hp => hb.cell (Nat.lt_of_lt_of_le hp hB))⟩⟩
theorem OpRows.row {w : World} {B : Nat} {A : Option Addr} {c : Nat} {rs : List RowV} (h : OpRows w B (.slice A rs.length c) rs) {k : Nat} (hk : k < rs.length) :
    ∃ b o r Ar cr, A = some ⟨b, o, none⟩ ∧ b < B ∧ rs[k]? = some r ∧ r.v = .slice Ar r.xs.length cr ∧ w.cell? ⟨b, o + k, none⟩ = some (.slice Ar r.xs.length cr) ∧ Ops w B r.v r.xs := by
  obtain ⟨b, o, c', r, e0, hb, hx, _, _, hcell⟩ := SliceAt.at_ RowV.cells_length (by omega) h.1 hk
  injection e0 with e1 e2 e3
  have HR := h.2 r (List.mem_of_getElem? hx)
  obtain ⟨Ar, cr, hrv, _⟩ := HR.1
  refine ⟨b, o, r, Ar, cr, e1, hb, hx, hrv, ?_, HR⟩
  have := hcell 0 _ rfl
  rw [hrv] at this
  simpa using this
theorem rounds_any (a p f c l : Int) (hp0 : 0 ≤ p) (hp : p ≤ 1099511627776) (v : Value) (rs : List RowV) (B : Nat) (w : World) (h : OpRows w B v rs) (hB : B ≤ w.heap.size) (hm16 : rs.length ≤ 16) (h30 : ∀ r ∈ rs, r.xs.length ≤ 30) :
    Calls Tryz.prog 10 #[.agg (conf5 a p f c l), v] w fun e w' => e = .returned (.int .i64 (totS p rs)) ∧ Below w.heap.size w w' := by
  have HOR := hide h
  have H30 := hide h30
  obtain ⟨A, cc, hpv, hcc, hm, hnil, _⟩ := h.1
  subst hpv
  obtain ⟨m, hm'⟩ : ∃ m, m = rs.length := ⟨_, rfl⟩
  have HML := hide hm'
  have HRC := hide (fun n (hn : n ≤ 1099511627776) W => call_any a p f c l n hp0 hp hn W)
  have HCF := hide info_conf5
  rw [← hm'] at hm16 ⊢
  unfold conf5 at *
  clear h h30 hm' hcc hm hnil
  go_enter Tryz.func10, Tryz.ntmps10
  go_upto_region 1 with (fail)
  refine gen1 (R := fun W => Code.wp _ _ _ _ W) (fun W1 kC hb1 hz1 => ?_)
  obtain ⟨z, hz⟩ : ∃ z, z = w.heap.size := ⟨_, rfl⟩
  have HB1 := hide hb1
  have HZ1 := hide (show w.heap.size ≤ W1.heap.size by omega)
  rw [← hz] at kC hz1
  rw [← hz]
  have KC := hide kC
  have HOR1 := hide (HOR.out.via hb1 hB)
  have hB1 : B ≤ W1.heap.size := by omega
  clear kC hb1 hz
  go_wp2_with fail
  go_loopw [5, 11] (fun sv iv wr => ∃ (k : Nat) (s : Int), k ≤ m ∧ sv = .int .i64 s ∧ iv = .int .i64 k ∧ 0 ≤ s ∧ s ≤ k * 32985348835230 ∧ Hid (s = totS p (rs.take k)) ∧ Below W1.heap.size W1 wr) (fun _ iv _ => m - (intOf iv).toNat)
  case atStart => exact ⟨0, 0, Nat.zero_le _, rfl, rfl, by omega, by omega, hide rfl, Below.refl _ _⟩
  case round =>
    obtain ⟨k, s, hk, rfl, rfl, hs0, hs1, HS, hbw⟩ := hrel
    by_cases hlt : (k : Int) < m
    · have hlt' : k < rs.length := by have := HML.out; omega
      have HW := HOR1.out.via hbw hB1
      obtain ⟨b, o, r, Ar, cr, rfl, hb, hx, hrv, c0, HR⟩ := HW.row hlt'
      have h30 := H30.out r (List.mem_of_getElem? hx)
      obtain ⟨q, hq⟩ : ∃ q, q = r.xs.length := ⟨_, rfl⟩
      have HQ := hide hq
      rw [← hq] at c0 h30
      have HX := hide hx
      have u0 : (0 : Int) ≤ k := by omega
      have u1 : (k : Int) < m := by omega
      clear hx hrv hq HR HW
      go_wp2_with fail
      go_loopw [5, 17] (fun sv iv wr => ∃ (j : Nat) (t : Int), j ≤ q ∧ sv = .int .i64 t ∧ iv = .int .i64 j ∧ 0 ≤ t ∧ t ≤ k * 32985348835230 + j * 1099511627841 ∧ Hid (t = totS p (rs.take k) + rowS p j) ∧ Below W1.heap.size W1 wr) (fun _ iv _ => q - (intOf iv).toNat)
      case atStart => exact ⟨0, s, Nat.zero_le _, rfl, rfl, by omega, by omega, hide (by rw [HS.out]; simp [rowS]), hbw⟩
      case round =>
        obtain ⟨j, t, hj, rfl, rfl, ht0, ht1, HT, hbj⟩ := hrel
        by_cases hltj : (j : Int) < q
        · have kb := hide (Blk.via hbj KC.out)
          have HC1 := hide (HRC.out j (by omega) wr)
          have cb := callD_bound hp0 hp (n := (j : Int)) (by omega)
          obtain ⟨cb0, cb1⟩ := cb
          have hbz := hbj.size
          have HT2 := hide (show t + callD p j = totS p (rs.take k) + rowS p (j + 1) by rw [HT.out]; simp only [rowS]; omega)
          have HBJ := hide hbj
          generalize callD p j = cd at *
          clear HT hbj
          go_wp2_with (first
            | (refine wpList_load_row rfl 23 (.tmp 2) rfl z rfl 23 _ (0, 0) _ kb.out Tryz.underlying23 rfl HCF.out ?_)
            | (go_at_call 8; refine HC1.out.mono ?_; rintro e w' ⟨rfl, hb'⟩))
          go_roundw
          case rel => exact ⟨j + 1, t + cd, by omega, rfl, by go_num, by omega, by omega, HT2, HBJ.out.trans (hb'.mono hbz)⟩
          case measure => simp [intOf] <;> omega
        · have HT2 := hide (show t = totS p (rs.take (k + 1)) by
            rw [totS_take HX.out, HT.out, show j = r.xs.length by have := HQ.out; omega])
          have HBJ := hide hbj
          clear HT hbj
          go_wp2
          go_roundw
          case rel => exact ⟨k + 1, t, by omega, rfl, by go_num, ht0, by omega, HT2, HBJ.out⟩
          case measure => simp [intOf] <;> omega
    · have HS2 := hide (show s = totS p rs by
        have := HS.out
        rwa [List.take_of_length_le (by have := HML.out; omega)] at this)
      have HBW := hide hbw
      clear HS hbw
      go_wp2
      go_ret
      exact ⟨by rw [HS2.out]; rfl, HB1.out.trans (HBW.out.mono HZ1.out)⟩
theorem roundsR_any (a p f c l : Int) (hp0 : 0 ≤ p) (hp : p ≤ 1099511627776) (v : Value) (rs : List RowV) (B : Nat) (w : World) (h : OpRows w B v rs) (hB : B ≤ w.heap.size) (hm16 : rs.length ≤ 16) (h30 : ∀ r ∈ rs, r.xs.length ≤ 30) :
    Calls Tryz.prog 11 #[.agg (conf5 a p f c l), v] w fun e w' => e = .returned (.int .i64 (totS p rs)) ∧ Below w.heap.size w w' := by
  have HOR := hide h
  have H30 := hide h30
  obtain ⟨A, cc, hpv, hcc, hm, hnil, _⟩ := h.1
  subst hpv
  obtain ⟨m, hm'⟩ : ∃ m, m = rs.length := ⟨_, rfl⟩
  have HML := hide hm'
  have HRC := hide (fun n (hn : n ≤ 1099511627776) W => callR_any a p f c l n hp0 hp hn W)
  have HCF := hide info_conf5
  rw [← hm'] at hm16 ⊢
  unfold conf5 at *
  clear h h30 hm' hcc hm hnil
  go_enter Tryz.func11, Tryz.ntmps11
  go_upto_region 1 with (fail)
  refine gen1 (R := fun W => Code.wp _ _ _ _ W) (fun W1 kC hb1 hz1 => ?_)
  obtain ⟨z, hz⟩ : ∃ z, z = w.heap.size := ⟨_, rfl⟩
  have HB1 := hide hb1
  have HZ1 := hide (show w.heap.size ≤ W1.heap.size by omega)
  rw [← hz] at kC hz1
  rw [← hz]
  have KC := hide kC
  have HOR1 := hide (HOR.out.via hb1 hB)
  have hB1 : B ≤ W1.heap.size := by omega
  clear kC hb1 hz
  go_wp2_with fail
  go_loopw [5, 6] (fun sv iv wr => ∃ (k : Nat) (s : Int), k ≤ m ∧ sv = .int .i64 s ∧ iv = .int .i64 k ∧ 0 ≤ s ∧ s ≤ k * 32985348835230 ∧ Hid (s = totS p (rs.take k)) ∧ Below W1.heap.size W1 wr) (fun _ iv _ => m - (intOf iv).toNat)
  case atStart => exact ⟨0, 0, Nat.zero_le _, rfl, rfl, by omega, by omega, hide rfl, Below.refl _ _⟩
  case round =>
    obtain ⟨k, s, hk, rfl, rfl, hs0, hs1, HS, hbw⟩ := hrel
    by_cases hlt : (k : Int) < m
    · have hlt' : k < rs.length := by have := HML.out; omega
      have HW := HOR1.out
      obtain ⟨b, o, r, Ar, cr, rfl, hb, hx, hrv, c00, HR⟩ := HW.row hlt'
      have h30 := H30.out r (List.mem_of_getElem? hx)
      obtain ⟨q, hq⟩ : ∃ q, q = r.xs.length := ⟨_, rfl⟩
      have HQ := hide hq
      rw [← hq] at c00 h30
      have HX := hide hx
      have HCC := hide c00
      have u0 : (0 : Int) ≤ k := by omega
      have u1 : (k : Int) < m := by omega
      clear hx hrv hq HR HW c00
      go_wp2_with fail
      go_loopw [5, 7] (fun sv iv wr => ∃ (j : Nat) (t : Int), j ≤ q ∧ sv = .int .i64 t ∧ iv = .int .i64 j ∧ 0 ≤ t ∧ t ≤ k * 32985348835230 + j * 1099511627841 ∧ Hid (t = totS p (rs.take k) + rowS p j) ∧ Below W1.heap.size W1 wr) (fun _ iv _ => q - (intOf iv).toNat)
      case atStart => exact ⟨0, s, Nat.zero_le _, rfl, rfl, by omega, by omega, hide (by rw [HS.out]; simp [rowS]), hbw⟩
      case round =>
        obtain ⟨j, t, hj, rfl, rfl, ht0, ht1, HT, hbj⟩ := hrel
        have c0 : wr.cell? ⟨b, o + k, none⟩ = some (.slice Ar q cr) := (hbj.cell (by show b < _; omega)).trans HCC.out
        by_cases hltj : (j : Int) < q
        · have kb := hide (Blk.via hbj KC.out)
          have HC1 := hide (HRC.out j (by omega) wr)
          have cb := callD_bound hp0 hp (n := (j : Int)) (by omega)
          obtain ⟨cb0, cb1⟩ := cb
          have hbz := hbj.size
          have HT2 := hide (show t + callD p j = totS p (rs.take k) + rowS p (j + 1) by rw [HT.out]; simp only [rowS]; omega)
          have HBJ := hide hbj
          generalize callD p j = cd at *
          clear HT hbj
          go_wp2_with (first
            | (refine wpList_load_row rfl 23 (.tmp 2) rfl z rfl 23 _ (0, 0) _ kb.out Tryz.underlying23 rfl HCF.out ?_)
            | (go_at_call 9; refine HC1.out.mono ?_; rintro e w' ⟨rfl, hb'⟩))
          go_roundw
          case rel => exact ⟨j + 1, t + cd, by omega, rfl, by go_num, by omega, by omega, HT2, HBJ.out.trans (hb'.mono hbz)⟩
          case measure => simp [intOf] <;> omega
        · have HT2 := hide (show t = totS p (rs.take (k + 1)) by
            rw [totS_take HX.out, HT.out, show j = r.xs.length by have := HQ.out; omega])
          have HBJ := hide hbj
          clear HT hbj
          go_wp2
          go_roundw
          case rel => exact ⟨k + 1, t, by omega, rfl, by go_num, ht0, by omega, HT2, HBJ.out⟩
          case measure => simp [intOf] <;> omega
    · have HS2 := hide (show s = totS p rs by
        have := HS.out
        rwa [List.take_of_length_le (by have := HML.out; omega)] at this)
      have HBW := hide hbw
      clear HS hbw
      go_wp2
      go_ret
      exact ⟨by rw [HS2.out]; rfl, HB1.out.trans (HBW.out.mono HZ1.out)⟩
end Go.Proofs.YtceocfeckipihaaGreatDoor
namespace Go.Proofs.YtceocfeckipihaaGreatDoor
open Go.RowKit
theorem boundTells_any (hlive : ∀ W, Calls Tryz.prog 5 #[] W fun e w' => e = .returned (.bool true) ∧ Below W.heap.size W w') (a p fr c l n : Int) (v : Value) (rs : List RowV) (B : Nat) (w : World) (h : OpRows w B v rs) (hB : B ≤ w.heap.size) :
    Calls Tryz.prog 3 #[.agg (conf5 a p fr c l), .int .i64 n, v] w fun e w' => e = .returned (.bool true) ∧ Below w.heap.size w w' := by
  have HLV := hide hlive
  have HOR := hide h
  obtain ⟨A, cc, hpv, hcc, hm, hnil, _⟩ := h.1
  subst hpv
  obtain ⟨m, hm'⟩ : ∃ m, m = rs.length := ⟨_, rfl⟩
  have HML := hide hm'
  have HCF := hide info_conf5
  have HCO := hide (rfl : conf5 a p fr c l = #[.int .i64 a, .int .i64 p, .int .i64 fr, .int .i64 c, .int .i64 l])
  rw [← hm']
  unfold maxLen at hm
  have hmm : (m : Int) ≤ 9223372036854775807 := by omega
  clear h hlive hm' hcc hm hnil
  rw [HCO.out]
  go_enter Tryz.func3, Tryz.ntmps3
  go_upto_region 1 with (fail)
  refine gen1 (R := fun W => Code.wp _ _ _ _ W) (fun W1 kC hb1 hz1 => ?_)
  obtain ⟨z, hz⟩ : ∃ z, z = w.heap.size := ⟨_, rfl⟩
  have HB1 := hide hb1
  have HZ1 := hide (show w.heap.size ≤ W1.heap.size by omega)
  rw [← hz] at kC hz1
  rw [← hz]
  have KC := hide kC
  have HOR1 := hide (HOR.out.via hb1 hB)
  have hB1 : B ≤ W1.heap.size := by omega
  have HMU := hide (much37_any _ _ _ _ HOR1.out)
  rw [← HML.out] at HMU
  have c1 : W1.cell? ⟨z, 1, none⟩ = some (.int .i64 p) := kC.cell 1
  clear kC hb1 hz
  go_wp2_with fail
  refine HMU.out.mono ?_
  rintro e w' ⟨b, rfl, hMB, hw'⟩
  obtain rfl := hw'.symm
  have HMB := hide hMB
  clear hMB
  by_cases hbad : b = true ∨ (1099511627776 : Int) < n ∨ (1099511627776 : Int) < p ∨ p < 0
  · have hout : ∀ {P : Prop}, P → P := fun h => h
    clear HMB HMU HOR HOR1 HML
    cases b with
    | true =>
      go_wp2_with (go_at_call 5; refine (HLV.out _).mono ?_; rintro e w' ⟨rfl, hb'⟩)
      go_ret
      exact ⟨rfl, HB1.out.trans (hb'.mono HZ1.out)⟩
    | false =>
      by_cases h1 : (1099511627776 : Int) < n
      · go_wp2_with (go_at_call 5; refine (HLV.out _).mono ?_; rintro e w' ⟨rfl, hb'⟩)
        go_ret
        exact ⟨rfl, HB1.out.trans (hb'.mono HZ1.out)⟩
      · by_cases h2 : (1099511627776 : Int) < p
        · go_wp2_with (go_at_call 5; refine (HLV.out _).mono ?_; rintro e w' ⟨rfl, hb'⟩)
          go_ret
          exact ⟨rfl, HB1.out.trans (hb'.mono HZ1.out)⟩
        · have h3 : p < 0 := by
            rcases hbad with h | h | h | h
            · cases h
            · exact absurd h h1
            · exact absurd h h2
            · exact h
          clear hbad
          go_wp2_with (go_at_call 5; refine (HLV.out _).mono ?_; rintro e w' ⟨rfl, hb'⟩)
          go_ret
          exact ⟨rfl, HB1.out.trans (hb'.mono HZ1.out)⟩
  · obtain ⟨hb0, hn', hp', hp0'⟩ : b = false ∧ ¬ (1099511627776 : Int) < n ∧ ¬ (1099511627776 : Int) < p ∧ ¬ p < 0 := by
      refine ⟨?_, fun h => hbad (.inr (.inl h)), fun h => hbad (.inr (.inr (.inl h))), fun h => hbad (.inr (.inr (.inr h)))⟩
      cases b
      · rfl
      · exact absurd (.inl rfl) hbad
    clear hbad
    subst hb0
    have hn : n ≤ 1099511627776 := by omega
    have hp : p ≤ 1099511627776 := by omega
    have hp0 : 0 ≤ p := by omega
    obtain ⟨h16, h30⟩ := HMB.out rfl
    have H16 := hide h16
    have H30 := hide h30
    clear HMB h16 h30
    go_wp2_with fail
    go_loopw [7] (fun iv wr => ∃ k : Nat, k ≤ m ∧ iv = .int .i64 k ∧ Below W1.heap.size W1 wr) (fun iv _ => m - (intOf iv).toNat)
    case atStart => exact ⟨0, Nat.zero_le _, rfl, Below.refl _ _⟩
    case round =>
      obtain ⟨k, hk, rfl, hbw⟩ := hrel
      by_cases hlt : (k : Int) < m
      · have hlt' : k < rs.length := by have := HML.out; omega
        have HW := HOR1.out.via hbw hB1
        obtain ⟨b, o, r, Ar, cr, rfl, hb, hx, hrv, c00, HR⟩ := HW.row hlt'
        have hwz := hbw.size
        have HBW := hide hbw
        have HC0 := hide c00
        have HRO := hide HR
        rw [hrv] at HRO
        have HCL := hide (fun W (hb : Below wr.heap.size wr W) => closed_any _ r.xs B W ⟨HRO.out.1.keep (fun _ hp => hb.cell (by omega)), fun x hx => (HRO.out.2 x hx).keep (fun _ hp => hb.cell (by omega))⟩)
        have HCR := hide (fun W (hb : Below wr.heap.size wr W) => closedR_any _ r.xs B W ⟨HRO.out.1.keep (fun _ hp => hb.cell (by omega)), fun x hx => (HRO.out.2 x hx).keep (fun _ hp => hb.cell (by omega))⟩)
        have hbz : b < wr.heap.size := by omega
        have u0 : (0 : Int) ≤ k := by omega
        have u1 : (k : Int) < m := by omega
        obtain ⟨q, hq⟩ : ∃ q, q = r.xs.length := ⟨_, rfl⟩
        rw [← hq] at HC0 HCL HCR
        clear hx hrv c00 HR HW HRO hbw hq c1
        go_upto_region 6 with (fail)
        refine wp_region_inv [fun v _ => v = .slice (some ⟨b, o, none⟩) m cc, fun v _ => v = .int .i64 k, fun v _ => v = .pointer (some ⟨b, o + k, none⟩), fun v _ => v = .slice Ar q cr, fun v _ => v = .bool (closedO r.xs), fun v _ => v = .slice (some ⟨b, o, none⟩) m cc, fun v _ => v = .int .i64 k, fun v _ => v = .pointer (some ⟨b, o + k, none⟩), fun v _ => v = .slice Ar q cr, fun v _ => v = .bool (closedO r.xs), fun v _ => v = .bool false] (by kernel_rfl) (by kernel_rfl) (by kernel_rfl) ?st ?steps ?fin
        case st =>
          intro i v W W' hWW h
          match i with
          | 0 | 1 | 2 | 3 | 4 | 5 | 6 | 7 | 8 | 9 | 10 => exact h
          | (i + 11) => exact h
        case steps =>
          simp only [stepsI]
          refine ⟨?_, ?_, ?_, ?_, ?_, ?_, ?_, ?_, ?_, ?_, ?_, trivial⟩
          · intro f W hbW hdp
            simp only [fS, Nat.reduceAdd]
            go_wp2
            exact ⟨rfl, _, rfl, rfl, Below.refl _ _⟩
          · intro f W hbW hdp
            simp only [fS, Nat.reduceAdd]
            go_wp2
            exact ⟨rfl, _, rfl, rfl, Below.refl _ _⟩
          · intro f W hbW hdp
            have e0 : f 0 = .slice (some ⟨b, o, none⟩) m cc := hdp ⟨0, .data⟩ (mfl (by simp) rfl)
            have e1 : f 1 = .int .i64 k := hdp ⟨1, .data⟩ (mfl (by simp) rfl)
            simp only [fS, Nat.reduceAdd, e0, e1]
            go_wp2
            exact ⟨rfl, _, rfl, rfl, Below.refl _ _⟩
          · intro f W hbW hdp
            have e2 : f 2 = .pointer (some ⟨b, o + k, none⟩) := hdp ⟨2, .data⟩ (mfl (by simp) rfl)
            have c0 : W.cell? ⟨b, o + k, none⟩ = some (.slice Ar q cr) := (hbW.cell hbz).trans HC0.out
            simp only [fS, Nat.reduceAdd, e2]
            go_wp2
            exact ⟨rfl, _, rfl, rfl, Below.refl _ _⟩
          · intro f W hbW hdp
            have e3 : f 3 = .slice Ar q cr := hdp ⟨3, .data⟩ (mfl (by simp) rfl)
            simp only [fS, Nat.reduceAdd, e3]
            go_wp2_with (go_at_call 6; refine (HCL.out _ hbW).mono ?_; rintro e w' ⟨rfl, hw'⟩; obtain rfl := hw'.symm)
            exact ⟨rfl, _, rfl, rfl, Below.refl _ _⟩
          · intro f W hbW hdp
            simp only [fS, Nat.reduceAdd]
            go_wp2
            exact ⟨rfl, _, rfl, rfl, Below.refl _ _⟩
          · intro f W hbW hdp
            simp only [fS, Nat.reduceAdd]
            go_wp2
            exact ⟨rfl, _, rfl, rfl, Below.refl _ _⟩
          · intro f W hbW hdp
            have e5 : f 5 = .slice (some ⟨b, o, none⟩) m cc := hdp ⟨5, .data⟩ (mfl (by simp) rfl)
            have e6 : f 6 = .int .i64 k := hdp ⟨6, .data⟩ (mfl (by simp) rfl)
            simp only [fS, Nat.reduceAdd, e5, e6]
            go_wp2
            exact ⟨rfl, _, rfl, rfl, Below.refl _ _⟩
          · intro f W hbW hdp
            have e7 : f 7 = .pointer (some ⟨b, o + k, none⟩) := hdp ⟨7, .data⟩ (mfl (by simp) rfl)
            have c0 : W.cell? ⟨b, o + k, none⟩ = some (.slice Ar q cr) := (hbW.cell hbz).trans HC0.out
            simp only [fS, Nat.reduceAdd, e7]
            go_wp2
            exact ⟨rfl, _, rfl, rfl, Below.refl _ _⟩
          · intro f W hbW hdp
            have e8 : f 8 = .slice Ar q cr := hdp ⟨8, .data⟩ (mfl (by simp) rfl)
            simp only [fS, Nat.reduceAdd, e8]
            go_wp2_with (go_at_call 7; refine (HCR.out _ hbW).mono ?_; rintro e w' ⟨rfl, hw'⟩; obtain rfl := hw'.symm)
            exact ⟨rfl, _, rfl, rfl, Below.refl _ _⟩
          · intro f W hbW hdp
            have e4 : f 4 = .bool (closedO r.xs) := hdp ⟨4, .data⟩ (mfl (by simp) rfl)
            have e9 : f 9 = .bool (closedO r.xs) := hdp ⟨9, .data⟩ (mfl (by simp) rfl)
            simp only [fS, Nat.reduceAdd, e4, e9]
            go_wp2
            exact ⟨rfl, _, rfl, rfl, Below.refl _ _⟩
        case fin =>
          intro f W hbW hA
          have e10 : f 10 = .bool false := hA 10 (by simp)
          show wpList Tryz.prog #[] (Exit.then _ _) [] _ _
          simp only [fS, Nat.reduceAdd, e10]
          clear hA e10
          have HW2 := hide (HBW.out.trans (hbW.mono hwz))
          clear hbW
          go_wp2
          go_roundw
          case rel => exact ⟨k + 1, by omega, by go_num, HW2.out⟩
          case measure => simp [intOf] <;> omega
      · have kw := Blk.via hbw KC.out
        have HOW := HOR1.out.via hbw hB1
        have hBw : B ≤ wr.heap.size := Nat.le_trans hB1 hbw.size
        have hwz := hbw.size
        have HCA := hide (fun W => call_any a p fr c l n hp0 hp hn W)
        have HCB := hide (fun W => callR_any a p fr c l n hp0 hp hn W)
        have HRA := hide (fun W (hb : Below wr.heap.size wr W) => rounds_any a p fr c l hp0 hp _ rs B W (HOW.via hb hBw) (Nat.le_trans hBw hb.size) H16.out H30.out)
        have HRB := hide (fun W (hb : Below wr.heap.size wr W) => roundsR_any a p fr c l hp0 hp _ rs B W (HOW.via hb hBw) (Nat.le_trans hBw hb.size) H16.out H30.out)
        rw [← HML.out] at HRA HRB
        obtain ⟨X, hX⟩ : ∃ X, X = conf5 a p fr c l := ⟨_, rfl⟩
        have KW := hide (show Blk wr z 23 X by rw [hX]; exact kw)
        have HCX := hide (show (Tryz.prog.info? 23).map (·.size) = some X.size by rw [hX]; exact info_conf5)
        rw [← hX] at HCA HCB HRA HRB
        clear hX kw
        have HBW := hide hbw
        generalize callD p n = cd at *
        generalize totS p rs = td at *
        clear HOW hbw c1
        go_upto_region 8 with (fail)
        refine wp_region_inv [fun v _ => v = .agg X, fun v _ => v = .int .i64 n, fun v _ => v = .int .i64 cd, fun v _ => v = .agg X, fun v _ => v = .int .i64 n, fun v _ => v = .int .i64 cd, fun v _ => v = .bool true, fun v _ => v = .bool true, fun v _ => v = .agg X, fun v _ => v = .slice A m cc, fun v _ => v = .int .i64 td, fun v _ => v = .agg X, fun v _ => v = .slice A m cc, fun v _ => v = .int .i64 td, fun v _ => v = .bool true, fun v _ => v = .bool true, fun v _ => v = .bool true, fun v _ => v = .bool true, fun v _ => v = .bool true, fun v _ => v = .bool true] (by kernel_rfl) (by kernel_rfl) (by kernel_rfl) ?st ?steps ?fin
        case st =>
          intro i v W W' hWW h
          match i with
          | 0 | 1 | 2 | 3 | 4 | 5 | 6 | 7 | 8 | 9 | 10 | 11 | 12 | 13 | 14 | 15 | 16 | 17 | 18 | 19 => exact h
          | (i + 20) => exact h
        case steps =>
          simp only [stepsI]
          refine ⟨?_, ?_, ?_, ?_, ?_, ?_, ?_, ?_, ?_, ?_, ?_, ?_, ?_, ?_, ?_, ?_, ?_, ?_, ?_, ?_, trivial⟩
          · intro f W hbW hdp
            have kB := hide (Blk.via hbW KW.out)
            simp only [fS, Nat.reduceAdd]
            refine wpList_load_rowG (by simp [Region.wanted]) 23 (.tmp 3) rfl z rfl 23 X (0, 0) _ kB.out Tryz.underlying23 rfl HCX.out ?_
            exact ⟨rfl, _, rfl, rfl, Below.refl _ _⟩
          · intro f W hbW hdp
            simp only [fS, Nat.reduceAdd]
            go_wp2
            exact ⟨rfl, _, rfl, rfl, Below.refl _ _⟩
          · intro f W hbW hdp
            have e0 : f 0 = .agg X := hdp ⟨0, .data⟩ (mfl (by simp) rfl)
            have e1 : f 1 = .int .i64 n := hdp ⟨1, .data⟩ (mfl (by simp) rfl)
            simp only [fS, Nat.reduceAdd, e0, e1]
            go_wp2_with (go_at_call 8; refine (HCA.out _).mono ?_; rintro e w' ⟨rfl, hb'⟩)
            exact ⟨rfl, _, rfl, rfl, hb'⟩
          · intro f W hbW hdp
            have kB := hide (Blk.via hbW KW.out)
            simp only [fS, Nat.reduceAdd]
            refine wpList_load_rowG (by simp [Region.wanted]) 23 (.tmp 3) rfl z rfl 23 X (0, 0) _ kB.out Tryz.underlying23 rfl HCX.out ?_
            exact ⟨rfl, _, rfl, rfl, Below.refl _ _⟩
          · intro f W hbW hdp
            simp only [fS, Nat.reduceAdd]
            go_wp2
            exact ⟨rfl, _, rfl, rfl, Below.refl _ _⟩
          · intro f W hbW hdp
            have e3 : f 3 = .agg X := hdp ⟨3, .data⟩ (mfl (by simp) rfl)
            have e4 : f 4 = .int .i64 n := hdp ⟨4, .data⟩ (mfl (by simp) rfl)
            simp only [fS, Nat.reduceAdd, e3, e4]
            go_wp2_with (go_at_call 9; refine (HCB.out _).mono ?_; rintro e w' ⟨rfl, hb'⟩)
            exact ⟨rfl, _, rfl, rfl, hb'⟩
          · intro f W hbW hdp
            have e2 : f 2 = .int .i64 cd := hdp ⟨2, .data⟩ (mfl (by simp) rfl)
            have e5 : f 5 = .int .i64 cd := hdp ⟨5, .data⟩ (mfl (by simp) rfl)
            simp only [fS, Nat.reduceAdd, e2, e5]
            go_wp2
            exact ⟨rfl, _, rfl, rfl, Below.refl _ _⟩
          · intro f W hbW hdp
            have e6 : f 6 = .bool true := hdp ⟨6, .data⟩ (mfl (by simp) rfl)
            simp only [fS, Nat.reduceAdd, e6]
            go_wp2
            exact ⟨rfl, _, rfl, rfl, Below.refl _ _⟩
          · intro f W hbW hdp
            have e7 : f 7 = .bool true := hdp ⟨7, .guard⟩ (mfl (by simp) rfl)
            have kB := hide (Blk.via hbW KW.out)
            simp only [fS, Nat.reduceAdd, e7]
            refine wpList_load_rowG (by simp [Region.wanted, yielded]) 23 (.tmp 3) rfl z rfl 23 X (0, 0) _ kB.out Tryz.underlying23 rfl HCX.out ?_
            exact ⟨rfl, _, rfl, rfl, Below.refl _ _⟩
          · intro f W hbW hdp
            have e7 : f 7 = .bool true := hdp ⟨7, .guard⟩ (mfl (by simp) rfl)
            simp only [fS, Nat.reduceAdd, e7]
            go_wp2
            exact ⟨rfl, _, rfl, rfl, Below.refl _ _⟩
          · intro f W hbW hdp
            have e8 : f 8 = .agg X := hdp ⟨8, .data⟩ (mfl (by simp) rfl)
            have e9 : f 9 = .slice A m cc := hdp ⟨9, .data⟩ (mfl (by simp) rfl)
            have e7 : f 7 = .bool true := hdp ⟨7, .guard⟩ (mfl (by simp) rfl)
            simp only [fS, Nat.reduceAdd, e8, e9, e7]
            go_wp2_with (go_at_call 10; refine (HRA.out _ hbW).mono ?_; rintro e w' ⟨rfl, hb'⟩)
            exact ⟨rfl, _, rfl, rfl, hb'⟩
          · intro f W hbW hdp
            have e7 : f 7 = .bool true := hdp ⟨7, .guard⟩ (mfl (by simp) rfl)
            have kB := hide (Blk.via hbW KW.out)
            simp only [fS, Nat.reduceAdd, e7]
            refine wpList_load_rowG (by simp [Region.wanted, yielded]) 23 (.tmp 3) rfl z rfl 23 X (0, 0) _ kB.out Tryz.underlying23 rfl HCX.out ?_
            exact ⟨rfl, _, rfl, rfl, Below.refl _ _⟩
          · intro f W hbW hdp
            have e7 : f 7 = .bool true := hdp ⟨7, .guard⟩ (mfl (by simp) rfl)
            simp only [fS, Nat.reduceAdd, e7]
            go_wp2
            exact ⟨rfl, _, rfl, rfl, Below.refl _ _⟩
          · intro f W hbW hdp
            have e11 : f 11 = .agg X := hdp ⟨11, .data⟩ (mfl (by simp) rfl)
            have e12 : f 12 = .slice A m cc := hdp ⟨12, .data⟩ (mfl (by simp) rfl)
            have e7 : f 7 = .bool true := hdp ⟨7, .guard⟩ (mfl (by simp) rfl)
            simp only [fS, Nat.reduceAdd, e11, e12, e7]
            go_wp2_with (go_at_call 11; refine (HRB.out _ hbW).mono ?_; rintro e w' ⟨rfl, hb'⟩)
            exact ⟨rfl, _, rfl, rfl, hb'⟩
          · intro f W hbW hdp
            have e10 : f 10 = .int .i64 td := hdp ⟨10, .data⟩ (mfl (by simp) rfl)
            have e13 : f 13 = .int .i64 td := hdp ⟨13, .data⟩ (mfl (by simp) rfl)
            have e7 : f 7 = .bool true := hdp ⟨7, .guard⟩ (mfl (by simp) rfl)
            simp only [fS, Nat.reduceAdd, e10, e13, e7]
            go_wp2
            exact ⟨rfl, _, rfl, rfl, Below.refl _ _⟩
          · intro f W hbW hdp
            have e7 : f 7 = .bool true := hdp ⟨7, .data⟩ (mfl (by simp) rfl)
            have e14 : f 14 = .bool true := hdp ⟨14, .data⟩ (mfl (by simp) rfl)
            simp only [fS, Nat.reduceAdd, e7, e14]
            go_wp2
            exact ⟨rfl, _, rfl, rfl, Below.refl _ _⟩
          · intro f W hbW hdp
            have e15 : f 15 = .bool true := hdp ⟨15, .data⟩ (mfl (by simp) rfl)
            simp only [fS, Nat.reduceAdd, e15]
            go_wp2
            exact ⟨rfl, _, rfl, rfl, Below.refl _ _⟩
          · intro f W hbW hdp
            have e16 : f 16 = .bool true := hdp ⟨16, .guard⟩ (mfl (by simp) rfl)
            simp only [fS, Nat.reduceAdd, e16]
            go_wp2_with (go_at_call 5; refine (HLV.out _).mono ?_; rintro e w' ⟨rfl, hb'⟩)
            exact ⟨rfl, _, rfl, rfl, hb'⟩
          · intro f W hbW hdp
            have e16 : f 16 = .bool true := hdp ⟨16, .data⟩ (mfl (by simp) rfl)
            have e17 : f 17 = .bool true := hdp ⟨17, .data⟩ (mfl (by simp) rfl)
            simp only [fS, Nat.reduceAdd, e16, e17]
            go_wp2
            exact ⟨rfl, _, rfl, rfl, Below.refl _ _⟩
          · intro f W hbW hdp
            have e18 : f 18 = .bool true := hdp ⟨18, .data⟩ (mfl (by simp) rfl)
            simp only [fS, Nat.reduceAdd, e18]
            go_wp2
            exact ⟨rfl, _, rfl, rfl, Below.refl _ _⟩
        case fin =>
          intro f W hbW hA
          have e19 : f 19 = .bool true := hA 19 (by simp)
          show wpList Tryz.prog #[] (Exit.then _ _) [] _ _
          simp only [fS, Nat.reduceAdd, e19]
          clear hA e19
          have HW2 := hide (HB1.out.trans ((HBW.out.trans (hbW.mono hwz)).mono HZ1.out))
          clear hbW
          go_wp2
          go_ret
          exact ⟨rfl, HW2.out⟩
end Go.Proofs.YtceocfeckipihaaGreatDoor
namespace Go.Proofs.YtceocfeckipihaaGreatDoor
open Go.RowKit Go.ChangeShapes Go.WideShapes Go.Deep
theorem flat_lenO {α : Type} (en : α → List Value) (K : Nat) (hK : ∀ x, (en x).length = K) : ∀ l : List α, (l.flatMap en).length = l.length * K
  | [] => by simp
  | x :: l => by rw [List.flatMap_cons, List.length_append, hK, flat_lenO en K hK l, List.length_cons, Nat.add_mul]; omega
theorem flat_atO {α : Type} (en : α → List Value) (K : Nat) (hK : ∀ x, (en x).length = K) : ∀ (l : List α) (i c : Nat) (_ : c < K), (l.flatMap en)[i * K + c]? = (l[i]?).bind fun x => (en x)[c]?
  | [], i, c, _ => by simp
  | x :: l, 0, c, hc => by rw [List.flatMap_cons, Nat.zero_mul, Nat.zero_add, List.getElem?_append_left (by rw [hK]; exact hc)]; rfl
  | x :: l, i + 1, c, hc => by
    rw [List.flatMap_cons, List.getElem?_append_right (by rw [hK, Nat.add_mul]; omega), hK, show (i + 1) * K + c - K = i * K + c by rw [Nat.add_mul]; omega, flat_atO en K hK l i c hc]
    rfl
theorem cells_ops : Tryz.prog.cellsOf 28 = 1 := by kernel_rfl
theorem cells_conf5 : Tryz.prog.cellsOf 23 = 5 := by kernel_rfl
theorem cells_op6 : Tryz.prog.cellsOf 38 = 6 := by kernel_rfl
section
variable {H : Type} {enc : TypeId × Value → H} {w : World} {base : Nat} {spare : Nat → Bool} {held : Bool}
theorem open_sliceG {α : Type} (d0 : α) (tS te : TypeId) (hu : Tryz.prog.underlying tS = some (.slice te)) (K : Nat) (hK : Tryz.prog.cellsOf te = K) (h0 : 0 < K) (f : α → List Value) (hf : ∀ x, (f x).length = K) (Pr : α → Prop)
    (hel : ∀ (fuel : Nat) (cs : List Value) (x : DataW H × List MemPlace), DataW.trod enc Tryz.prog w base spare held fuel te cs = some x → ∃ y : α, cs = f y ∧ Pr y)
    {fuel : Nat} {v : Value} {x : DataW H × List MemPlace} (h : DataW.trod enc Tryz.prog w base spare held fuel tS [v] = some x) :
    ∃ xs : List α, SliceAt w w.heap.size K v xs.length (xs.flatMap f) ∧ ∀ y ∈ xs, Pr y := by
  rcases open_slice hu h with ⟨hcs, _⟩ | ⟨a, len, cap, m, fl, D, Pl, hcs, hb, hl, hm, hmm, hx, hi⟩
  · injection hcs with hcs
    subst hcs
    exact ⟨[], ⟨none, 0, rfl, Nat.le_refl _, Nat.zero_le _, fun _ => rfl, by simpa using Reads.none_⟩, fun y hy => by cases hy⟩
  · injection hcs with hcs
    subst hcs
    have hlm : len ≤ m := by rw [hmm]; split <;> omega
    have hex : ∀ i, i < len → ∃ y : α, (∀ j u, (f y)[j]? = some u → w.cell? (a.add (i * K + j)) = some u) ∧ Pr y := fun i hin => by
      obtain ⟨cs', hc, ht⟩ := hi i (by omega)
      rw [hK] at hc
      obtain ⟨y, rfl, hp⟩ := hel _ _ _ ht
      obtain ⟨_, _, hat⟩ := World.cells?_some hc
      refine ⟨y, fun j u hu => ?_, hp⟩
      have hj : j < K := by
        have := (List.getElem?_eq_some_iff.1 hu).1
        rwa [hf] at this
      rw [← Go.Deep.add_add, hat j hj, hu]
    obtain ⟨g, hg⟩ := @Go.Deep.choose_lt α ⟨d0⟩ len _ hex
    refine ⟨(List.range len).map g, ⟨some a, cap, by simp, by simpa using hl, hm, fun h => (by cases h), ⟨flat_lenO f K hf _, fun hn => ⟨a, rfl, ?_, fun j u hu => ?_⟩⟩⟩, fun y hy => ?_⟩
    · have h1 : 0 < len := by simpa using hn
      obtain ⟨u, hu⟩ : ∃ u, (f (g 0))[0]? = some u := ⟨_, List.getElem?_eq_getElem (by rw [hf]; exact h0)⟩
      exact cell_lt' ((hg 0 h1).1 0 _ hu)
    · have hj : j < len * K := by
        have := (List.getElem?_eq_some_iff.1 hu).1
        rw [flat_lenO f K hf] at this
        simpa using this
      have h1 : j / K < len := (Nat.div_lt_iff_lt_mul h0).2 hj
      have h2 : j = (j / K) * K + j % K := by rw [Nat.mul_comm]; exact (Nat.div_add_mod j K).symm
      rw [h2, flat_atO f K hf _ _ _ (Nat.mod_lt _ h0)] at hu
      simp only [List.getElem?_map, List.getElem?_range h1, Option.map_some, Option.bind_some] at hu
      rw [h2]
      exact (hg (j / K) h1).1 _ u hu
    · obtain ⟨i, hi', rfl⟩ := List.mem_map.1 hy
      exact (hg i (List.mem_range.1 hi')).2
theorem open_opv (fuel : Nat) (cs : List Value) (x : DataW H × List MemPlace) (h : DataW.trod enc Tryz.prog w base spare held fuel 38 cs = some x) : ∃ y : OpV, cs = y.cells ∧ BytesAt w w.heap.size y.dv y.d.data := by
  obtain ⟨d, dv, e1, hb, _⟩ := open_op h
  exact ⟨⟨d, dv⟩, e1, hb⟩
theorem open_rowv (fuel : Nat) (cs : List Value) (x : DataW H × List MemPlace) (h : DataW.trod enc Tryz.prog w base spare held fuel 28 cs = some x) : ∃ y : RowV, cs = y.cells ∧ Ops w w.heap.size y.v y.xs := by
  have hl : cs.length = 1 := by
    rcases open_slice Tryz.underlying28 h with ⟨hcs, _⟩ | ⟨a, len, cap, m, fl, D, Pl, hcs, _⟩ <;> rw [hcs] <;> rfl
  obtain ⟨v, rfl⟩ : ∃ v, cs = [v] := by
    match cs, hl with
    | [v], _ => exact ⟨v, rfl⟩
  obtain ⟨xs, h1, h2⟩ := open_sliceG (⟨⟨0, .empty, [], 0, 0, 0⟩, .slice none 0 0⟩ : OpV) _ _ Tryz.underlying28 6 cells_op6 (by omega) OpV.cells OpV.cells_length (fun y => BytesAt w w.heap.size y.dv y.d.data) open_opv h
  exact ⟨⟨v, xs⟩, rfl, h1, h2⟩
theorem open_oprows {fuel : Nat} {v : Value} {x : DataW H × List MemPlace} (h : DataW.trod enc Tryz.prog w base spare held fuel 24 [v] = some x) : ∃ rs : List RowV, OpRows w w.heap.size v rs :=
  open_sliceG (⟨.slice none 0 0, []⟩ : RowV) _ _ Tryz.underlying24 1 cells_ops (by omega) RowV.cells RowV.cells_length (fun y => Ops w w.heap.size y.v y.xs) open_rowv h
theorem open_conf5 {r : Reach} {B : Nat} {v : Value} {d : DataW H} {ps : List MemPlace} (hv : Value.okWide Tryz.prog w r B 23 v) (h : DataW.Trod enc Tryz.prog w base spare held 23 v d ps) : ∃ a p f c l, v = .agg (conf5 a p f c l) := by
  obtain ⟨cs, rfl, hsz⟩ := okWide_struct Tryz.underlying23 hv
  obtain ⟨ls⟩ := cs
  have hl5 : ls.length = 5 := hsz.trans cells_conf5
  obtain ⟨c0, c1, c2, c3, c4, rfl⟩ := list_of5 hl5
  obtain ⟨fuel, hf⟩ := h
  obtain ⟨xs, n, _, hx, _, hlen, hg⟩ := DataW.trod_struct Tryz.underlying23 hf
  have hxl' : xs.length = 5 := hlen
  obtain ⟨y0, j0⟩ := some_of (hg 0 _ rfl) hxl' (by omega)
  have g0 : DataW.trod enc Tryz.prog w base spare held n 3 [c0] = some y0 := by simpa [Value.cells, cells_int] using j0
  obtain ⟨y1, j1⟩ := some_of (hg 1 _ rfl) hxl' (by omega)
  have g1 : DataW.trod enc Tryz.prog w base spare held n 3 [c1] = some y1 := by simpa [Value.cells, cells_int] using j1
  obtain ⟨y2, j2⟩ := some_of (hg 2 _ rfl) hxl' (by omega)
  have g2 : DataW.trod enc Tryz.prog w base spare held n 3 [c2] = some y2 := by simpa [Value.cells, cells_int] using j2
  obtain ⟨y3, j3⟩ := some_of (hg 3 _ rfl) hxl' (by omega)
  have g3 : DataW.trod enc Tryz.prog w base spare held n 3 [c3] = some y3 := by simpa [Value.cells, cells_int] using j3
  obtain ⟨y4, j4⟩ := some_of (hg 4 _ rfl) hxl' (by omega)
  have g4 : DataW.trod enc Tryz.prog w base spare held n 3 [c4] = some y4 := by simpa [Value.cells, cells_int] using j4
  obtain ⟨t0, e0, _, _⟩ := DataW.trod_int Tryz.underlying3 g0
  obtain ⟨t1, e1, _, _⟩ := DataW.trod_int Tryz.underlying3 g1
  obtain ⟨t2, e2, _, _⟩ := DataW.trod_int Tryz.underlying3 g2
  obtain ⟨t3, e3, _, _⟩ := DataW.trod_int Tryz.underlying3 g3
  obtain ⟨t4, e4, _, _⟩ := DataW.trod_int Tryz.underlying3 g4
  simp only [List.cons.injEq, and_true] at e0 e1 e2 e3 e4
  subst e0 e1 e2 e3 e4
  exact ⟨t0, t1, t2, t3, t4, rfl⟩
end
end Go.Proofs.YtceocfeckipihaaGreatDoor
namespace Go.Proofs.YtceocfeckipihaaGreatDoor.Vm
open Go
noncomputable def forceN {α : Type} (x : Nat) (k : Nat → α) : α := Nat.rec (motive := fun _ => α) (k 0) (fun p _ => k (Nat.succ p)) x
noncomputable def forceI {α : Type} (x : Int) (k : Int → α) : α :=
  match x with
  | .ofNat m => forceN m fun m => k (.ofNat m)
  | .negSucc m => forceN m fun m => k (.negSucc m)
inductive AV where
  | int (k : IntKind) (n : Int)
  | bool (b : Bool)
  | str (s : ByteArray)
  | nilp
  | ptr (n off : Nat)
  | nilslice
  | slice (n off len : Nat) (cap : Option Nat) (es : Nat)
  | empty
  | nilmap
  | map (n : Nat)
  | nilfunc
  | func (fn : FuncId) (first cap : List AV)
  | yield (n : Nat)
  | niliface
  | iface (t : TypeId) (v : AV)
  | agg (cs : List AV)
  | tuple (vs : List AV)
  | bytes (len n : Nat)
  | any
  deriving Inhabited
inductive Tr (α : Type) where
  | nil
  | node (l : Tr α) (v : Option α) (r : Tr α)
namespace Tr
variable {α : Type}
noncomputable def get (t : Tr α) : Nat → Option α :=
  Tr.rec (motive := fun _ => Nat → Option α) (fun _ => none)
    (fun _ v _ gl gr n => Bool.rec (Bool.rec (gr (Nat.sub (Nat.div n 2) 1)) (gl (Nat.div n 2)) (Nat.beq (Nat.mod n 2) 1)) v (Nat.beq n 0)) t
noncomputable def put1 (f : Nat) : Nat → Option α → Tr α :=
  Nat.rec (motive := fun _ => Nat → Option α → Tr α) (fun _ _ => .nil)
    (fun _ ih n x => Bool.rec (Bool.rec (.node .nil none (ih (Nat.sub (Nat.div n 2) 1) x)) (.node (ih (Nat.div n 2) x) none .nil) (Nat.beq (Nat.mod n 2) 1)) (.node .nil x .nil) (Nat.beq n 0)) f
noncomputable def put (t : Tr α) : Nat → Option α → Tr α :=
  Tr.rec (motive := fun _ => Nat → Option α → Tr α) (fun n x => put1 (Nat.succ n) n x)
    (fun l v r pl pr n x => Bool.rec (Bool.rec (.node l v (pr (Nat.sub (Nat.div n 2) 1) x)) (.node (pl (Nat.div n 2) x) v r) (Nat.beq (Nat.mod n 2) 1)) (.node l x r) (Nat.beq n 0)) t
end Tr
inductive ADef where
  | fn (f : FuncId) (args cap : List AV)
  | mark (n : Nat)
inductive AObj where
  | row (elem : TypeId) (cs : List AV)
  | map (es : List (AV × AV × Nat)) (clock : Nat)
  | iter (m : Option Nat) (since : Nat) (seen : List Nat) (last : Nat)
  | siter (s : ByteArray) (pos : Nat)
  | loop (st : LoopState) (pend : Option Code) (t : Tr AV) (n : Nat) (params : List Tmp) (assign body : Code) (dn : Nat)
  | defs (ds : Option (List ADef))
abbrev TS := List (Nat × Nat)
noncomputable def addT : TS → Nat → Nat → TS
  | [], c, b => [(c, b)]
  | x :: r, c, b =>
    match x with
    | (c', m) => bif Nat.beq c c' then forceN (Nat.lor m b) fun m => (c', m) :: r else (c', m) :: addT r c b
noncomputable def TS.add (t : TS) (n : Nat) : TS := addT t (Nat.div n 256) (Nat.shiftLeft 1 (Nat.mod n 256))
def meets1 (c m : Nat) : TS → Bool
  | [] => false
  | x :: r =>
    match x with
    | (c', m') => bif Nat.beq c c' then !(Nat.beq (Nat.land m m') 0) || meets1 c m r else meets1 c m r
def meets : TS → TS → Bool
  | [], _ => false
  | x :: r, t =>
    match x with
    | (c, m) => meets1 c m t || meets r t
noncomputable def TS.or : TS → TS → TS
  | [], t => t
  | x :: r, t =>
    match x with
    | (c, m) => addT (TS.or r t) c m
inductive St where
  | mk (h : Tr AObj) (c : Nat) (r w : TS)
def St.h : St → Tr AObj | .mk h _ _ _ => h
def St.c : St → Nat | .mk _ c _ _ => c
def St.r : St → TS | .mk _ _ r _ => r
def St.w : St → TS | .mk _ _ _ w => w
inductive Rs (α : Type) where
  | ok (a : α) (s : St)
  | err (m : String)
def M (α : Type) := St → Rs α
namespace M
variable {α β : Type}
def pure (a : α) : M α := fun s => .ok a s
def fail (m : String) : M α := fun _ => .err m
noncomputable def bind (m : M α) (k : α → M β) : M β := fun s => Rs.rec (motive := fun _ => Rs β) k (fun e => .err e) (m s)
noncomputable def of (o : Option α) (m : String) : M α := fun s => Option.rec (motive := fun _ => Rs α) (.err m) (fun a => .ok a s) o
end M
noncomputable def getM (n : Nat) : M AObj := fun s =>
  match s with
  | .mk h c r w => bif Nat.ble c n then .err "get: beyond" else
    match h.get n with
    | some o => .ok o (.mk h c (r.add n) w)
    | none => .err "get: nothing there"
noncomputable def setM (n : Nat) (o : Option AObj) : M Unit := fun s =>
  match s with
  | .mk h c r w => bif Nat.ble c n then .err "set: beyond" else .ok () (.mk (h.put n o) c r (w.add n))
noncomputable def newM (o : AObj) : M Nat := fun s =>
  match s with
  | .mk h c r w => forceN (Nat.succ c) fun c' => .ok c (.mk (h.put c (some o)) c' r (w.add c))
noncomputable def touched {α : Type} (m : M α) : M (α × TS × TS) := fun s =>
  match s with
  | .mk h c r w =>
    match m (.mk h c [] []) with
    | .ok a s' =>
      match s' with
      | .mk h' c' r' w' => .ok (a, r', w') (.mk h' c' (TS.or r' r) (TS.or w' w))
    | .err e => .err e
def isB : AV → Option (Nat × Nat)
  | .bytes l n => some (l, n)
  | _ => none
def lenC : List AV → Nat
  | [] => 0
  | a :: r => (match isB a with | some (l, _) => l | none => 1) + lenC r
def splitC : List AV → Nat → Option (List AV × List AV)
  | [], k => bif Nat.beq k 0 then some ([], []) else none
  | a :: r, k =>
    bif Nat.beq k 0 then some ([], a :: r) else
    match isB a with
    | some (l, n) =>
      bif Nat.ble l k then
        match splitC r (Nat.sub k l) with
        | some (x, y) => some (a :: x, y)
        | none => none
      else some ([.bytes k (Nat.mod n (Nat.pow 2 (Nat.mul 8 k)))], .bytes (Nat.sub l k) (Nat.shiftRight n (Nat.mul 8 k)) :: r)
    | none =>
      match splitC r (Nat.sub k 1) with
      | some (x, y) => some (a :: x, y)
      | none => none
noncomputable def joinB (l n : Nat) : List AV → List AV
  | [] => [.bytes l n]
  | b :: r =>
    match isB b with
    | some (l2, n2) => forceN (Nat.add l l2) fun l3 => forceN (Nat.add n (Nat.shiftLeft n2 (Nat.mul 8 l))) fun n3 => .bytes l3 n3 :: r
    | none => .bytes l n :: b :: r
noncomputable def joinC : List AV → List AV → List AV
  | [], y => y
  | a :: r, y =>
    match r with
    | [] => match isB a with
      | some (l, n) => joinB l n y
      | none => a :: y
    | _ :: _ => a :: joinC r y
def byteOf : Int → Option Nat
  | .ofNat n => bif Nat.ble n 255 then some n else none
  | .negSucc _ => none
def isU8 : IntKind → Bool
  | .u8 => true
  | _ => false
def cellsO (v : AV) : Option (List AV) :=
  match v with
  | .agg cs => some cs
  | .int k n => bif isU8 k then (match byteOf n with | some b => some [.bytes 1 b] | none => none) else some [v]
  | .tuple _ => none
  | .bytes _ _ => none
  | .any => none
  | _ => some [v]
def oneA : List AV → Option AV
  | [a] =>
    match isB a with
    | some (l, n) => bif Nat.beq l 1 then some (.int .u8 (.ofNat n)) else none
    | none => some a
  | _ => none
def loadC (cs : List AV) (off k : Nat) : Option (List AV) :=
  match splitC cs off with
  | some (_, y) =>
    match splitC y k with
    | some (z, _) => some z
    | none => none
  | none => none
noncomputable def storeC (cs : List AV) (off k : Nat) (new : List AV) : Option (List AV) :=
  match splitC cs off with
  | some (x, y) =>
    match splitC y k with
    | some (_, z) => some (joinC x (joinC new z))
    | none => none
  | none => none
inductive TyD where
  | int (k : IntKind)
  | bool
  | str
  | ptr (elem : TypeId)
  | slice (elem : TypeId)
  | arr (len : Nat) (elem : TypeId)
  | struct (fields : List (Nat × TypeId))
  | map (key elem : TypeId)
  | fn
  | ifc
  | other
structure TyI where
  agg : Bool
  size : Nat
  bytes : Nat
  zero : AV
  zc : List AV
  desc : TyD
  flat : Bool
inductive AAct where
  | mk (t : Tr AV) (n : Nat) (d : List ADef)
def AAct.t : AAct → Tr AV | .mk t _ _ => t
def AAct.n : AAct → Nat | .mk _ n _ => n
def AAct.d : AAct → List ADef | .mk _ _ d => d
inductive AExit where
  | normal
  | exit (id : Nat)
  | ret
structure Env where
  ty : Tr TyI
  fn : Tr Func
  meth : List (TypeId × String × FuncId)
  orc : Tr (List AV → M AV)
  calm : List FuncId
def undefA : AV := .tuple []
def constA : Value → Option AV
  | .int k n => some (.int k n)
  | .bool b => some (.bool b)
  | .string s => some (.str s)
  | .pointer none => some .nilp
  | .slice none 0 0 => some .nilslice
  | .map none => some .nilmap
  | .nilFunc => some .nilfunc
  | .nilIface => some .niliface
  | _ => none
inductive Opd where
  | slot (t : Nat)
  | val (v : AV)
  | no
def opd : Operand → Opd
  | .tmp t => .slot t
  | .const v => match constA v with
    | some a => .val a
    | none => .no
  | .global _ => .no
  | .func f => .val (.func f [] [])
noncomputable def slotA (T : Tr AV) (t : Nat) : AV := Option.rec (motive := fun _ => AV) undefA (fun v => v) (T.get t)
noncomputable def rd (T : Tr AV) (x : Opd) : M AV := fun s => Opd.rec (motive := fun _ => Rs AV) (fun t => .ok (slotA T t) s) (fun v => .ok v s) (.err "operand") x
def opds : List Operand → List Opd
  | [] => []
  | x :: r => opd x :: opds r
noncomputable def rds (T : Tr AV) : List Opd → M (List AV)
  | [] => M.pure []
  | x :: r => M.bind (rd T x) fun v => M.bind (rds T r) fun vs => M.pure (v :: vs)
end Go.Proofs.YtceocfeckipihaaGreatDoor.Vm
namespace Go.Proofs.YtceocfeckipihaaGreatDoor.Vm
open Go
noncomputable def withTy {α : Type} (E : Env) (t : TypeId) (k : TyI → M α) : M α := fun s =>
  match E.ty.get t with
  | some i => k i s
  | none => .err "type"
noncomputable def addrA : AV → Option (Nat × Nat)
  | .ptr n o => some (n, o)
  | _ => none
noncomputable def rowO : AObj → Option (TypeId × List AV)
  | .row e cs => some (e, cs)
  | _ => none
noncomputable def rowM (n : Nat) : M (TypeId × List AV) := M.bind (getM n) fun o => M.of (rowO o) "row expected"
noncomputable def partA (agg : Bool) (l : List AV) : M AV := fun s =>
  match agg with
  | true => .ok (.agg l) s
  | false => M.of (oneA l) "one" s
noncomputable def loadI (agg : Bool) (size : Nat) (a : AV) : M AV := M.bind (M.of (addrA a) "load: address") fun p =>
  M.bind (rowM p.1) fun q => M.bind (M.of (loadC q.2 p.2 size) "load: cells") fun l => partA agg l
noncomputable def loadM (i : TyI) (a : AV) : M AV := loadI i.agg i.size a
noncomputable def storeM (i : TyI) (a v : AV) : M Unit := M.bind (M.of (addrA a) "store: address") fun p =>
  M.bind (rowM p.1) fun q => M.bind (M.of (cellsO v) "store: value") fun new =>
  bif Nat.beq (lenC new) i.size then M.bind (M.of (storeC q.2 p.2 i.size new) "store: cells") fun cs => setM p.1 (some (.row q.1 cs)) else M.fail "store: size"
noncomputable def fillA (place : Nat → Option (Nat × Nat)) (cs : List AV) : List (Nat × AV) → Option (List AV)
  | [] => some cs
  | x :: r =>
    match place x.1 with
    | none => none
    | some p =>
      match cellsO x.2 with
      | none => none
      | some new =>
        bif Nat.beq (lenC new) p.2 then
          match storeC cs p.1 p.2 new with
          | some cs' => fillA place cs' r
          | none => none
        else none
noncomputable def opdsP : List (Nat × Operand) → List (Nat × Opd)
  | [] => []
  | x :: r => (x.1, opd x.2) :: opdsP r
noncomputable def rdsP (T : Tr AV) : List (Nat × Opd) → M (List (Nat × AV))
  | [] => M.pure []
  | x :: r => M.bind (rd T x.2) fun v => M.bind (rdsP T r) fun vs => M.pure ((x.1, v) :: vs)
noncomputable def placeS (E : Env) (fs : List (Nat × TypeId)) (i : Nat) : Option (Nat × Nat) :=
  match fs[i]? with
  | some p => match E.ty.get p.2 with
    | some j => some (p.1, j.size)
    | none => none
  | none => none
noncomputable def placeA (size : Nat) (i : Nat) : Option (Nat × Nat) := some (Nat.mul i size, size)
noncomputable def fieldsD : TyD → Option (List (Nat × TypeId))
  | .struct fs => some fs
  | _ => none
noncomputable def arrD : TyD → Option (Nat × TypeId)
  | .arr n e => some (n, e)
  | _ => none
noncomputable def sliceD : TyD → Option TypeId
  | .slice e => some e
  | _ => none
noncomputable def mapD : TyD → Option (TypeId × TypeId)
  | .map k e => some (k, e)
  | _ => none
noncomputable def intD : TyD → Option IntKind
  | .int k => some k
  | _ => none
noncomputable def strD : TyD → Bool
  | .str => true
  | _ => false
noncomputable def buildM (E : Env) (i : TyI) (parts : List (Nat × AV)) : M AV :=
  match fieldsD i.desc with
  | some fs => M.bind (M.of (fillA (placeS E fs) i.zc parts) "build") fun cs => M.pure (.agg cs)
  | none => match arrD i.desc with
    | some p => withTy E p.2 fun j => M.bind (M.of (fillA (placeA j.size) i.zc parts) "build") fun cs => M.pure (.agg cs)
    | none => M.fail "build: type"
noncomputable def zerosA (z : List AV) : Nat → List AV
  | 0 => []
  | n + 1 => joinC z (zerosA z n)
noncomputable def buildSliceM (E : Env) (i : TyI) (len : Nat) (parts : List (Nat × AV)) : M AV :=
  match sliceD i.desc with
  | some e => withTy E e fun j =>
    bif Nat.ble (Nat.mul len j.size) 100000 && !(Nat.beq j.size 0) then
      M.bind (M.of (fillA (placeA j.size) (zerosA j.zc len) parts) "buildSlice") fun cs =>
      M.bind (newM (.row e cs)) fun n => M.pure (.slice n 0 len (some len) j.size)
    else M.fail "buildSlice: size"
  | none => M.fail "buildSlice: type"
noncomputable def mkInt (k : IntKind) (n : Int) : AV := forceI n fun n => .int k n
noncomputable def wrapF (k : IntKind) (n : Int) : AV := mkInt k (k.wrap n)
noncomputable def isConst : Operand → Bool
  | .const _ => true
  | _ => false
noncomputable def intA : AV → Option (IntKind × Int)
  | .int k n => some (k, n)
  | _ => none
noncomputable def boolA : AV → Option Bool
  | .bool b => some b
  | _ => none
noncomputable def strA : AV → Option ByteArray
  | .str s => some s
  | _ => none
noncomputable def natOf : Int → Option Nat
  | .ofNat n => some n
  | .negSucc _ => none
noncomputable def natA (v : AV) : Option Nat :=
  match intA v with
  | some p => natOf p.2
  | none => none
noncomputable def nilP : AV → Option Bool
  | .nilp => some true
  | .ptr _ _ => some false
  | _ => none
noncomputable def nilS : AV → Option Bool
  | .nilslice => some true
  | .slice _ _ _ _ _ => some false
  | .empty => some false
  | _ => none
noncomputable def nilM : AV → Option Bool
  | .nilmap => some true
  | .map _ => some false
  | _ => none
noncomputable def nilF : AV → Option Bool
  | .nilfunc => some true
  | .func _ _ _ => some false
  | .yield _ => some false
  | _ => none
noncomputable def nilI : AV → Option Bool
  | .niliface => some true
  | .iface _ _ => some false
  | _ => none
noncomputable def liveA : AV → Bool
  | .ptr _ _ => true
  | .map _ => true
  | .func _ _ _ => true
  | .yield _ => true
  | .iface _ _ => true
  | _ => false
noncomputable def aggA : AV → Option (List AV)
  | .agg cs => some cs
  | _ => none
noncomputable def eqLB : List AV → List AV → Option Bool
  | [], [] => some true
  | a :: x, b :: y =>
    match isB a, isB b with
    | some p, some q => bif Nat.beq p.1 q.1 then (match eqLB x y with | some r => some (Nat.beq p.2 q.2 && r) | none => none) else none
    | _, _ => none
  | _, _ => none
noncomputable def eqSc (a b : AV) : Option Bool :=
  match intA a, intA b with
  | some p, some q => if p.1 = q.1 then some (p.2 == q.2) else none
  | _, _ =>
    match strA a, strA b with
    | some p, some q => some (p == q)
    | _, _ => none
noncomputable def eqLI : List AV → List AV → Option Bool
  | [], [] => some true
  | a :: x, b :: y =>
    match eqSc a b with
    | some c => (match eqLI x y with | some r => some (c && r) | none => none)
    | none => none
  | _, _ => none
noncomputable def isArrD : TyD → Bool
  | .arr _ _ => true
  | _ => false
noncomputable def eqFlat (arr : Bool) : List AV → List AV → Option Bool :=
  match arr with
  | true => eqLB
  | false => eqLI
noncomputable def shapeB (arr : Bool) (n : Nat) (zc a : List AV) : Bool := Nat.beq (lenC a) n && (match eqFlat arr a zc with
  | some _ => true
  | none => false)
noncomputable def kindsD : TyD → Nat
  | .int _ => 0
  | .bool => 6
  | .str => 0
  | .ptr _ => 1
  | .struct _ => 3
  | .arr _ _ => 3
  | .slice _ => 2
  | .map _ _ => 2
  | .fn => 2
  | .ifc => 4
  | .other => 5
noncomputable def keyD : TyD → Bool
  | .int _ => true
  | .bool => true
  | .str => true
  | _ => false
noncomputable def concreteD : TyD → Bool
  | .ifc => false
  | .other => false
  | _ => true
noncomputable def eqNil (f : AV → Option Bool) (x y : AV) : M Bool := fun s =>
  match f x, f y with
  | some true, some b => .ok b s
  | some false, some true => .ok false s
  | _, _ => .err "eq: forms"
noncomputable def ptrD : TyD → Option TypeId
  | .ptr e => some e
  | _ => none
noncomputable def eqP (E : Env) (d : TyD) (x y : AV) : M Bool := fun s =>
  match addrA x, addrA y with
  | some p, some q => (M.bind (M.of (ptrD d) "eq: pointer") fun e => withTy E e fun j => bif Nat.beq j.size 0 then M.fail "eq: no cells" else
    M.bind (rowM p.1) fun _ => M.bind (rowM q.1) fun _ => M.pure (Nat.beq p.1 q.1 && Nat.beq p.2 q.2)) s
  | _, _ => eqNil nilP x y s
noncomputable def eqRef (d : TyD) : AV → AV → M Bool :=
  match d with
  | .slice _ => eqNil nilS
  | .map _ _ => eqNil nilM
  | .fn => eqNil nilF
  | _ => fun _ _ => M.fail "eq: type"
noncomputable def eqIS (a b : AV) : Option Bool :=
  match intA a, intA b with
  | some p, some q => if p.1 = q.1 then some (p.2 == q.2) else none
  | _, _ =>
    match strA a, strA b with
    | some p, some q => some (p == q)
    | _, _ => none
noncomputable def eqAgg (i : TyI) (x y : AV) : M Bool := fun s =>
  match aggA x, aggA y with
  | some a, some b => bif i.flat && shapeB (isArrD i.desc) i.size i.zc a then M.of (eqFlat (isArrD i.desc) a b) "eq: parts" s else .err "eq: struct"
  | _, _ => .err "eq: struct"
noncomputable def eqB (a b : AV) : Option Bool :=
  match boolA a, boolA b with
  | some p, some q => some (p == q)
  | _, _ => none
noncomputable def eqT (E : Env) (i : TyI) (lit : Bool) (x y : AV) : M Bool :=
  match kindsD i.desc with
  | 0 => M.of (eqIS x y) "eq: scalars"
  | 1 => eqP E i.desc x y
  | 2 => eqRef i.desc x y
  | 3 => eqAgg i x y
  | 4 => bif lit then eqNil nilI x y else M.fail "eq: two values of an interface"
  | 6 => M.of (eqB x y) "eq: truth values"
  | _ => M.fail "eq: type"
noncomputable def int2 (f : IntKind → Int → Int → Option AV) (x y : AV) : M AV :=
  match intA x, intA y with
  | some p, some q => if p.1 = q.1 then M.of (f p.1 p.2 q.2) "binop" else M.fail "binop: kinds"
  | _, _ => M.fail "binop: ints"
noncomputable def sh2 (f : IntKind → Int → Nat → AV) (x y : AV) : M AV :=
  match intA x, natA y with
  | some p, some n => M.pure (f p.1 p.2 (min n p.1.bits))
  | _, _ => M.fail "shift"
noncomputable def cmp2 (f : Int → Int → Bool) (g : ByteArray → ByteArray → Bool) (x y : AV) : M AV := fun s =>
  match intA x, intA y with
  | some p, some q => if p.1 = q.1 then .ok (.bool (f p.2 q.2)) s else .err "binop: kinds"
  | _, _ =>
    match strA x, strA y with
    | some a, some b => .ok (.bool (g a b)) s
    | _, _ => .err "compare"
noncomputable def ltS (a b : ByteArray) : Bool := Op.bytesLess a.toList b.toList
noncomputable def leS (a b : ByteArray) : Bool := Op.bytesLess a.toList b.toList || a.toList == b.toList
noncomputable def addA (x y : AV) : M AV := fun s =>
  match strA x, strA y with
  | some a, some b => bif Nat.ble (Nat.add a.data.size b.data.size) 1000000 then .ok (.str (a ++ b)) s else .err "string: great"
  | _, _ => int2 (fun k a b => some (wrapF k (a + b))) x y s
noncomputable def bitsA (f : (n : Nat) → BitVec n → BitVec n → BitVec n) (k : IntKind) (a b : Int) : Option AV := some (wrapF k (f k.bits (BitVec.ofInt k.bits a) (BitVec.ofInt k.bits b)).toNat)
noncomputable def binF (E : Env) (op : BinOp) (t : TypeId) (lit : Bool) : AV → AV → M AV :=
  match op with
  | .eql => fun x y => withTy E t fun i => M.bind (eqT E i lit x y) fun b => M.pure (.bool b)
  | .neq => fun x y => withTy E t fun i => M.bind (eqT E i lit x y) fun b => M.pure (.bool (!b))
  | .shl => sh2 fun k a n => wrapF k (a * 2 ^ n)
  | .shr => sh2 fun k a n => mkInt k (a.fdiv (2 ^ n))
  | .add => addA
  | .sub => int2 fun k a b => some (wrapF k (a - b))
  | .mul => int2 fun k a b => some (wrapF k (a * b))
  | .quo => int2 fun k a b => if b = 0 then none else some (wrapF k (a.tdiv b))
  | .rem => int2 fun k a b => if b = 0 then none else some (mkInt k (a.tmod b))
  | .and => int2 (bitsA fun _ a b => a &&& b)
  | .or => int2 (bitsA fun _ a b => a ||| b)
  | .xor => int2 (bitsA fun _ a b => a ^^^ b)
  | .andNot => int2 (bitsA fun _ a b => a &&& ~~~b)
  | .lss => cmp2 (fun a b => decide (a < b)) ltS
  | .leq => cmp2 (fun a b => decide (a ≤ b)) leS
  | .gtr => cmp2 (fun a b => decide (a > b)) (fun a b => !(leS a b))
  | .geq => cmp2 (fun a b => decide (a ≥ b)) (fun a b => !(ltS a b))
noncomputable def unF (op : UnOp) : AV → M AV :=
  match op with
  | .neg => fun x => M.bind (M.of (intA x) "unop") fun p => M.pure (wrapF p.1 (0 - p.2))
  | .xor => fun x => M.bind (M.of (intA x) "unop") fun p => M.of (bitsA (fun _ a b => a ^^^ b) p.1 (if p.1.signed then -1 else p.1.max) p.2) "unop"
  | .not => fun x => M.bind (M.of (boolA x) "unop") fun b => M.pure (.bool (!b))
  | .plus => fun _ => M.fail "unop"
noncomputable def unpack : Nat → Nat → List UInt8
  | 0, _ => []
  | l + 1, n => UInt8.ofNat (Nat.mod n 256) :: unpack l (Nat.div n 256)
noncomputable def pack : List UInt8 → Nat
  | [] => 0
  | b :: r => Nat.add b.toNat (Nat.mul 256 (pack r))
noncomputable def bytesOfC : List AV → Option (List UInt8)
  | [] => some []
  | a :: r =>
    match isB a with
    | some p => match bytesOfC r with
      | some x => some (unpack p.1 p.2 ++ x)
      | none => none
    | none => none
inductive SlV where
  | mk (n off len : Nat) (cap : Option Nat) (es : Nat)
inductive SlK where
  | nil
  | empty
  | some (v : SlV)
noncomputable def slA : AV → Option SlK
  | .nilslice => Option.some .nil
  | .empty => Option.some .empty
  | .slice n off len cap es => Option.some (.some (.mk n off len cap es))
  | _ => none
noncomputable def packS (s : ByteArray) : List AV :=
  match s.toList with
  | [] => []
  | b :: r => [.bytes (List.length (b :: r)) (pack (b :: r))]
noncomputable def cellsM (size : Nat) (x : AV) : M (List AV × Nat) :=
  match slA x with
  | some .nil => M.pure ([], 0)
  | some .empty => M.pure ([], 0)
  | some (.some (.mk n off len _ es)) => bif Nat.beq es size then M.bind (rowM n) fun q => M.bind (M.of (loadC q.2 off (Nat.mul len es)) "slice: cells") fun cs => M.pure (cs, len) else M.fail "slice: size"
  | none => bif Nat.beq size 1 then M.bind (M.of (strA x) "slice expected") fun s => M.pure (packS s, s.toList.length) else M.fail "slice: string"
noncomputable def convF (E : Env) (src dst : TypeId) : AV → M AV := fun x => withTy E src fun i => withTy E dst fun j =>
  match intD j.desc with
  | some k => M.bind (M.of (intA x) "convert") fun p => M.pure (wrapF k p.2)
  | none =>
    bif strD j.desc then
      bif strD i.desc then M.bind (M.of (strA x) "convert") fun s => M.pure (.str s) else
      match sliceD i.desc with
      | some e => withTy E e fun q =>
        match intD q.desc, slA x with
        | some .u8, some _ => M.bind (cellsM 1 x) fun cs => M.bind (M.of (bytesOfC cs.1) "convert: bytes") fun l => M.pure (.str ⟨l.toArray⟩)
        | _, _ => M.fail "convert"
      | none => M.fail "convert"
    else M.fail "convert"
noncomputable def makeSliceM (E : Env) (i : TyI) (l c : AV) : M AV :=
  match sliceD i.desc with
  | some e => withTy E e fun j => M.bind (M.of (natA l) "makeSlice") fun l => M.bind (M.of (natA c) "makeSlice") fun c =>
    bif Nat.ble l c && Nat.ble c 100000 && Nat.ble (Nat.mul j.bytes c) 100000000 && !(Nat.beq j.size 0) then
      M.bind (newM (.row e (zerosA j.zc c))) fun n => M.pure (.slice n 0 l (some c) j.size)
    else M.fail "makeSlice: size"
  | none => M.fail "makeSlice: type"
noncomputable def fieldAddrM (E : Env) (i : TyI) (f : Nat) (x : AV) : M AV :=
  match fieldsD i.desc with
  | some fs => match fs[f]? with
    | some q => withTy E q.2 fun j => bif Nat.beq j.size 0 then M.fail "fieldAddr: no cells" else M.bind (M.of (addrA x) "fieldAddr") fun p => M.pure (forceN (Nat.add p.2 q.1) fun o => .ptr p.1 o)
    | none => M.fail "fieldAddr"
  | none => M.fail "fieldAddr: type"
noncomputable def fieldM (E : Env) (i : TyI) (f : Nat) (x : AV) : M AV :=
  match fieldsD i.desc with
  | some fs => match fs[f]? with
    | some q => withTy E q.2 fun j => M.bind (M.of (aggA x) "field") fun cs => M.bind (M.of (loadC cs q.1 j.size) "field") fun l => partA j.agg l
    | none => M.fail "field"
  | none => M.fail "field: type"
noncomputable def indexAddrM (E : Env) (i : TyI) (x ix : AV) : M AV := M.bind (M.of (natA ix) "index") fun k =>
  match sliceD i.desc with
  | some e => withTy E e fun j =>
    match slA x with
    | some (.some (.mk n off len _ es)) => bif Nat.blt k len && Nat.beq j.size es then M.pure (forceN (Nat.add off (Nat.mul k es)) fun o => .ptr n o) else M.fail "index: out of range"
    | _ => M.fail "index: slice"
  | none => match arrD i.desc with
    | some q => withTy E q.2 fun j => M.bind (M.of (addrA x) "index") fun p =>
      bif Nat.blt k q.1 then M.pure (forceN (Nat.add p.2 (Nat.mul k j.size)) fun o => .ptr p.1 o) else M.fail "index: out of range"
    | none => M.fail "index: type"
noncomputable def indexM (E : Env) (i : TyI) (x ix : AV) : M AV := M.bind (M.of (natA ix) "index") fun k =>
  match arrD i.desc with
  | some q => withTy E q.2 fun j => M.bind (M.of (aggA x) "index") fun cs =>
    bif Nat.blt k q.1 then M.bind (M.of (loadC cs (Nat.mul k j.size) j.size) "index") fun l => partA j.agg l else M.fail "index: out of range"
  | none => bif strD i.desc then M.bind (M.of (strA x) "index") fun s =>
      match s.toList[k]? with
      | some b => M.pure (.int .u8 b.toNat)
      | none => M.fail "index: out of range"
    else M.fail "index: type"
noncomputable def bound1 (v : Option AV) (d most : Nat) : Option Nat :=
  match v with
  | none => some d
  | some v => match natA v with
    | some n => bif Nat.ble n most then some n else none
    | none => none
noncomputable def boundsA (len cap : Nat) (lo hi mx : Option AV) : Option (Nat × Nat × Nat) :=
  bif mx.isSome && hi.isNone then none else
  match bound1 mx cap cap with
  | none => none
  | some m =>
    match bound1 hi len m with
    | none => none
    | some h =>
      match bound1 lo 0 h with
      | none => none
      | some l => bif Nat.ble h m && Nat.ble l h then some (l, h, m) else none
noncomputable def cutF (n off es : Nat) (l h m : Nat) : AV := .slice n (bif Nat.beq m l then off else Nat.add off (Nat.mul l es)) (Nat.sub h l) (some (Nat.sub m l)) es
noncomputable def sliceM (E : Env) (i : TyI) (x : AV) (lo hi mx : Option AV) : M AV :=
  match sliceD i.desc with
  | some e => withTy E e fun j =>
    match slA x with
    | some .nil => M.bind (M.of (boundsA 0 0 lo hi mx) "slice: bounds") fun _ => M.pure .nilslice
    | some (.some (.mk n off len (some c) es)) => bif Nat.beq es j.size then M.bind (M.of (boundsA len c lo hi mx) "slice: bounds") fun q => M.pure (cutF n off es q.1 q.2.1 q.2.2) else M.fail "slice: size"
    | some (.some (.mk n off len none es)) => M.bind (rowM n) fun r =>
      bif Nat.beq es 0 || !(Nat.beq es j.size) then M.fail "slice: size" else M.bind (M.of (boundsA len (Nat.div (Nat.sub (lenC r.2) off) es) lo hi mx) "slice: bounds") fun q =>
      match mx with
      | some _ => M.pure (cutF n off es q.1 q.2.1 q.2.2)
      | none => bif Nat.blt q.1 q.2.2 then M.pure (.slice n (Nat.add off (Nat.mul q.1 es)) (Nat.sub q.2.1 q.1) none es) else M.pure .empty
    | _ => M.fail "slice: form"
  | none => match arrD i.desc with
    | some p => withTy E p.2 fun j => M.bind (M.of (addrA x) "slice: array") fun a => M.bind (M.of (boundsA p.1 p.1 lo hi mx) "slice: bounds") fun q => M.pure (cutF a.1 a.2 j.size q.1 q.2.1 q.2.2)
    | none => bif strD i.desc then M.bind (M.of (strA x) "slice: string") fun s =>
        match mx with
        | some _ => M.fail "slice: string"
        | none => M.bind (M.of (boundsA s.toList.length s.toList.length lo hi none) "slice: bounds") fun q => M.pure (.str (s.extract q.1 q.2.1))
      else M.fail "slice: type"
abbrev Ent := AV × AV × Nat
noncomputable def sameI (a b : AV) : Option Bool :=
  match intA a, intA b with
  | some p, some q => if p.1 = q.1 then some (p.2 == q.2) else none
  | _, _ => none
noncomputable def sameS (a b : AV) : Option Bool :=
  match strA a, strA b with
  | some p, some q => some (p == q)
  | _, _ => none
noncomputable def sameB (a b : AV) : Option Bool :=
  match boolA a, boolA b with
  | some p, some q => some (p == q)
  | _, _ => none
abbrev KeyC := AV → AV → Option Bool
noncomputable def sameKey (d : TyD) : KeyC :=
  match d with
  | .int _ => sameI
  | .str => sameS
  | .bool => sameB
  | _ => fun _ _ => none
noncomputable def findE (f : KeyC) (k : AV) : List Ent → Nat → Option (Option (Nat × AV))
  | [], _ => some none
  | e :: r, i =>
    match f k e.1 with
    | some true => some (some (i, e.2.1))
    | some false => findE f k r (Nat.succ i)
    | none => none
noncomputable def putE (f : KeyC) (k v : AV) : List Ent → Nat → Option (List Ent × Nat)
  | [], c => some ([(k, v, c)], Nat.succ c)
  | e :: r, c =>
    match f k e.1 with
    | some true => some ((k, v, e.2.2) :: r, c)
    | some false => match putE f k v r c with
      | some q => some (e :: q.1, q.2)
      | none => none
    | none => none
noncomputable def delE (f : KeyC) (k : AV) : List Ent → Option (List Ent)
  | [] => some []
  | e :: r =>
    match f k e.1 with
    | some true => some r
    | some false => match delE f k r with
      | some r' => some (e :: r')
      | none => none
    | none => none
noncomputable def mapA : AV → Option (Option Nat)
  | .nilmap => some none
  | .map n => some (some n)
  | _ => none
noncomputable def mapO : AObj → Option (List Ent × Nat)
  | .map es c => some (es, c)
  | _ => none
noncomputable def mapM (n : Nat) : M (List Ent × Nat) := M.bind (getM n) fun o => M.of (mapO o) "map expected"
noncomputable def sameP (n : Nat) (zc : List AV) (a b : AV) : Option Bool :=
  match aggA a, aggA b with
  | some x, some y => bif shapeB false n zc x then eqLI x y else none
  | _, _ => none
noncomputable def keyP (i : TyI) (k : AV) : Bool := i.flat && (!(isArrD i.desc) && (match kindsD i.desc with
  | 3 => (match sameP i.size i.zc k k with
    | some b => b
    | none => false)
  | _ => false))
noncomputable def withKey {α : Type} (E : Env) (t : TypeId) (k : AV) (f : KeyC → M α) : M α := withTy E t fun i => bif keyD i.desc then f (sameKey i.desc) else bif keyP i k then f (sameP i.size i.zc) else M.fail "map: key"
noncomputable def lookDone (ok : Bool) (z : AV) (r : Option (Nat × AV)) : M AV :=
  match r with
  | some p => M.pure (bif ok then .tuple [p.2, .bool true] else p.2)
  | none => M.pure (bif ok then .tuple [z, .bool false] else z)
noncomputable def lookupM (E : Env) (i : TyI) (ok : Bool) (x k : AV) : M AV :=
  match mapD i.desc with
  | some p => withKey E p.1 k fun f => withTy E p.2 fun j => M.bind (M.of (mapA x) "lookup: map") fun m =>
    match m with
    | none => lookDone ok j.zero none
    | some n => M.bind (mapM n) fun q => M.bind (M.of (findE f k q.1 0) "lookup: key") fun r => lookDone ok j.zero r
  | none => M.fail "lookup: type"
noncomputable def updateM (E : Env) (i : TyI) (x k v : AV) : M Unit :=
  match mapD i.desc with
  | some p => withKey E p.1 k fun f => M.bind (M.of (mapA x) "update: map") fun m => M.bind (M.of m "update: nil") fun n =>
    M.bind (mapM n) fun q => M.bind (M.of (putE f k v q.1 q.2) "update: key") fun r => setM n (some (.map r.1 r.2))
  | none => M.fail "update: type"
noncomputable def deleteM (E : Env) (i : TyI) (x k : AV) : M AV :=
  match mapD i.desc with
  | some p => withKey E p.1 k fun f => M.bind (M.of (mapA x) "delete: map") fun m =>
    match m with
    | none => M.pure undefA
    | some n => M.bind (mapM n) fun q => M.bind (M.of (delE f k q.1) "delete: key") fun es => M.bind (setM n (some (.map es q.2))) fun _ => M.pure undefA
  | none => M.fail "delete: type"
noncomputable def rangeM (i : TyI) (x : AV) : M AV :=
  match mapD i.desc with
  | some _ => M.bind (M.of (mapA x) "range: map") fun m =>
    match m with
    | none => M.bind (newM (.iter none 0 [] 0)) fun n => M.pure (.ptr n 0)
    | some m => M.bind (mapM m) fun q => M.bind (newM (.iter (some m) q.2 [] q.2)) fun n => M.pure (.ptr n 0)
  | none => bif strD i.desc then M.bind (M.of (strA x) "range: text") fun s => M.bind (newM (.siter s 0)) fun n => M.pure (.ptr n 0) else M.fail "range: type"
noncomputable def iterO : AObj → Option (Option Nat × Nat × List Nat × Nat)
  | .iter m since seen last => some (m, since, seen, last)
  | _ => none
noncomputable def seenB (b : Nat) : List Nat → Bool
  | [] => false
  | x :: r => Nat.beq b x || seenB b r
noncomputable def next1 (n m since : Nat) (seen : List Nat) (last c : Nat) : List Ent → M AV
  | [] => M.pure (.tuple [.bool false])
  | [e] =>
    bif seenB e.2.2 seen then (bif Nat.blt e.2.2 last then M.pure (.tuple [.bool false]) else M.fail "next: clock") else
    match seen with
    | [] => bif Nat.blt e.2.2 since then M.bind (setM n (some (.iter (some m) since [e.2.2] c))) fun _ => M.pure (.tuple [.bool true, e.1, e.2.1]) else M.fail "next: new entry"
    | _ :: _ => M.fail "next: new entry"
  | _ => M.fail "next: many"
noncomputable def nextM (it : AV) : M AV := M.bind (M.of (addrA it) "next") fun p => bif !(Nat.beq p.2 0) then M.fail "next: where" else M.bind (getM p.1) fun o => M.bind (M.of (iterO o) "next: iterator") fun q =>
  match q.1 with
  | none => M.pure (.tuple [.bool false])
  | some m => M.bind (mapM m) fun r => next1 p.1 m q.2.1 q.2.2.1 q.2.2.2 r.2 r.1
noncomputable def siterO : AObj → Option (ByteArray × Nat)
  | .siter s pos => some (s, pos)
  | _ => none
noncomputable def step1 (n : Nat) (s : ByteArray) (pos c k : Nat) : M AV := forceN c fun c => forceN (Nat.add pos k) fun p => M.bind (setM n (some (.siter s p))) fun _ => M.pure (.tuple [.bool true, .int .i64 (.ofNat pos), .int .i32 (.ofNat c)])
noncomputable def nextS (it : AV) : M AV := M.bind (M.of (addrA it) "next") fun p => bif !(Nat.beq p.2 0) then M.fail "next: where" else M.bind (getM p.1) fun o => M.bind (M.of (siterO o) "next: iterator of a text") fun q =>
  bif Nat.blt q.2 q.1.size then step1 p.1 q.1 q.2 (Utf8.decode q.1 q.2).1 (Utf8.decode q.1 q.2).2 else M.pure (.tuple [.bool false])
noncomputable def findB (b : Nat) : List Ent → Option Ent
  | [] => none
  | e :: r => bif Nat.beq e.2.2 b then some e else findB b r
noncomputable def entryM (it : AV) : M AV := M.bind (M.of (addrA it) "entry") fun p => bif !(Nat.beq p.2 0) then M.fail "entry: where" else M.bind (getM p.1) fun o => M.bind (M.of (iterO o) "entry: iterator") fun q =>
  M.bind (M.of q.1 "entry: nil") fun m => M.bind (mapM m) fun r =>
  bif Nat.beq r.2 q.2.2.2 then M.bind (M.of q.2.2.1.getLast? "entry: no step") fun b => M.bind (M.of (findB b r.1) "entry: gone") fun e => M.pure (.tuple [e.1, e.2.1]) else M.fail "entry: clock"
noncomputable def seqD : TyD → Bool
  | .slice _ => true
  | .str => true
  | _ => false
noncomputable def roomB (cap : Option Nat) (need off es : Nat) (cs : List AV) : Bool :=
  match cap with
  | some c => Nat.ble need c
  | none => Nat.ble (Nat.add off (Nat.mul need es)) (lenC cs)
noncomputable def appS (e : TypeId) (size bytes : Nat) (s : SlV) (new : List AV) (k : Nat) : M AV :=
  match s with
  | .mk n off len cap es => M.bind (rowM n) fun q =>
    bif Nat.beq es 0 || !(Nat.beq es size) then M.fail "append: size" else
    bif roomB cap (Nat.add len k) off es q.2 then
      M.bind (M.of (storeC q.2 (Nat.add off (Nat.mul len es)) (Nat.mul k es) new) "append: place") fun cs => M.bind (setM n (some (.row q.1 cs))) fun _ => M.pure (.slice n off (Nat.add len k) cap es)
    else
      bif Nat.ble (Nat.mul (Nat.add len k) bytes) 100000000 && Nat.ble (Nat.add len k) 100000000 then
        M.bind (M.of (loadC q.2 off (Nat.mul len es)) "append: old") fun old =>
        M.bind (match cap with | some _ => M.pure () | none => bif Nat.beq q.1 e then setM n none else M.fail "append: type") fun _ =>
        M.bind (newM (.row e (joinC old new))) fun n' => M.pure (.slice n' 0 (Nat.add len k) none es)
      else M.fail "append: great"
noncomputable def appM (e : TypeId) (j : TyI) (s : AV) (new : List AV) (k : Nat) : M AV :=
  match slA s with
  | some .nil => bif Nat.beq k 0 then M.pure .nilslice else
    bif Nat.ble (Nat.mul k j.bytes) 100000000 && Nat.ble k 100000000 then M.bind (newM (.row e new)) fun n => M.pure (.slice n 0 k none j.size) else M.fail "append: great"
  | some (.some v) => bif Nat.beq k 0 then M.pure s else appS e j.size j.bytes v new k
  | _ => M.fail "append: slice"
noncomputable def appendF (E : Env) (t u : TypeId) (s x : AV) : M AV := withTy E t fun i =>
  match sliceD i.desc with
  | some e => withTy E e fun j => withTy E u fun xi =>
    bif Nat.beq j.size 0 then M.fail "append: size" else
    match intD xi.desc with
    | some _ => M.bind (M.of (natA x) "append: zeros") fun n => bif Nat.ble n 100000 && Nat.ble (Nat.mul n j.bytes) 100000000 then appM e j s (zerosA j.zc n) n else M.fail "append: many"
    | none => bif seqD xi.desc then M.bind (cellsM j.size x) fun q => appM e j s q.1 q.2 else M.fail "append: what"
  | none => M.fail "append: type"
noncomputable def mkNat (n : Nat) : AV := forceN n fun n => .int .i64 (.ofNat n)
noncomputable def lenS : SlK → Nat
  | .some (.mk _ _ n _ _) => n
  | _ => 0
noncomputable def lenF (E : Env) (t : TypeId) (x : AV) : M AV := withTy E t fun i =>
  match arrD i.desc with
  | some q => M.pure (mkNat q.1)
  | none => match sliceD i.desc with
    | some _ => M.bind (M.of (slA x) "len") fun k => M.pure (mkNat (lenS k))
    | none => match mapD i.desc with
      | some _ => M.bind (M.of (mapA x) "len") fun m =>
        match m with
        | none => M.pure (mkNat 0)
        | some m => M.bind (mapM m) fun q => M.pure (mkNat q.1.length)
      | none => bif strD i.desc then M.bind (M.of (strA x) "len") fun s => M.pure (mkNat s.toList.length) else M.fail "len"
noncomputable def copyF (E : Env) (t : TypeId) (d x : AV) : M AV := withTy E t fun i =>
  match sliceD i.desc with
  | some e => withTy E e fun j => M.bind (cellsM j.size x) fun r =>
    match slA d with
    | some (.some (.mk n off len _ es)) => bif !(Nat.beq es j.size) then M.fail "copy: size" else M.bind (rowM n) fun q => forceN (bif Nat.ble r.2 len then r.2 else len) fun m =>
      bif Nat.beq m 0 then M.pure (mkNat 0) else
      M.bind (M.of (loadC r.1 0 (Nat.mul m j.size)) "copy") fun new =>
      M.bind (M.of (storeC q.2 off (Nat.mul m es) new) "copy: place") fun cs => M.bind (setM n (some (.row q.1 cs))) fun _ => M.pure (mkNat m)
    | some _ => M.pure (mkNat 0)
    | none => M.fail "copy: where"
  | none => M.fail "copy: type"
noncomputable def clearF (E : Env) (t : TypeId) (x : AV) : M AV := withTy E t fun i =>
  match slA x with
  | some (.some (.mk n off len _ es)) =>
    match sliceD i.desc with
    | some e => withTy E e fun j => M.bind (rowM n) fun q =>
      bif Nat.beq len 0 then M.pure undefA else
      bif !(Nat.beq es j.size) then M.fail "clear: size" else
      M.bind (M.of (storeC q.2 off (Nat.mul len es) (zerosA j.zc len)) "clear") fun cs => M.bind (setM n (some (.row q.1 cs))) fun _ => M.pure undefA
    | none => M.fail "clear: type"
  | some _ => M.pure undefA
  | none => M.bind (M.of (mapA x) "clear") fun m =>
    match m with
    | none => M.pure undefA
    | some n => M.bind (mapM n) fun q => M.bind (setM n (some (.map [] q.2))) fun _ => M.pure undefA
noncomputable def capM (i : TyI) (x : AV) : M AV :=
  match sliceD i.desc with
  | none => M.fail "cap"
  | some _ => match slA x with
    | some .nil => M.pure (mkNat 0)
    | some (.some (.mk _ _ _ (some c) _)) => M.pure (mkNat c)
    | _ => M.fail "cap"
noncomputable def two (f : AV → AV → M AV) : List AV → M AV
  | [a, b] => f a b
  | _ => M.fail "arguments"
noncomputable def one (f : AV → M AV) : List AV → M AV
  | [a] => f a
  | _ => M.fail "arguments"
noncomputable def argT (ts : List TypeId) (i : Nat) (k : TypeId → List AV → M AV) : List AV → M AV :=
  match ts[i]? with
  | some t => k t
  | none => fun _ => M.fail "argument's type"
noncomputable def min2A (x y : AV) : M AV := int2 (fun k x y => some (.int k (if y < x then y else x))) x y
noncomputable def max2A (x y : AV) : M AV := int2 (fun k x y => some (.int k (if x < y then y else x))) x y
noncomputable def builtinF (E : Env) (b : Builtin) (ts : List TypeId) : List AV → M AV :=
  match b with
  | .append => argT ts 0 fun t => argT ts 1 fun u => two (appendF E t u)
  | .len => argT ts 0 fun t => one (lenF E t)
  | .copy => argT ts 0 fun t => two (copyF E t)
  | .clear => argT ts 0 fun t => one (clearF E t)
  | .delete => argT ts 0 fun t => two fun m k => withTy E t fun i => deleteM E i m k
  | .cap => argT ts 0 fun t => one fun x => withTy E t fun i => capM i x
  | .min => two min2A
  | .max => two max2A
  | _ => fun _ => M.fail "builtin"
end Go.Proofs.YtceocfeckipihaaGreatDoor.Vm
