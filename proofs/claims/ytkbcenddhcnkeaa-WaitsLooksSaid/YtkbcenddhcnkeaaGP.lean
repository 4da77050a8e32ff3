/-
  WALK: moneyerlaw14.WaitsVictims.
-/
import Derived.Test.YtkbcenddhcnkeaaGO
namespace Go.Proofs.Ytkbcenddhcnkeaa
open Go.RowKit

/-- The edges that are left: those that came in, or a row of one's own. -/
def LeftW (w : World) (B : Nat) (A : Option Addr) (n c : Nat) (left : List Ed) (wr : World) : Prop := LeftOk w B A n c left wr ∧ (A = none → c = 0)
theorem LeftW.via {w wr w' : World} {B n c : Nat} {A : Option Addr} {left : List Ed} (h : LeftW w B A n c left wr) (hb : Below wr.heap.size wr w') : LeftW w B A n c left w' := by
  obtain ⟨⟨h1, h2 | h2⟩, h3⟩ := h
  · exact ⟨⟨h1, .inl h2⟩, h3⟩
  · exact ⟨⟨h1, .inr (own_via h2 hb)⟩, h3⟩
/-- At a round's head. -/
def LvRel (w w1 : World) (B : Nat) (es : List Ed) (a : Int) (vs : List Int) (lv iv : Value) (wr : World) : Prop :=
  ∃ (A : Option Addr) (n c : Nat) (left : List Ed) (k : Nat), lv = .slice A n c ∧ iv = .int .i64 k ∧ k ≤ vs.length ∧ LeftW w B A n c left wr ∧ n ≤ 40 ∧ Hid (∀ e ∈ left, e ∈ es) ∧ Hid (∃ f, left.length ≤ f ∧ vic a f left = vs.drop k) ∧ Below w1.heap.size w1 wr
theorem vic_here {a : Int} {f : Nat} {left : List Ed} {vs : List Int} {k : Nat} {v : Int} (hf : left.length ≤ f) (h : vic a f left = vs.drop k) (hv : vs[k]? = some v) : cyc left a ≠ [] ∧ v = young (cyc left a) ∧ ∃ g, (wout left v).length ≤ g ∧ vic a g (wout left v) = vs.drop (k + 1) := by
  obtain ⟨hk, rfl⟩ := List.getElem?_eq_some_iff.1 hv
  rw [List.drop_eq_getElem_cons hk] at h
  have h0 : cyc left a ≠ [] := fun e => by rw [vic_nil e] at h; cases h
  obtain ⟨g, _, h2, h3⟩ := vic_cons h0 hf
  rw [h3] at h
  injection h with h4 h5
  exact ⟨h0, h4.symm, g, by rw [← h4]; exact h2, by rw [← h4]; exact h5⟩
set_option maxHeartbeats 6400000 in
set_option maxRecDepth 100000 in
theorem victims_any (A : Option Addr) (n c : Nat) (es : List Ed) (a : Int) (B : Nat) (w : World) (hB : B ≤ w.heap.size) (hE : Eds w B A n es) (hc : A = none → c = 0) (hwe : wfE es) (hwa : (Lit.int .i64 a).wf = true) :
    Calls Try.prog 4 #[.slice A n c, .int .i64 a] w fun e w' => e = .returned (.bool true) ∧ Below w.heap.size w w' := by
  have HLV := hide (fun W => live_any W)
  by_cases h40 : 40 < n
  · have s1 : (40 : Int) < n := by omega
    clear hE hc hwe hwa
    go_enter Try.func4, Try.ntmps4
    go_wp2_with (go_at_call 6; refine (HLV.out _).mono ?_; rintro e w1 ⟨rfl, hb1⟩)
    go_ret
    exact ⟨rfl, hb1⟩
  · have s1 : ¬ (40 : Int) < n := by omega
    have HC := hide (fun W (hW : Below w.heap.size w W) => wVictims_any A n c es a B W (Nat.le_trans hB hW.size) (by omega) (hE.below hW hB) hc (fun e he => (hwe e he).2) hwa)
    have HC2 := hide (fun W (hW : Below w.heap.size w W) => rVictims_any A n c es a B W (Nat.le_trans hB hW.size) (by omega) (hE.below hW hB))
    have HWo := hide (fun W (hW : Below w.heap.size w W) => without_any A n c es a B W (Nat.le_trans hB hW.size) (by omega) (hE.below hW hB))
    have HE := hide hE
    have HL := hide hE.1
    have HNIL := hide hc
    have HWE := hide hwe
    obtain ⟨vs, hvs⟩ : ∃ vs, vic a es.length es = vs := ⟨_, rfl⟩
    have hvl : vs.length ≤ 40 := by
      have key : ∀ (f : Nat) (l : List Ed), (vic a f l).length ≤ f := by
        intro f
        induction f with
        | zero => intro l; exact Nat.le_refl _
        | succ f ih =>
          intro l
          rw [vic]
          split
          · exact Nat.zero_le _
          · simp only [List.length_cons]
            have := ih (wout l (young (cyc l a)))
            omega
      have := key es.length es
      rw [hvs] at this
      have := hE.1
      omega
    rw [hvs] at HC HC2
    have HVS := hide hvs
    clear hE hc hwe hwa hvs
    go_enter Try.func4, Try.ntmps4
    go_wp2_with fail
    refine (HC.out _ (Below.refl _ _)).mono ?_
    rintro e w1 ⟨A1, n1, c1, rfl, hi1, hb1⟩
    have HI1 := hide hi1
    have hn1 : n1 ≤ 40 := by have := hi1.1; omega
    clear hi1
    go_wp2_with fail
    refine (HC2.out _ hb1).mono ?_
    rintro e w2 ⟨A2, n2, c2, rfl, hi2, hb2⟩
    have hbw2 := hb1.trans (hb2.mono hb1.size)
    have hSL : Calls Try.prog 8 #[.slice A1 n1 c1, .slice A2 n2 c2] w2 fun e w' => e = .returned (.bool true) ∧ Below w2.heap.size w2 w' := by
      have h := SameList_any A1 A2 n1 c1 n2 c2 vs vs w2.heap.size w2 (by omega) (by have := hi2.1; omega) ((HI1.out.below hb2 (Nat.le_refl _)).more hb2.size) hi2
      rwa [show numsEq vs vs = true by simp [numsEq]] at h
    have HSL := hide hSL
    clear hi2 hSL
    go_wp2_with fail
    refine HSL.out.mono ?_
    rintro e w3 ⟨rfl, hb3⟩
    have hb13 := hb2.trans (hb3.mono hb2.size)
    have hz1 := hb1.size
    have hn1v : n1 = vs.length := HI1.out.1
    have HN1 := hide hn1v
    clear hb2 hb3 hn1v
    go_wp2
    go_loopw [6, 7] (LvRel w w1 B es a vs) (fun _ i _ => n1 - (intOf i).toNat)
    case atStart => exact ⟨A, n, c, es, 0, rfl, rfl, Nat.zero_le _, ⟨⟨HL.out, .inl HE.out⟩, HNIL.out⟩, by omega, hide (fun _ h => h), hide ⟨es.length, Nat.le_refl _, by rw [HVS.out]; rfl⟩, hb13⟩
    case round =>
      obtain ⟨A3, n3, c3, left, k, rfl, rfl, hk, hLW, hn3, HSub, HV, hbw⟩ := hrel
      have hbww := hb1.trans (hbw.mono hz1)
      have hE3 := hLW.1.eds hB hbww
      have HLW := hide hLW
      clear hLW
      by_cases hlt : k < n1
      · obtain ⟨b1, o1, v, rfl, hbb, hkx, c0⟩ := HI1.out.at_ (k := k) hlt
        obtain ⟨f, hf, hvk⟩ := HV.out
        obtain ⟨h0, hvy, g, hg1, hg2⟩ := vic_here hf hvk hkx
        obtain ⟨r1, r2, t, r3⟩ := (cyc_ring h0).2.2.2.2 v (by rw [hvy]; exact young_mem h0)
        have HV' := hide (show ∃ f, (wout left v).length ≤ f ∧ vic a f (wout left v) = vs.drop (k + 1) from ⟨g, hg1, hg2⟩)
        have HSub' := hide (show ∀ e ∈ wout left v, e ∈ es from fun e he => HSub.out e (mem_wout.1 he).1)
        have hz := hbw.size
        have hbl := hb1.size
        have HR1 := hide (fun (s : In (Below wr.heap.size wr)) => reach_any A3 n3 c3 left v v true ⟨fun _ => r1, fun _ => rfl⟩ wr.heap.size s.w s.h.size (by omega) (hE3.below s.h (Nat.le_refl _)))
        have hra : Rch left a v := by
          rcases r2 with h | h
          · rw [h] at r1; rw [h]; exact r1
          · exact h
        have HR2 := hide (fun (s : In (Below wr.heap.size wr)) => reach_any A3 n3 c3 left a v true ⟨fun _ => hra, fun _ => rfl⟩ wr.heap.size s.w s.h.size (by omega) (hE3.below s.h (Nat.le_refl _)))
        have hbs : b1 < wr.heap.size := by omega
        have QW := hide (fun (W : World) (hW : Below wr.heap.size wr W) => (hW.cell (p := ⟨b1, o1 + k, none⟩) hbs).trans ((hbw.cell (p := ⟨b1, o1 + k, none⟩) hbb).trans c0))
        have q0 : ∀ s : In (Below wr.heap.size wr), s.w.cell? ⟨b1, o1 + k, none⟩ = some (.int .i64 v) := fun s => (s.h.cell (p := ⟨b1, o1 + k, none⟩) hbs).trans ((hbw.cell (p := ⟨b1, o1 + k, none⟩) hbb).trans c0)
        have HKL := hide (show k < vs.length by have := HN1.out; omega)
        have HN3 := hide hE3.1
        have hwl : (wout left v).length ≤ 40 := by have := wout_len r3; have := hE3.1; omega
        have s2 : (k : Int) < n1 := by omega
        have s3 : (0 : Int) ≤ k := by omega
        have HWo3 := hide (fun W (hW : Below wr.heap.size wr W) => without_any A3 n3 c3 left v wr.heap.size W hW.size (by omega) (hE3.below hW (Nat.le_refl _)))
        clear hf hvk h0 hvy hg1 hg2 r1 r2 r3 hra hE3 hkx c0
        go_wp2
        refine wp_region_in (C := (Below wr.heap.size wr)) (by kernel_rfl) (by kernel_rfl) (Below.refl _ _).drew ?_
        repeat (first | go_big_quiet_step ((go_at_call 10; first | with_reducible exact calls_in (Nat.le_refl _) (HR1.out _) | with_reducible exact calls_in (Nat.le_refl _) (HR2.out _))) | quiet_step ((go_at_call 10; first | with_reducible exact calls_in (Nat.le_refl _) (HR1.out _) | with_reducible exact calls_in (Nat.le_refl _) (HR2.out _))))
        refine wpQuiet_nil ?_
        intro _ hw'
        obtain ⟨s5, hw''⟩ := hw'
        subst hw''
        obtain ⟨w5, hb5⟩ := s5
        have c5 := QW.out w5 hb5
        dsimp only
        have hbw5 := hbw.trans (hb5.mono hz)
        have HWo5 := hide (HWo3.out w5 hb5)
        generalize hwlv : wout left v = left' at hwl HV' HSub' HWo5
        clear hwlv q0 HR1 HR2
        go_wp2_with fail
        refine HWo5.out.mono ?_
        rintro e w6 ⟨⟨A6, c6, rfl, hown6⟩, hb6⟩
        have hbw6 := hbw5.trans (hb6.mono hbw5.size)
        have HO6 := hide (own_base hown6 (show w.heap.size ≤ w5.heap.size by have := hbw5.size; omega))
        clear hown6
        generalize hml : left'.length = ml at *
        have HML := hide hml
        clear hml
        have HN6 := hide (show A6 = none → c6 = 0 from fun h => by
          rcases HO6.out.2 with ⟨h1, _⟩ | ⟨g, cap, cur, h1, _⟩
          · injection h1
          · injection h1 with h1
            rw [h] at h1
            cases h1)
        go_wp2
        go_roundw
        case rel => exact ⟨A6, ml, c6, left', k + 1, rfl, by go_num, HKL.out, ⟨⟨HML.out.symm, .inr HO6.out⟩, HN6.out⟩, hwl, HSub', hide (by have := HV'.out; rwa [← HML.out] at this), hbw6⟩
        case measure => simp [intOf]; omega
      · have hcyc : ¬ Rch left a a := by
          obtain ⟨f, hf, hvk⟩ := HV.out
          rw [List.drop_of_length_le (by have := HN1.out; omega)] at hvk
          intro hr
          obtain ⟨g, _, _, h3⟩ := vic_cons ((cyc_iff left a).2 hr) hf
          rw [hvk] at h3
          cases h3
        have hz := hbw.size
        have HR := hide (reach_any A3 n3 c3 left a a false ⟨fun h => (by cases h), fun h => absurd h hcyc⟩ wr.heap.size wr (Nat.le_refl _) (by omega) hE3)
        have HCY := hide hcyc
        have HSub2 := hide (show wfE left from fun e he => HWE.out e (HSub.out e he))
        clear hE3 hcyc
        go_wp2_with fail
        refine HR.out.mono ?_
        rintro e w5 ⟨rfl, hb5⟩
        have hbw5 := hbww.trans (hb5.mono hbww.size)
        go_wp2_with fail
        refine (HWo.out w5 hbw5).mono ?_
        rintro e w6 ⟨⟨A6, c6, rfl, hown6⟩, hb6⟩
        have hbw6 := hbw5.trans (hb6.mono hbw5.size)
        have hwol : (wout es a).length ≤ 1000 := Nat.le_trans (List.length_filter_le _ _) (by have := HL.out; omega)
        obtain ⟨rb, hrb⟩ := noRing_bool (wout es a)
        have HA := hide (rAcyclic_any A6 (wout es a).length c6 (wout es a) rb hrb w6.heap.size w6 (Nat.le_refl _) hwol (Eds.of_own hown6 rfl))
        have HRB := hide hrb
        have hL6 := (HLW.out.via hb5).via hb6
        have HL6 := hide hL6
        clear hown6 hrb hL6
        generalize hml : (wout es a).length = ml at *
        clear hml
        go_wp2_with fail
        refine HA.out.mono ?_
        rintro e w7 ⟨rfl, hb7⟩
        have hbw7 := hbw6.trans (hb7.mono hbw6.size)
        cases rb with
        | false =>
          go_wp2_with (go_at_call 6; refine (HLV.out _).mono ?_; rintro e w8 ⟨rfl, hb8⟩)
          go_ret
          exact ⟨rfl, hbw7.trans (hb8.mono hbw7.size)⟩
        | true =>
          have hnr : NoRing left := NoRing.left (HRB.out.1 rfl) HSub.out HCY.out
          have HL7 := hide (HL6.out.via hb7)
          have HB := hide (wAcyclic_any A3 n3 c3 left true ⟨fun _ => hnr, fun _ => rfl⟩ w7.heap.size w7 (Nat.le_refl _) (by omega) (HL7.out.1.eds hB hbw7) HL7.out.2 HSub2.out)
          clear hnr
          go_wp2_with fail
          refine HB.out.mono ?_
          rintro e w8 ⟨rfl, hb8⟩
          have hbw8 := hbw7.trans (hb8.mono hbw7.size)
          go_wp2_with (go_at_call 6; refine (HLV.out _).mono ?_; rintro e w9 ⟨rfl, hb9⟩)
          go_ret
          exact ⟨rfl, hbw8.trans (hb9.mono hbw8.size)⟩
end Go.Proofs.Ytkbcenddhcnkeaa
