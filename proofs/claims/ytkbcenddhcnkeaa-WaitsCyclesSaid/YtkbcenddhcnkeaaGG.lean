/-
  WALKS: moneyerref14.Acyclic, Victims.
-/
import Derived.Test.YtkbcenddhcnkeaaGE
namespace Go.Proofs.Ytkbcenddhcnkeaa
open Go.RowKit

theorem rch_bool (es : List Ed) (a b : Int) : ∃ rb : Bool, rb = true ↔ Rch es a b := by
  by_cases h : Rch es a b
  · exact ⟨true, ⟨fun _ => h, fun _ => rfl⟩⟩
  · exact ⟨false, ⟨fun h' => (by cases h'), fun h' => absurd h' h⟩⟩
set_option maxHeartbeats 3200000 in
theorem rAcyclic_any (A : Option Addr) (n c : Nat) (es : List Ed) (rb : Bool) (hrb : rb = true ↔ NoRing es) (B : Nat) (w : World) (hB : B ≤ w.heap.size) (hn : n ≤ 1000) (hE : Eds w B A n es) :
    Calls Try.prog 14 #[.slice A n c] w fun e w' => e = .returned (.bool rb) ∧ Below w.heap.size w w' := by
  have HRB := hide hrb
  have HL := hide hE.1
  have HE := hide hE
  clear hrb hE
  go_enter Try.func14, Try.ntmps14
  go_wp2
  go_loopw [3] (fun i wr => ∃ k : Nat, k ≤ n ∧ i = .int .i64 k ∧ Hid (∀ (q : Nat) e, q < k → es[q]? = some e → ¬ Rch es e.1 e.1) ∧ Below w.heap.size w wr) (fun i _ => n - (intOf i).toNat)
  case atStart => exact ⟨0, Nat.zero_le _, rfl, hide (fun q e hq => absurd hq (by omega)), Below.refl _ _⟩
  case round =>
    obtain ⟨k, hk, rfl, HI, hbw⟩ := hrel
    have hz := hbw.size
    by_cases hlt : k < n
    · obtain ⟨b, o, ⟨p, t⟩, rfl, hb, hkx, c0, c1⟩ := (HE.out.below hbw hB).at_ (k := k) hlt
      have HKX := hide hkx
      obtain ⟨rb2, hrb2⟩ := rch_bool es p p
      have HR := hide (fun (s : In (Below wr.heap.size wr)) => reach_any (some ⟨b, o, none⟩) n c es p p rb2 hrb2 B s.w (Nat.le_trans hB (Nat.le_trans hz s.h.size)) hn ((HE.out.below hbw hB).below s.h (Nat.le_trans hB hz)))
      have HRB2 := hide hrb2
      have s0 : (0 : Int) ≤ k := by omega
      have s1 : (k : Int) < n := by omega
      clear hkx hrb2
      dsimp only at c0 c1
      have q0 : ∀ t : In (Below wr.heap.size wr), t.w.cell? ⟨b, o + k * 2, none⟩ = some (.int .i64 p) := fun t => (t.h.cell (p := ⟨b, o + k * 2, none⟩) (by show b < _; omega)).trans c0
      clear c0 c1
      cases rb2 with
      | true =>
        have HF := hide (show rb = false by
          cases rb with
          | false => rfl
          | true => exact absurd (HRB2.out.1 rfl) (HRB.out.1 rfl _ (List.mem_of_getElem? HKX.out)))
        go_wp2
        refine wp_region_in (C := (Below wr.heap.size wr)) (by kernel_rfl) (by kernel_rfl) (Below.refl _ _).drew ?_
        repeat (first | go_big_quiet_step ((go_at_call 10; with_reducible exact calls_in (Nat.le_refl _) (HR.out _))) | quiet_step ((go_at_call 10; with_reducible exact calls_in (Nat.le_refl _) (HR.out _))))
        refine wpQuiet_nil ?_
        intro _ hw'
        obtain ⟨t2, hw''⟩ := hw'
        subst hw''
        have hb2 := t2.h
        go_wp2
        go_ret
        exact ⟨ret_bool HF.out.symm, below_via hbw hb2 hz⟩
      | false =>
        have HI' : Hid (∀ (q : Nat) e, q < k + 1 → es[q]? = some e → ¬ Rch es e.1 e.1) := hide (fun q e hq he hr => by
          rcases Nat.lt_or_ge q k with h | h
          · exact HI.out q e h he hr
          · obtain rfl : q = k := by omega
            rw [HKX.out] at he
            injection he with he
            subst he
            exact absurd (HRB2.out.2 hr) (by simp))
        go_wp2
        refine wp_region_in (C := (Below wr.heap.size wr)) (by kernel_rfl) (by kernel_rfl) (Below.refl _ _).drew ?_
        repeat (first | go_big_quiet_step ((go_at_call 10; with_reducible exact calls_in (Nat.le_refl _) (HR.out _))) | quiet_step ((go_at_call 10; with_reducible exact calls_in (Nat.le_refl _) (HR.out _))))
        refine wpQuiet_nil ?_
        intro _ hw'
        obtain ⟨t2, hw''⟩ := hw'
        subst hw''
        have hb2 := t2.h
        go_wp2
        go_roundw
        case rel => exact ⟨k + 1, by omega, by go_num, HI', below_via hbw hb2 hz⟩
        case measure => simp [intOf]; omega
    · have HF := hide (show rb = true from HRB.out.2 (fun e he => by
        obtain ⟨q, hq⟩ := List.mem_iff_getElem?.1 he
        exact HI.out q e (by have := HL.out; have := (List.getElem?_eq_some_iff.1 hq).1; omega) hq))
      go_wp2
      go_ret
      exact ⟨ret_bool HF.out.symm, hbw⟩
theorem own_via {w w' : World} {base : Nat} {e : TypeId} {size : Nat} {v : Value} {n : Nat} {xs : List Value} (h : w.ownsRow base e size v n xs) (hb : Below w.heap.size w w') : w'.ownsRow base e size v n xs := by
  obtain ⟨hl, h⟩ := h
  refine ⟨hl, ?_⟩
  rcases h with h | ⟨g, cap, cur, rfl, h1, hh, hr⟩
  · exact .inl h
  · exact .inr ⟨g, cap, cur, rfl, h1, (hb.block g (Array.getElem?_eq_some_iff.1 hh).1).trans hh, hr⟩
theorem own_base {w : World} {base base' : Nat} {e : TypeId} {size : Nat} {v : Value} {n : Nat} {xs : List Value} (h : w.ownsRow base e size v n xs) (hb : base' ≤ base) : w.ownsRow base' e size v n xs := by
  obtain ⟨hl, h⟩ := h
  refine ⟨hl, ?_⟩
  rcases h with h | ⟨g, cap, cur, rfl, h1, hr⟩
  · exact .inl h
  · exact .inr ⟨g, cap, cur, rfl, Nat.le_trans hb h1, hr⟩
/-- The edges that are left: those that came in, or a row of one's own. -/
def LeftOk (w : World) (B : Nat) (A : Option Addr) (n c : Nat) (left : List Ed) (wr : World) : Prop := n = left.length ∧ (Eds w B A n left ∨ wr.ownsRow w.heap.size 29 2 (.slice A n c) n (left.flatMap edC))
theorem LeftOk.eds {w wr : World} {B : Nat} {A : Option Addr} {n c : Nat} {left : List Ed} (h : LeftOk w B A n c left wr) (hB : B ≤ w.heap.size) (hbw : Below w.heap.size w wr) : Eds wr wr.heap.size A n left := by
  obtain ⟨hn, h | h⟩ := h
  · exact (h.below hbw hB).more (Nat.le_trans hB hbw.size)
  · exact Eds.of_own h hn
theorem LeftOk.grown {w wr w' : World} {B : Nat} {A : Option Addr} {n c : Nat} {left : List Ed} {base : Nat} {v : Value} {m : Nat} {xs : List Value} (h : LeftOk w B A n c left wr) (o : Obj) (hown : wr.ownsRow base 3 1 v m xs) (hg : (wr.alloc o).grownBy w' v.ownBlock) : LeftOk w B A n c left w' := by
  obtain ⟨hn, h | h⟩ := h
  · exact ⟨hn, .inl h⟩
  · exact ⟨hn, .inr (own_keep (h.alloc o) (hown.alloc o) (by decide) hg)⟩
/-- Between two rounds of Victims: the edges that are left, who gave way, the ring. -/
def ViRel (es : List Ed) (a : Int) (B : Nat) (w : World) (lv ov rv : Value) (wr : World) : Prop :=
  ∃ (A : Option Addr) (n c : Nat) (left : List Ed) (out : List Int) (A2 : Option Addr) (n2 c2 : Nat), lv = .slice A n c ∧ LeftOk w B A n c left wr ∧ n ≤ 1000 ∧ Hid (∃ f, left.length ≤ f ∧ out ++ vic a f left = vic a es.length es) ∧ out.length + left.length ≤ es.length ∧
    wr.ownsRow w.heap.size 3 1 ov out.length (out.map (Value.int .i64)) ∧ rv = .slice A2 n2 c2 ∧ Ints wr wr.heap.size A2 n2 (cyc left a) ∧ n2 ≤ 1001 ∧ Below w.heap.size w wr
def sliceLen : Value → Nat
  | .slice _ n _ => n
  | _ => 0
theorem srch_plen {T : Int → List Int} {a : Int} (f : Nat) (todo path sn p q : List Int) (h : srch T a f todo path sn = (some p, q)) : p.length ≤ path.length + f := by
  induction f generalizing todo path sn q with
  | zero =>
    induction todo generalizing sn with
    | nil => rw [srch_nil] at h; cases h
    | cons m ms ih =>
      by_cases hm : m = a
      · subst hm
        rw [srch_hit] at h
        injection h with h1 h2
        injection h1 with h1
        subst h1
        omega
      · by_cases hs : m ∈ sn
        · rw [srch_skip hm hs] at h
          exact ih _ h
        · rw [srch, if_neg hm, if_neg hs] at h
          cases h
  | succ f ihf =>
    induction todo generalizing sn with
    | nil => rw [srch_nil] at h; cases h
    | cons m ms ih =>
      by_cases hm : m = a
      · subst hm
        rw [srch_hit] at h
        injection h with h1 h2
        injection h1 with h1
        subst h1
        omega
      · by_cases hs : m ∈ sn
        · rw [srch_skip hm hs] at h
          exact ih _ h
        · obtain ⟨r, q', hr⟩ : ∃ r q, srch T a f (T m) (path ++ [m]) (sn ++ [m]) = (r, q) := ⟨_, _, rfl⟩
          cases r with
          | none =>
            rw [srch_back hm hs hr] at h
            exact ih _ h
          | some p' =>
            rw [srch_found hm hs hr] at h
            injection h with h1 h2
            injection h1 with h1
            subst h1
            have := ihf _ _ _ _ hr
            rw [List.length_append, List.length_singleton] at this
            omega
theorem cyc_len (l : List Ed) (a : Int) : (cyc l a).length ≤ l.length + 1 := by
  unfold cyc
  cases hr : (srch (tosOf (srtE l)) a l.length (tosOf (srtE l) a) [a] [a]).1 with
  | none => simp
  | some p =>
    have h : srch (tosOf (srtE l)) a l.length (tosOf (srtE l) a) [a] [a] = (some p, (srch (tosOf (srtE l)) a l.length (tosOf (srtE l) a) [a] [a]).2) := by rw [← hr]
    have := srch_plen _ _ _ _ _ _ h
    simp at this
    simp
    omega
set_option maxHeartbeats 3200000 in
theorem rVictims_any (A : Option Addr) (n c : Nat) (es : List Ed) (a : Int) (B : Nat) (w : World) (hB : B ≤ w.heap.size) (hn : n ≤ 1000) (hE : Eds w B A n es) :
    Calls Try.prog 12 #[.slice A n c, .int .i64 a] w (IntsPost (vic a es.length es) w) := by
  have HL := hide hE.1
  have HE := hide hE
  obtain ⟨i0, hi, hz0, hz1, hz2⟩ := info_parts info_ints
  have HC := hide (rCycle_any A n c es a B w hB hn hE)
  clear hE
  go_enter Try.func12, Try.ntmps12
  go_wp2_with fail
  refine HC.out.mono ?_
  rintro e w1 ⟨A1, n1, c1, rfl, hi1, hb1⟩
  have HI1 := hide hi1
  have hn1 : n1 ≤ 1001 := by have := hi1.1; have := cyc_len es a; have := HL.out; omega
  have hz1' := hb1.size
  clear hi1
  go_wp2
  go_loopw [0, 5, 6] (ViRel es a B w) (fun l _ _ _ => sliceLen l)
  case atStart => exact ⟨A, n, c, es, [], A1, n1, c1, rfl, ⟨HL.out, .inl HE.out⟩, hn, hide ⟨es.length, Nat.le_refl _, rfl⟩, by simp, World.ownsRow_nil _ _ _ 1, rfl, HI1.out, hn1, hb1⟩
  case round =>
    obtain ⟨A2, n2, c2, left, out, A3, n3, c3, rfl, hLo, hn2, HV, hol, hown, rfl, hir, hn3, hbw⟩ := hrel
    have hEl := hLo.eds hB hbw
    have HLo := hide hLo
    clear hLo
    have HIR := hide hir
    have HO := hide hown
    have hz := hbw.size
    have hol2 : out.length ≤ 1000 := by have := HL.out; omega
    by_cases h0 : cyc left a = []
    · obtain rfl : n3 = 0 := by have := hir.1; rw [h0] at this; exact this
      have HF := hide (show out = vic a es.length es by
        obtain ⟨f, _, h⟩ := HV.out
        rw [← h, vic_nil h0, List.append_nil])
      obtain ⟨A5, c5, rfl, _⟩ := own_slice hown
      clear h0 hEl hir hown
      generalize hm : out.length = m at HO hol hol2 ⊢
      have HM := hide hm
      clear hm
      go_wp2
      go_ret
      exact ⟨A5, m, c5, rfl, ⟨by rw [← HF.out]; exact HM.out.symm, by rw [← HF.out]; exact Reads.of_own HO.out⟩, hbw⟩
    · have h3 : 0 < n3 := by
        rw [hir.1]
        exact List.length_pos_iff.2 h0
      have hyl : (wout left (young (cyc left a))).length < left.length := wout_len (young_edge h0).choose_spec
      have hV' : ∃ f, (wout left (young (cyc left a))).length ≤ f ∧ (out ++ [young (cyc left a)]) ++ vic a f (wout left (young (cyc left a))) = vic a es.length es := by
        obtain ⟨f, hf, h⟩ := HV.out
        obtain ⟨g, _, h2, h3⟩ := vic_cons h0 hf
        exact ⟨g, h2, by rw [← h, h3, List.append_assoc]; rfl⟩
      have HV' := hide hV'
      have HN := hide hEl.1
      have HY := hide (rYoung_any A3 n3 c3 (cyc left a) wr.heap.size wr (by omega) hir)
      have HNL := hide (show (wout left (young (cyc left a))).length ≤ 1000 by have := HN.out; omega)
      clear h0 hEl hir hown hV'
      generalize young (cyc left a) = y at HY hyl HV' HNL
      obtain ⟨A5, c5, rfl, hnc5, _⟩ := own_slice HO.out
      generalize hm : out.length = m at HO hol hol2 hnc5 ⊢
      have HM := hide hm
      clear hm
      go_wp2_with (first | (go_at_call 17; refine HY.out.mono ?_; rintro e w' ⟨rfl, hw'⟩; obtain rfl := hw'.symm) | (at_builtin; refine heldG ?_))
      refine unheldG ?_
      at_builtin
      refine wpList_append_any _ rfl _ _ _ rfl w.heap.size 3 i0 _ 1 8 Try.underlying24 hi hz0 hz1 hz2 rfl (by omega) (.slice A5 m c5) m _ rfl (HO.out.alloc _) (wr.heap.size + 1) (some ⟨wr.heap.size, 0, none⟩) 1 1 [.int .i64 y] rfl (Reads.of_blk (n := 1) (size := 1) (Blk.new _ _ _) rfl) (ints_one [y]) (by unfold maxLen; omega) (by omega) (by simp; omega) ?_
      intro v4 w4 hown4 hg4 _
      have hbw4 : Below w.heap.size w w4 := (hbw.alloc hz _).grown hg4 (by simp; omega) (fun q hq => (HO.out.lt q hq).1)
      have hz4 := hbw4.size
      have HLo4 := hide (HLo.out.grown _ HO.out hg4)
      have HWo := hide (without_any A2 n2 c2 left y w4.heap.size w4 (Nat.le_refl _) (by omega) (HLo4.out.eds hB hbw4))
      clear hg4
      have HO4 := hide hown4
      clear hown4
      go_wp2_with fail
      refine HWo.out.mono ?_
      rintro e w5 ⟨⟨A6, c6, rfl, hown5⟩, hb5⟩
      have hbw5 := hbw4.trans (hb5.mono hz4)
      have hz5 := hbw5.size
      have hE5 := Eds.of_own hown5 rfl
      generalize hwl : wout left y = left' at hyl HV' HNL hown5 hE5
      have HL5 := hide hE5.1
      have hn5 : left'.length ≤ 1000 := HNL.out
      have HCy := hide (rCycle_any A6 left'.length c6 left' a w5.heap.size w5 (Nat.le_refl _) hn5 hE5)
      have HO5 := hide hown5
      clear hwl hE5 hown5
      go_wp2_with fail
      refine HCy.out.mono ?_
      rintro e w6 ⟨A7, n7, c7, rfl, hi7, hb6⟩
      have hbw6 := hbw5.trans (hb6.mono hz5)
      have hn7 : n7 ≤ 1001 := by have := hi7.1; have := cyc_len left' a; omega
      have HI7 := hide hi7
      clear hi7
      generalize hml : left'.length = ml at *
      have HML := hide hml
      clear hml
      go_wp2
      go_roundw
      case rel => exact ⟨A6, ml, c6, left', out ++ [y], A7, n7, c7, rfl, ⟨HML.out.symm, .inr (own_base (own_via HO5.out hb6) hz4)⟩, by omega, by have := HV'.out; rwa [← HML.out] at this, by have := HM.out; have := HML.out; simp; omega, by
        rw [List.length_append, HM.out, List.map_append]
        exact own_via (own_via HO4.out hb5) hb6, rfl, HI7.out, hn7, hbw6⟩
      case measure => have := HN.out; have := HML.out; simp only [sliceLen]; omega
end Go.Proofs.Ytkbcenddhcnkeaa
