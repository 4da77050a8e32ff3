/-
  WALK OF THE REFERENCE: ref29.Losers.
-/
import Derived.Test.YtnanlaefehaifaaGreatXA
import Derived.Test.YtnanlaefehaifaaGreatRU
import Derived.Test.YtnanlaefehaifaaGreatRV
import Derived.BigQuiet
namespace Go.Proofs.YtnanlaefehaifaaGreat
open Go.RowKit

/-- A transaction, cell by cell. -/
def txR (t : TxD) : List Value := [.int .i64 t.id, .int .i64 t.first, .int .i64 t.last, .int .i64 t.kept]
theorem txR_length (t : TxD) : (txR t).length = 4 := rfl
/-- The records' places. -/
def AtR (w : World) (B : Nat) (A : Option Addr) (n : Nat) (es : List EntD) : Prop := n = es.length ∧ ∀ k e, es[k]? = some e → ∃ b o, A = some ⟨b, o, none⟩ ∧ b < B ∧ w.cell? ⟨b, o + k, none⟩ = some (.int .i64 e.lsn)
theorem AtR.below {w w' : World} {B C n : Nat} {A : Option Addr} {es : List EntD} (h : AtR w B A n es) (hb : Below C w w') (hC : B ≤ C) : AtR w' B A n es := ⟨h.1, fun k e he => by
  obtain ⟨b, o, h1, h2, h3⟩ := h.2 k e he
  exact ⟨b, o, h1, h2, (hb.cell (p := ⟨b, o + k, none⟩) (by simp; omega)).trans h3⟩⟩
theorem AtR.at_ {w : World} {B n k : Nat} {A : Option Addr} {es : List EntD} {e : EntD} (h : AtR w B A n es) (he : es[k]? = some e) : ∃ b o, A = some ⟨b, o, none⟩ ∧ b < B ∧ w.cell? ⟨b, o + k, none⟩ = some (.int .i64 e.lsn) := h.2 k e he
theorem flatT_len (l : List TxD) : (l.flatMap txR).length = l.length * 4 := by
  induction l with
  | nil => rfl
  | cons x r ih => rw [List.flatMap_cons, List.length_append, ih, txR_length, List.length_cons]; omega
theorem flatT_at : ∀ (l : List TxD) (p c : Nat) (x : TxD), c < 4 → l[p]? = some x → (l.flatMap txR)[p * 4 + c]? = (txR x)[c]?
  | [], p, c, x, hc, hx => by simp at hx
  | y :: l, 0, c, x, hc, hx => by
    obtain rfl : y = x := by simpa using hx
    rw [List.flatMap_cons, Nat.zero_mul, Nat.zero_add, List.getElem?_append_left (by rw [txR_length]; exact hc)]
  | y :: l, p + 1, c, x, hc, hx => by
    rw [List.flatMap_cons, List.getElem?_append_right (by rw [txR_length]; omega), txR_length, show (p + 1) * 4 + c - 4 = p * 4 + c by omega]
    exact flatT_at l p c x hc (by simpa using hx)
theorem flatT_take (l : List TxD) (p : Nat) : (l.flatMap txR).take (p * 4) = (l.take p).flatMap txR := by
  induction l generalizing p with
  | nil => simp
  | cons x r ih =>
    cases p with
    | zero => simp
    | succ p =>
      rw [List.flatMap_cons, List.take_succ_cons, List.flatMap_cons, ← ih p, show (p + 1) * 4 = (txR x).length + p * 4 by rw [txR_length]; omega, List.take_length_add_append]
theorem flatT_drop (l : List TxD) (p : Nat) : (l.flatMap txR).drop (p * 4) = (l.drop p).flatMap txR := by
  induction l generalizing p with
  | nil => simp
  | cons x r ih =>
    cases p with
    | zero => simp
    | succ p =>
      rw [List.flatMap_cons, List.drop_succ_cons, ← ih p, show (p + 1) * 4 = (txR x).length + p * 4 by rw [txR_length]; omega, List.drop_length_add_append]
theorem oneT (l : List TxD) : ∀ u ∈ l.flatMap txR, u.oneCell' = true := by
  intro u hu
  obtain ⟨x, _, hu⟩ := List.mem_flatMap.1 hu
  simp only [txR, List.mem_cons, List.not_mem_nil, or_false] at hu
  rcases hu with rfl | rfl | rfl | rfl <;> rfl
/-- A row of transactions, of which one is looked at. -/
theorem rowT_at {W : World} {base : Nat} {v : Value} {outs : List TxD} {p : Nat} {x : TxD} (h : W.ownsRow base 53 4 v outs.length (outs.flatMap txR)) (hp : outs[p]? = some x) :
    ∃ g c, v = .slice (some ⟨g, 0, none⟩) outs.length c ∧ base ≤ g ∧ g < W.heap.size ∧ W.cell? ⟨g, p * 4, none⟩ = some (.int .i64 x.id) ∧ W.cell? ⟨g, p * 4 + 2, none⟩ = some (.int .i64 x.last) ∧ W.frozen? ⟨g, p * 4 + 2, none⟩ = false := by
  have hlt : p < outs.length := (List.getElem?_eq_some_iff.1 hp).1
  obtain ⟨A, c, rfl, hnc, hcm, hnil, hr, hf⟩ := own_slice h
  obtain ⟨g, cap, hv, hg1, hg2⟩ := h.form (by omega)
  injection hv with hA _ hc
  subst hA
  have c0 := own_cell h (p * 4) (by omega)
  have c2 := own_cell h (p * 4 + 2) (by omega)
  refine ⟨g, c, rfl, hf _ rfl, hg2, ?_, ?_, c2.2.1⟩
  · rw [c0.1]; exact flatT_at outs p 0 x (by omega) hp
  · rw [c2.1]; exact flatT_at outs p 2 x (by omega) hp
theorem headD_take {head : Int} {es : List EntD} {k : Nat} {e : EntD} (h : es[k]? = some e) : headD head (es.take (k + 1)) = e.lsn := by
  obtain ⟨hk, e1⟩ := List.getElem?_eq_some_iff.1 h
  rw [List.take_succ_eq_append_getElem hk, headD_snoc, e1]
theorem info_txnR : (Tryz.prog.info? 53).map (fun i => (i.zero, i.size, i.bytes)) = some (some (.agg #[.int .i64 0, .int .i64 0, .int .i64 0, .int .i64 0]), 4, 32) := by kernel_rfl
/-- A world that is behind another one, under a name. -/
theorem gen0 {w w' : World} {R : World → Prop} (hb : Below w.heap.size w w') (h : ∀ W, Below w.heap.size w W → w.heap.size ≤ W.heap.size → R W) : R w' := h w' hb hb.size
def RlRel (w : World) (head : Int) (n : Nat) (es : List EntD) (v i : Value) (wr : World) : Prop :=
  ∃ (k : Nat) (outs : List TxD), k ≤ n ∧ i = .int .i64 k ∧ Hid (RefL head es k outs) ∧ outs.length ≤ k ∧ Hid (wr.ownsRow w.heap.size 53 4 v outs.length (outs.flatMap txR)) ∧ Below w.heap.size w wr
set_option maxHeartbeats 6400000 in
set_option maxRecDepth 100000 in
theorem rLosers_any (head : Int) (Aa : Option Addr) (na ca : Nat) (A : Option Addr) (n c : Nat) (es : List EntD) (B : Nat) (w : World) (hB : B ≤ w.heap.size) (hn : n ≤ 1000) (h : EntR w B A n es) (ha : AtR w B Aa na es) (hk4 : ∀ e ∈ es, 1 ≤ e.kind ∧ e.kind ≤ 4) :
    Calls Tryz.prog 14 #[.int .i64 head, .slice Aa na ca, .slice A n c] w fun e w' => (∃ A2 c2 outs, RefL head es es.length outs ∧ e = .returned (.slice A2 outs.length c2) ∧ w'.ownsRow w.heap.size 53 4 (.slice A2 outs.length c2) outs.length (outs.flatMap txR)) ∧ Below w.heap.size w w' := by
  have HL := hide h.1
  have HLa := hide ha.1
  obtain ⟨i0, hi, hz0, hz1, hz2⟩ := info_parts info_txnR
  have HI := hide hi
  clear hi
  go_enter Tryz.func14, Tryz.ntmps14
  go_wp2
  go_loopw [7, 8] (RlRel w head n es) (fun _ i _ => n - (intOf i).toNat)
  case atStart => exact ⟨0, [], Nat.zero_le _, rfl, hide (RefL.start head es), Nat.le_refl _, hide (by simpa using World.ownsRow_nil w w.heap.size 53 4), Below.refl _ _⟩
  case round =>
    obtain ⟨k, outs, hk, rfl, hR, hol, hown, hbw⟩ := hrel
    have hz := hbw.size
    by_cases hlt : k < n
    · obtain ⟨b, o, e, rfl, hb, hkx, c0, c1⟩ := (h.below hbw hB).at_ (k := k) hlt
      have HX := hide hkx
      have s1 : (k : Int) < n := by omega
      have s0 : (0 : Int) ≤ k := by omega
      have HOV := hide (over_any (some ⟨b, o, none⟩) n c es e.txn B wr (by omega) (h.below hbw hB))
      have HW := hide (And.intro h ha)
      clear hkx h ha
      by_cases h2 : 2 < e.kind
      · have HR2 := hide (hR.out.skip HX.out (over_of_kind HX.out h2))
        go_wp2
        go_roundw
        case rel => exact ⟨k + 1, outs, by omega, by go_num, HR2, by omega, hown, hbw⟩
        case measure => simp [intOf]; omega
      · cases hov : overR es e.txn
        · rw [hov] at HOV
          have HV := hide hov
          clear hov
          go_upto_region 6 with (go_at_call 58; refine HOV.out.mono ?_; rintro ee w' ⟨rfl, hw'⟩; obtain rfl := hw'.symm)
          obtain ⟨A1, cp1, rfl, hc1, hc1m, hn1, _⟩ := own_slice hown.out
          have t1 : (outs.length : Int) ≤ 1000 := by omega
          go_wp2
          go_loopw [9] (fun j wx => ∃ p : Nat, p ≤ outs.length ∧ j = .int .i64 p ∧ Hid (∀ i x, i < p → outs[i]? = some x → x.id < e.txn) ∧ Below wr.heap.size wr wx) (fun j _ => outs.length - (intOf j).toNat)
          case atStart => exact ⟨0, Nat.zero_le _, rfl, hide (fun i x hi _ => absurd hi (by omega)), Below.refl _ _⟩
          case round =>
            obtain ⟨p, hp, rfl, hlo, hbx⟩ := hrel
            have hbW := below_via hbw hbx hz
            obtain ⟨b', o', e', hA', hb', hkx', g0, g1⟩ := (HW.out.1.below hbW hB).at_ (k := k) hlt
            obtain ⟨rfl, rfl⟩ : b = b' ∧ o = o' := by injection hA' with hA'; injection hA' with h1 h2 h3; exact ⟨h1, h2⟩
            obtain rfl : e = e' := by have := HX.out; rw [hkx'] at this; injection this with this; exact this.symm
            clear hA' hkx' c0 c1
            have HBX := hide hbx
            have HBW := hide hbW
            have hzx := hbx.size
            by_cases hpl : p < outs.length
            · obtain ⟨x, hx⟩ : ∃ x, outs[p]? = some x := ⟨_, List.getElem?_eq_getElem hpl⟩
              obtain ⟨g, c', hv, hgb, hgl, r0, r2, rf⟩ := rowT_at (own_via hown.out hbx) hx
              injection hv with hv1 _ hv2
              subst hv1 hv2
              have u0 : (p : Int) < outs.length := by omega
              have u1 : (0 : Int) ≤ p := by omega
              have HXX := hide hx
              clear hx hbx hbW
              cases hxi : decide (x.id < e.txn)
              · have HNX := hide (show e.txn ≤ x.id by have := of_decide_eq_false hxi; omega)
                have n9 : ((p : Int) == outs.length) = false := by rw [beq_eq_false_iff_ne]; omega
                cases heq : (x.id != e.txn)
                · have HEQ := hide (show x.id = e.txn by simpa using heq)
                  go_wp2
                  go_quiet (fail)
                  go_upto_region 9 with (fail)
                  go_quiet (fail)
                  go_upto_region 16 with (fail)
                  refine gen0 (w := wr) (R := fun W => Code.wp _ _ _ _ W) (below_drewN (below_drewN (Below.refl _ _) _) _) (fun wy hby hzy => ?_)
                  have HBY := hide hby
                  have HRY := hide (own_via (own_via hown.out HBX.out) hby)
                  clear r0 r2 rf g0 g1 hby
                  have hby2 := (HBW.out.trans (HBY.out.mono HBW.out.size))
                  obtain ⟨ba, oa, hA2, hba, a0⟩ := (HW.out.2.below hby2 hB).at_ HX.out
                  subst hA2
                  have sna : (k : Int) < na := by have h1 := HLa.out; have h2 := HL.out; omega
                  obtain ⟨g2, c2', hv2, hgb2, hgl2, r02, r22, rf2⟩ := rowT_at HRY.out HXX.out
                  obtain ⟨rfl, rfl⟩ : g = g2 ∧ cp1 = c2' := by injection hv2 with hv3 hv4 hv5; injection hv3 with hv3; injection hv3 with hv3; exact ⟨hv3, hv5⟩
                  clear hv2
                  have HGB := hide hgb2
                  have hby2' := hide hby2
                  clear hby2 hgb2
                  go_wp2
                  go_roundw
                  case rel =>
                    refine ⟨k + 1, outs.set p ⟨x.id, x.first, e.lsn, x.kept⟩, by omega, by go_num, hide (hR.out.upd HX.out HV.out HXX.out HEQ.out), by rw [List.length_set]; omega, hide ?_, hby2'.out.setCell (p := ⟨g, p * 4 + 2, none⟩) HGB.out _⟩
                    rw [List.length_set, flat_set txR 4 txR_length outs p 2 x _ (.int .i64 e.lsn) HXX.out (by omega) rfl]
                    exact own_set HRY.out _ _
                  case measure => simp [intOf]; omega
                · have HNE := hide (show x.id ≠ e.txn by simpa using heq)
                  go_wp2
                  go_quiet (fail)
                  go_upto_region 9 with (fail)
                  go_quiet (fail)
                  go_upto_region 10 with (fail)
                  have HHI := hide (show ∀ i y, p ≤ i → outs[i]? = some y → e.txn < y.id from fun i y hi hy => by
                    have h1 : e.txn < x.id := by have h3 := HNE.out; have h4 := HNX.out; omega
                    rcases Nat.eq_or_lt_of_le hi with h2 | h2
                    · subst h2; rw [HXX.out] at hy; injection hy with hy; subst hy; exact h1
                    · obtain ⟨l1, e1⟩ := List.getElem?_eq_some_iff.1 HXX.out
                      obtain ⟨l2, e2⟩ := List.getElem?_eq_some_iff.1 hy
                      have h3 := List.pairwise_iff_getElem.1 hR.out.rise p i l1 l2 h2
                      rw [e1, e2] at h3
                      omega)
                  refine gen0 (w := wr) (R := fun W => Code.wp _ _ _ _ W) (below_drewN (below_drewN (Below.refl _ _) _) _) (fun wy hby hzy => ?_)
                  have hbwy := HBW.out.trans (hby.mono HBW.out.size)
                  have hrowy := own_via (own_via hown.out HBX.out) hby
                  obtain ⟨b', o', e', hA', hb', hkx', gg0, gg1⟩ := (HW.out.1.below hbwy hB).at_ (k := k) hlt
                  obtain ⟨rfl, rfl⟩ : b = b' ∧ o = o' := by injection hA' with hA'; injection hA' with h1 h2 h3; exact ⟨h1, h2⟩
                  obtain rfl : e = e' := by have := HX.out; rw [hkx'] at this; injection this with this; exact this.symm
                  clear hA' hkx'
                  have HBY := hide hby
                  have HRY := hide hrowy
                  clear hby hrowy g0 g1
                  rcases Nat.eq_zero_or_pos k with hk0 | hk0
                  · have hk0' : decide ((0 : Int) < k) = false := by simp; omega
                    have hk1' : decide (0 < k) = false := by simp; omega
                    have hk2' : ¬ (0 < k) := by omega
                    have HF := hide (show head = headD head (es.take k) by rw [hk0]; rfl)
                    clear hk0
                    go_upto_region 13 with (fail)
                    clear hk0' hk1' hk2'
                    have hp0 : (0 : Int) ≤ p := by omega
                    have hp1 : (p : Int) ≤ outs.length := by omega
                    have hp2 : (p : Int) ≤ cp1 := by omega
                    have hp3 : (outs.length : Int) ≤ cp1 := by omega
                    have hbA : Below wy.heap.size wy (wy.alloc (.cells #[] 53)) := (Below.refl _ _).alloc (Nat.le_refl _) _
                    have hRd := ((Reads.of_own HRY.out).take hp).alloc (Nat.le_refl _) (.cells #[] 53)
                    rw [flatT_take] at hRd
                    have HRD := hide hRd
                    clear hRd
                    go_wp2_with (at_builtin; refine heldG ?_)
                    refine unheldG ?_
                    at_builtin
                    refine wpList_append_any _ rfl _ _ _ rfl wy.heap.size 53 i0 _ 4 32 Tryz.underlying46 HI.out hz0 hz1 hz2 rfl (by omega) _ 0 [] rfl (World.ownsRow_made wy #[] 0 (Nat.le_refl _) (Nat.zero_le _) rfl) wy.heap.size (some ⟨g, 0, none⟩) p _ ((outs.take p).flatMap txR) rfl HRD.out (oneT _) (by unfold maxLen; omega) (by omega) (by simp) ?_
                    intro v4 w4 hown4 hg4 _
                    have hb4 : Below wy.heap.size wy w4 := hbA.grown hg4 hbA.size (fun q hq => by cases hq; exact Nat.le_refl _)
                    simp only [Nat.zero_add, List.nil_append] at hown4
                    obtain ⟨A4, c4, rfl, _⟩ := own_slice hown4
                    have HO4 := hide hown4
                    have HB4 := hide hb4
                    have y1 : w4.cell? ⟨b, o + k * 15 + 1, none⟩ = some (.int .i64 e.txn) := (hb4.cell (p := ⟨b, o + k * 15 + 1, none⟩) (by have := hbwy.size; simp; omega)).trans gg1
                    clear hown4 hg4 hb4 gg0 gg1
                    go_wp2_with (at_builtin; refine heldG ?_)
                    refine unheldG ?_
                    at_builtin
                    refine wpList_append_any _ rfl _ _ _ rfl wy.heap.size 53 i0 _ 4 32 Tryz.underlying46 HI.out hz0 hz1 hz2 rfl (by omega) (.slice A4 p c4) p _ rfl (HO4.out.alloc _) (w4.heap.size + 1) (some ⟨w4.heap.size, 0, none⟩) 1 1 [.int .i64 e.txn, .int .i64 head, .int .i64 0, .int .i64 0] rfl (Reads.of_blk (n := 1) (size := 4) (Blk.new _ _ _) rfl) (fun u hu => by
                      simp only [List.mem_cons, List.not_mem_nil, or_false] at hu
                      rcases hu with rfl | rfl | rfl | rfl <;> rfl) (by unfold maxLen; omega) (by omega) (by have := HB4.out.size; simp; omega) ?_
                    intro v5 w5 hown5 hg5 _
                    have hb5 : Below wy.heap.size wy w5 := (HB4.out.alloc HB4.out.size _).grown hg5 (by have := HB4.out.size; simp; omega) (fun q hq => (World.ownsRow.lt HO4.out q hq).1)
                    obtain ⟨A5, c5, rfl, _⟩ := own_slice hown5
                    have HO5 := hide hown5
                    have HB5 := hide hb5
                    have hRd5 := ((Reads.of_own HRY.out).cut (cap := cp1) hp hc1).below hb5 (Nat.le_refl _)
                    rw [flatT_drop] at hRd5
                    have HRD5 := hide hRd5
                    have HP5 := hide hp
                    clear hown5 hg5 hb5 hRd5 y1
                    go_wp2_with (at_builtin; refine heldG ?_)
                    all_goals
                      refine unheldG ?_
                      at_builtin
                      refine wpList_append_any _ rfl _ _ _ rfl wy.heap.size 53 i0 _ 4 32 Tryz.underlying46 HI.out hz0 hz1 hz2 rfl (by omega) (.slice A5 (p + 1) c5) (p + 1) _ rfl HO5.out wy.heap.size _ (outs.length - p) _ ((outs.drop p).flatMap txR) rfl ?hr (oneT _) (by unfold maxLen; omega) (by omega) HB5.out.size ?_
                      case hr => have h5 := HRD5.out; rw [if_neg (by omega), Option.map_some, add_plain, Nat.zero_add] at h5; exact h5
                      intro v6 w6 hown6 hg6 _
                      have hb6 : Below wy.heap.size wy w6 := HB5.out.grown hg6 HB5.out.size (fun q hq => (World.ownsRow.lt HO5.out q hq).1)
                      obtain ⟨lst0, hl0⟩ : ∃ lst0, lst0 = outs.take p ++ (⟨e.txn, head, 0, 0⟩ : TxD) :: outs.drop p := ⟨_, rfl⟩
                      have hln : lst0.length = outs.length + 1 := by rw [hl0, List.length_append, List.length_cons, List.length_take, List.length_drop]; omega
                      have hx0 : lst0[p]? = some (⟨e.txn, head, 0, 0⟩ : TxD) := by rw [hl0, List.getElem?_append_right (by rw [List.length_take]; omega), List.length_take, Nat.min_eq_left HP5.out, Nat.sub_self]; rfl
                      have hst : lst0.set p (⟨e.txn, head, e.lsn, 0⟩ : TxD) = outs.take p ++ (⟨e.txn, head, e.lsn, 0⟩ : TxD) :: outs.drop p := by rw [hl0, List.set_append_right _ _ (by rw [List.length_take]; omega), List.length_take, Nat.min_eq_left HP5.out, Nat.sub_self]; rfl
                      have hown7 : w6.ownsRow wy.heap.size 53 4 v6 lst0.length (lst0.flatMap txR) := by
                        rw [show p + 1 + (outs.length - p) = lst0.length by rw [hln]; omega] at hown6
                        rw [hl0, List.flatMap_append, List.flatMap_cons]
                        rw [List.append_assoc] at hown6
                        rw [hl0] at hown6
                        exact hown6
                      have hbw6 := hbwy.trans (hb6.mono hbwy.size)
                      obtain ⟨ba, oa, hA2, hba, a0⟩ := (HW.out.2.below hbw6 hB).at_ HX.out
                      first
                        | subst hA2
                        | (obtain ⟨rfl, rfl⟩ : bf = ba ∧ of = oa := by injection hA2 with hA2; injection hA2 with h1 h2; exact ⟨h1, h2⟩
                           clear hA2)
                      have sna : (k : Int) < na := by have h1 := HLa.out; have h2 := HL.out; omega
                      obtain ⟨g2, c6, hv2, hgb2, hgl2, r02, r22, rf2⟩ := rowT_at hown7 hx0
                      subst hv2
                      have hu1 : (p : Int) < (lst0.length : Nat) := by rw [hln]; omega
                      have hu2 : p + 1 + (outs.length - p) = lst0.length := by rw [hln]; omega
                      have HGB := hide hgb2
                      have HB6 := hide hbw6
                      have HO7 := hide hown7
                      have HST := hide hst
                      have HX0 := hide hx0
                      have HLN := hide hln
                      clear hgb2 hbw6 hown7 hst hx0 hl0 hown6 hg6 hb6 hu2 hln
                      go_wp2
                      go_roundw
                      case rel =>
                        refine ⟨k + 1, outs.take p ++ (⟨e.txn, head, e.lsn, 0⟩ : TxD) :: outs.drop p, by omega, by go_num, hide ?_, ?_, hide ?_, HB6.out.setCell (p := ⟨g2, p * 4 + 2, none⟩) (Nat.le_trans (by have := hbwy.size; omega) HGB.out) _⟩
                        · have hh := hR.out.ins hk4 HX.out HV.out HP5.out hlo.out HHI.out
                          rw [← HF.out] at hh
                          exact hh
                        · rw [← HST.out, List.length_set, HLN.out]
                          omega
                        · rw [← HST.out, List.length_set, flat_set txR 4 txR_length lst0 p 2 ⟨e.txn, head, 0, 0⟩ _ (.int .i64 e.lsn) HX0.out (by omega) rfl]
                          exact own_low' (own_set HO7.out _ _) (by have := hbwy.size; omega)
                      case measure => simp [intOf]; omega
                  · obtain ⟨k', hk'⟩ : ∃ k', k = k' + 1 := ⟨k - 1, by omega⟩
                    obtain ⟨e1, he1⟩ : ∃ e1, es[k']? = some e1 := ⟨_, List.getElem?_eq_getElem (by have := HL.out; omega)⟩
                    have HF := hide (show e1.lsn = headD head (es.take k) by rw [hk']; exact (headD_take he1).symm)
                    obtain ⟨bf, of, hAf, hbf, af⟩ := (HW.out.2.below hbwy hB).at_ he1
                    subst hAf
                    have hk0' : decide ((0 : Int) < k) = true := by simp; omega
                    have hk1' : decide (0 < k) = true := by simp; omega
                    have tk : ((k : Int) - 1).toNat = k' := by omega
                    have tk0 : (0 : Int) ≤ (k : Int) - 1 := by omega
                    have tk1 : (k : Int) - 1 < na := by have h1 := HLa.out; have h2 := HL.out; omega
                    have tk2 : (k : Int) ≤ 1000 := by omega
                    clear hk' he1 hk0
                    go_upto_region 13 with (fail)
                    generalize hff : e1.lsn = ff at *
                    clear hff hk0' hk1' tk tk0 tk1 tk2 af
                    have hp0 : (0 : Int) ≤ p := by omega
                    have hp1 : (p : Int) ≤ outs.length := by omega
                    have hp2 : (p : Int) ≤ cp1 := by omega
                    have hp3 : (outs.length : Int) ≤ cp1 := by omega
                    have hbA : Below wy.heap.size wy (wy.alloc (.cells #[] 53)) := (Below.refl _ _).alloc (Nat.le_refl _) _
                    have hRd := ((Reads.of_own HRY.out).take hp).alloc (Nat.le_refl _) (.cells #[] 53)
                    rw [flatT_take] at hRd
                    have HRD := hide hRd
                    clear hRd
                    go_wp2_with (at_builtin; refine heldG ?_)
                    refine unheldG ?_
                    at_builtin
                    refine wpList_append_any _ rfl _ _ _ rfl wy.heap.size 53 i0 _ 4 32 Tryz.underlying46 HI.out hz0 hz1 hz2 rfl (by omega) _ 0 [] rfl (World.ownsRow_made wy #[] 0 (Nat.le_refl _) (Nat.zero_le _) rfl) wy.heap.size (some ⟨g, 0, none⟩) p _ ((outs.take p).flatMap txR) rfl HRD.out (oneT _) (by unfold maxLen; omega) (by omega) (by simp) ?_
                    intro v4 w4 hown4 hg4 _
                    have hb4 : Below wy.heap.size wy w4 := hbA.grown hg4 hbA.size (fun q hq => by cases hq; exact Nat.le_refl _)
                    simp only [Nat.zero_add, List.nil_append] at hown4
                    obtain ⟨A4, c4, rfl, _⟩ := own_slice hown4
                    have HO4 := hide hown4
                    have HB4 := hide hb4
                    have y1 : w4.cell? ⟨b, o + k * 15 + 1, none⟩ = some (.int .i64 e.txn) := (hb4.cell (p := ⟨b, o + k * 15 + 1, none⟩) (by have := hbwy.size; simp; omega)).trans gg1
                    clear hown4 hg4 hb4 gg0 gg1
                    go_wp2_with (at_builtin; refine heldG ?_)
                    refine unheldG ?_
                    at_builtin
                    refine wpList_append_any _ rfl _ _ _ rfl wy.heap.size 53 i0 _ 4 32 Tryz.underlying46 HI.out hz0 hz1 hz2 rfl (by omega) (.slice A4 p c4) p _ rfl (HO4.out.alloc _) (w4.heap.size + 1) (some ⟨w4.heap.size, 0, none⟩) 1 1 [.int .i64 e.txn, .int .i64 ff, .int .i64 0, .int .i64 0] rfl (Reads.of_blk (n := 1) (size := 4) (Blk.new _ _ _) rfl) (fun u hu => by
                      simp only [List.mem_cons, List.not_mem_nil, or_false] at hu
                      rcases hu with rfl | rfl | rfl | rfl <;> rfl) (by unfold maxLen; omega) (by omega) (by have := HB4.out.size; simp; omega) ?_
                    intro v5 w5 hown5 hg5 _
                    have hb5 : Below wy.heap.size wy w5 := (HB4.out.alloc HB4.out.size _).grown hg5 (by have := HB4.out.size; simp; omega) (fun q hq => (World.ownsRow.lt HO4.out q hq).1)
                    obtain ⟨A5, c5, rfl, _⟩ := own_slice hown5
                    have HO5 := hide hown5
                    have HB5 := hide hb5
                    have hRd5 := ((Reads.of_own HRY.out).cut (cap := cp1) hp hc1).below hb5 (Nat.le_refl _)
                    rw [flatT_drop] at hRd5
                    have HRD5 := hide hRd5
                    have HP5 := hide hp
                    clear hown5 hg5 hb5 hRd5 y1
                    go_wp2_with (at_builtin; refine heldG ?_)
                    all_goals
                      refine unheldG ?_
                      at_builtin
                      refine wpList_append_any _ rfl _ _ _ rfl wy.heap.size 53 i0 _ 4 32 Tryz.underlying46 HI.out hz0 hz1 hz2 rfl (by omega) (.slice A5 (p + 1) c5) (p + 1) _ rfl HO5.out wy.heap.size _ (outs.length - p) _ ((outs.drop p).flatMap txR) rfl ?hr (oneT _) (by unfold maxLen; omega) (by omega) HB5.out.size ?_
                      case hr => have h5 := HRD5.out; rw [if_neg (by omega), Option.map_some, add_plain, Nat.zero_add] at h5; exact h5
                      intro v6 w6 hown6 hg6 _
                      have hb6 : Below wy.heap.size wy w6 := HB5.out.grown hg6 HB5.out.size (fun q hq => (World.ownsRow.lt HO5.out q hq).1)
                      obtain ⟨lst0, hl0⟩ : ∃ lst0, lst0 = outs.take p ++ (⟨e.txn, ff, 0, 0⟩ : TxD) :: outs.drop p := ⟨_, rfl⟩
                      have hln : lst0.length = outs.length + 1 := by rw [hl0, List.length_append, List.length_cons, List.length_take, List.length_drop]; omega
                      have hx0 : lst0[p]? = some (⟨e.txn, ff, 0, 0⟩ : TxD) := by rw [hl0, List.getElem?_append_right (by rw [List.length_take]; omega), List.length_take, Nat.min_eq_left HP5.out, Nat.sub_self]; rfl
                      have hst : lst0.set p (⟨e.txn, ff, e.lsn, 0⟩ : TxD) = outs.take p ++ (⟨e.txn, ff, e.lsn, 0⟩ : TxD) :: outs.drop p := by rw [hl0, List.set_append_right _ _ (by rw [List.length_take]; omega), List.length_take, Nat.min_eq_left HP5.out, Nat.sub_self]; rfl
                      have hown7 : w6.ownsRow wy.heap.size 53 4 v6 lst0.length (lst0.flatMap txR) := by
                        rw [show p + 1 + (outs.length - p) = lst0.length by rw [hln]; omega] at hown6
                        rw [hl0, List.flatMap_append, List.flatMap_cons]
                        rw [List.append_assoc] at hown6
                        rw [hl0] at hown6
                        exact hown6
                      have hbw6 := hbwy.trans (hb6.mono hbwy.size)
                      obtain ⟨ba, oa, hA2, hba, a0⟩ := (HW.out.2.below hbw6 hB).at_ HX.out
                      first
                        | subst hA2
                        | (obtain ⟨rfl, rfl⟩ : bf = ba ∧ of = oa := by injection hA2 with hA2; injection hA2 with h1 h2; exact ⟨h1, h2⟩
                           clear hA2)
                      have sna : (k : Int) < na := by have h1 := HLa.out; have h2 := HL.out; omega
                      obtain ⟨g2, c6, hv2, hgb2, hgl2, r02, r22, rf2⟩ := rowT_at hown7 hx0
                      subst hv2
                      have hu1 : (p : Int) < (lst0.length : Nat) := by rw [hln]; omega
                      have hu2 : p + 1 + (outs.length - p) = lst0.length := by rw [hln]; omega
                      have HGB := hide hgb2
                      have HB6 := hide hbw6
                      have HO7 := hide hown7
                      have HST := hide hst
                      have HX0 := hide hx0
                      have HLN := hide hln
                      clear hgb2 hbw6 hown7 hst hx0 hl0 hown6 hg6 hb6 hu2 hln
                      go_wp2
                      go_roundw
                      case rel =>
                        refine ⟨k + 1, outs.take p ++ (⟨e.txn, ff, e.lsn, 0⟩ : TxD) :: outs.drop p, by omega, by go_num, hide ?_, ?_, hide ?_, HB6.out.setCell (p := ⟨g2, p * 4 + 2, none⟩) (Nat.le_trans (by have := hbwy.size; omega) HGB.out) _⟩
                        · have hh := hR.out.ins hk4 HX.out HV.out HP5.out hlo.out HHI.out
                          rw [← HF.out] at hh
                          exact hh
                        · rw [← HST.out, List.length_set, HLN.out]
                          omega
                        · rw [← HST.out, List.length_set, flat_set txR 4 txR_length lst0 p 2 ⟨e.txn, ff, 0, 0⟩ _ (.int .i64 e.lsn) HX0.out (by omega) rfl]
                          exact own_low' (own_set HO7.out _ _) (by have := hbwy.size; omega)
                      case measure => simp [intOf]; omega
              · have hxi2 : x.id < e.txn := of_decide_eq_true hxi
                have HLO := hide (show ∀ i y, i < p + 1 → outs[i]? = some y → y.id < e.txn from fun i y hi hy => by
                  rcases Nat.lt_or_eq_of_le (Nat.le_of_lt_succ hi) with h1 | h1
                  · exact hlo.out i y h1 hy
                  · subst h1; rw [HXX.out] at hy; injection hy with hy; subst hy; exact hxi2)
                go_wp2
                go_quiet (fail)
                go_wp2
                go_roundw
                case rel => exact ⟨p + 1, by omega, by go_num, HLO, below_drewN HBX.out _⟩
                case measure => simp [intOf]; omega
            · have hpe : p = outs.length := by omega
              have HPE := hide hpe
              have n7 : decide ((p : Int) < outs.length) = false := by simp; omega
              have n9 : ((p : Int) == outs.length) = true := by rw [beq_iff_eq]; omega
              clear hbx hbW hpe
              go_wp2
              go_quiet (fail)
              go_upto_region 9 with (fail)
              go_quiet (fail)
              go_upto_region 10 with (fail)
              have HHI := hide (show ∀ i y, p ≤ i → outs[i]? = some y → e.txn < y.id from fun i y hi hy => by
                have h1 := (List.getElem?_eq_some_iff.1 hy).1
                have := HPE.out
                omega)
              refine gen0 (w := wr) (R := fun W => Code.wp _ _ _ _ W) (below_drewN (below_drewN (Below.refl _ _) _) _) (fun wy hby hzy => ?_)
              have hbwy := HBW.out.trans (hby.mono HBW.out.size)
              have hrowy := own_via (own_via hown.out HBX.out) hby
              obtain ⟨b', o', e', hA', hb', hkx', gg0, gg1⟩ := (HW.out.1.below hbwy hB).at_ (k := k) hlt
              obtain ⟨rfl, rfl⟩ : b = b' ∧ o = o' := by injection hA' with hA'; injection hA' with h1 h2 h3; exact ⟨h1, h2⟩
              obtain rfl : e = e' := by have := HX.out; rw [hkx'] at this; injection this with this; exact this.symm
              clear hA' hkx'
              have HBY := hide hby
              have HRY := hide hrowy
              clear hby hrowy g0 g1
              rcases Nat.eq_zero_or_pos k with hk0 | hk0
              · have hk0' : decide ((0 : Int) < k) = false := by simp; omega
                have hk1' : decide (0 < k) = false := by simp; omega
                have hk2' : ¬ (0 < k) := by omega
                have HF := hide (show head = headD head (es.take k) by rw [hk0]; rfl)
                clear hk0
                go_upto_region 13 with (fail)
                clear hk0' hk1' hk2'
                have hp0 : (0 : Int) ≤ p := by omega
                have hp1 : (p : Int) ≤ outs.length := by omega
                have hp2 : (p : Int) ≤ cp1 := by omega
                have hp3 : (outs.length : Int) ≤ cp1 := by omega
                have hbA : Below wy.heap.size wy (wy.alloc (.cells #[] 53)) := (Below.refl _ _).alloc (Nat.le_refl _) _
                have hRd := ((Reads.of_own HRY.out).take hp).alloc (Nat.le_refl _) (.cells #[] 53)
                rw [flatT_take] at hRd
                have HRD := hide hRd
                clear hRd
                go_wp2_with (at_builtin; refine heldG ?_)
                refine unheldG ?_
                at_builtin
                refine wpList_append_any _ rfl _ _ _ rfl wy.heap.size 53 i0 _ 4 32 Tryz.underlying46 HI.out hz0 hz1 hz2 rfl (by omega) _ 0 [] rfl (World.ownsRow_made wy #[] 0 (Nat.le_refl _) (Nat.zero_le _) rfl) wy.heap.size A1 p _ ((outs.take p).flatMap txR) rfl HRD.out (oneT _) (by unfold maxLen; omega) (by omega) (by simp) ?_
                intro v4 w4 hown4 hg4 _
                have hb4 : Below wy.heap.size wy w4 := hbA.grown hg4 hbA.size (fun q hq => by cases hq; exact Nat.le_refl _)
                simp only [Nat.zero_add, List.nil_append] at hown4
                obtain ⟨A4, c4, rfl, _⟩ := own_slice hown4
                have HO4 := hide hown4
                have HB4 := hide hb4
                have y1 : w4.cell? ⟨b, o + k * 15 + 1, none⟩ = some (.int .i64 e.txn) := (hb4.cell (p := ⟨b, o + k * 15 + 1, none⟩) (by have := hbwy.size; simp; omega)).trans gg1
                clear hown4 hg4 hb4 gg0 gg1
                go_wp2_with (at_builtin; refine heldG ?_)
                refine unheldG ?_
                at_builtin
                refine wpList_append_any _ rfl _ _ _ rfl wy.heap.size 53 i0 _ 4 32 Tryz.underlying46 HI.out hz0 hz1 hz2 rfl (by omega) (.slice A4 p c4) p _ rfl (HO4.out.alloc _) (w4.heap.size + 1) (some ⟨w4.heap.size, 0, none⟩) 1 1 [.int .i64 e.txn, .int .i64 head, .int .i64 0, .int .i64 0] rfl (Reads.of_blk (n := 1) (size := 4) (Blk.new _ _ _) rfl) (fun u hu => by
                  simp only [List.mem_cons, List.not_mem_nil, or_false] at hu
                  rcases hu with rfl | rfl | rfl | rfl <;> rfl) (by unfold maxLen; omega) (by omega) (by have := HB4.out.size; simp; omega) ?_
                intro v5 w5 hown5 hg5 _
                have hb5 : Below wy.heap.size wy w5 := (HB4.out.alloc HB4.out.size _).grown hg5 (by have := HB4.out.size; simp; omega) (fun q hq => (World.ownsRow.lt HO4.out q hq).1)
                obtain ⟨A5, c5, rfl, _⟩ := own_slice hown5
                have HO5 := hide hown5
                have HB5 := hide hb5
                have hRd5 := ((Reads.of_own HRY.out).cut (cap := cp1) hp hc1).below hb5 (Nat.le_refl _)
                rw [flatT_drop] at hRd5
                have HRD5 := hide hRd5
                have HP5 := hide hp
                clear hown5 hg5 hb5 hRd5 y1
                go_wp2_with (at_builtin; refine heldG ?_)
                all_goals
                  refine unheldG ?_
                  at_builtin
                  refine wpList_append_any _ rfl _ _ _ rfl wy.heap.size 53 i0 _ 4 32 Tryz.underlying46 HI.out hz0 hz1 hz2 rfl (by omega) (.slice A5 (p + 1) c5) (p + 1) _ rfl HO5.out wy.heap.size _ (outs.length - p) _ ((outs.drop p).flatMap txR) rfl ?hr (oneT _) (by unfold maxLen; omega) (by omega) HB5.out.size ?_
                  case hr => have hd : outs.drop p = [] := List.drop_of_length_le (by have := HPE.out; omega); exact ⟨by rw [hd]; simp; have := HPE.out; omega, fun h => by have := HPE.out; omega⟩
                  intro v6 w6 hown6 hg6 _
                  have hb6 : Below wy.heap.size wy w6 := HB5.out.grown hg6 HB5.out.size (fun q hq => (World.ownsRow.lt HO5.out q hq).1)
                  obtain ⟨lst0, hl0⟩ : ∃ lst0, lst0 = outs.take p ++ (⟨e.txn, head, 0, 0⟩ : TxD) :: outs.drop p := ⟨_, rfl⟩
                  have hln : lst0.length = outs.length + 1 := by rw [hl0, List.length_append, List.length_cons, List.length_take, List.length_drop]; omega
                  have hx0 : lst0[p]? = some (⟨e.txn, head, 0, 0⟩ : TxD) := by rw [hl0, List.getElem?_append_right (by rw [List.length_take]; omega), List.length_take, Nat.min_eq_left HP5.out, Nat.sub_self]; rfl
                  have hst : lst0.set p (⟨e.txn, head, e.lsn, 0⟩ : TxD) = outs.take p ++ (⟨e.txn, head, e.lsn, 0⟩ : TxD) :: outs.drop p := by rw [hl0, List.set_append_right _ _ (by rw [List.length_take]; omega), List.length_take, Nat.min_eq_left HP5.out, Nat.sub_self]; rfl
                  have hown7 : w6.ownsRow wy.heap.size 53 4 v6 lst0.length (lst0.flatMap txR) := by
                    rw [show p + 1 + (outs.length - p) = lst0.length by rw [hln]; omega] at hown6
                    rw [hl0, List.flatMap_append, List.flatMap_cons]
                    rw [List.append_assoc] at hown6
                    rw [hl0] at hown6
                    exact hown6
                  have hbw6 := hbwy.trans (hb6.mono hbwy.size)
                  obtain ⟨ba, oa, hA2, hba, a0⟩ := (HW.out.2.below hbw6 hB).at_ HX.out
                  first
                    | subst hA2
                    | (obtain ⟨rfl, rfl⟩ : bf = ba ∧ of = oa := by injection hA2 with hA2; injection hA2 with h1 h2; exact ⟨h1, h2⟩
                       clear hA2)
                  have sna : (k : Int) < na := by have h1 := HLa.out; have h2 := HL.out; omega
                  obtain ⟨g2, c6, hv2, hgb2, hgl2, r02, r22, rf2⟩ := rowT_at hown7 hx0
                  subst hv2
                  have hu1 : (p : Int) < (lst0.length : Nat) := by rw [hln]; omega
                  have hu2 : p + 1 + (outs.length - p) = lst0.length := by rw [hln]; omega
                  have HGB := hide hgb2
                  have HB6 := hide hbw6
                  have HO7 := hide hown7
                  have HST := hide hst
                  have HX0 := hide hx0
                  have HLN := hide hln
                  clear hgb2 hbw6 hown7 hst hx0 hl0 hown6 hg6 hb6 hu2 hln
                  go_wp2
                  go_roundw
                  case rel =>
                    refine ⟨k + 1, outs.take p ++ (⟨e.txn, head, e.lsn, 0⟩ : TxD) :: outs.drop p, by omega, by go_num, hide ?_, ?_, hide ?_, HB6.out.setCell (p := ⟨g2, p * 4 + 2, none⟩) (Nat.le_trans (by have := hbwy.size; omega) HGB.out) _⟩
                    · have hh := hR.out.ins hk4 HX.out HV.out HP5.out hlo.out HHI.out
                      rw [← HF.out] at hh
                      exact hh
                    · rw [← HST.out, List.length_set, HLN.out]
                      omega
                    · rw [← HST.out, List.length_set, flat_set txR 4 txR_length lst0 p 2 ⟨e.txn, head, 0, 0⟩ _ (.int .i64 e.lsn) HX0.out (by omega) rfl]
                      exact own_low' (own_set HO7.out _ _) (by have := hbwy.size; omega)
                  case measure => simp [intOf]; omega
              · obtain ⟨k', hk'⟩ : ∃ k', k = k' + 1 := ⟨k - 1, by omega⟩
                obtain ⟨e1, he1⟩ : ∃ e1, es[k']? = some e1 := ⟨_, List.getElem?_eq_getElem (by have := HL.out; omega)⟩
                have HF := hide (show e1.lsn = headD head (es.take k) by rw [hk']; exact (headD_take he1).symm)
                obtain ⟨bf, of, hAf, hbf, af⟩ := (HW.out.2.below hbwy hB).at_ he1
                subst hAf
                have hk0' : decide ((0 : Int) < k) = true := by simp; omega
                have hk1' : decide (0 < k) = true := by simp; omega
                have tk : ((k : Int) - 1).toNat = k' := by omega
                have tk0 : (0 : Int) ≤ (k : Int) - 1 := by omega
                have tk1 : (k : Int) - 1 < na := by have h1 := HLa.out; have h2 := HL.out; omega
                have tk2 : (k : Int) ≤ 1000 := by omega
                clear hk' he1 hk0
                go_upto_region 13 with (fail)
                generalize hff : e1.lsn = ff at *
                clear hff hk0' hk1' tk tk0 tk1 tk2 af
                have hp0 : (0 : Int) ≤ p := by omega
                have hp1 : (p : Int) ≤ outs.length := by omega
                have hp2 : (p : Int) ≤ cp1 := by omega
                have hp3 : (outs.length : Int) ≤ cp1 := by omega
                have hbA : Below wy.heap.size wy (wy.alloc (.cells #[] 53)) := (Below.refl _ _).alloc (Nat.le_refl _) _
                have hRd := ((Reads.of_own HRY.out).take hp).alloc (Nat.le_refl _) (.cells #[] 53)
                rw [flatT_take] at hRd
                have HRD := hide hRd
                clear hRd
                go_wp2_with (at_builtin; refine heldG ?_)
                refine unheldG ?_
                at_builtin
                refine wpList_append_any _ rfl _ _ _ rfl wy.heap.size 53 i0 _ 4 32 Tryz.underlying46 HI.out hz0 hz1 hz2 rfl (by omega) _ 0 [] rfl (World.ownsRow_made wy #[] 0 (Nat.le_refl _) (Nat.zero_le _) rfl) wy.heap.size A1 p _ ((outs.take p).flatMap txR) rfl HRD.out (oneT _) (by unfold maxLen; omega) (by omega) (by simp) ?_
                intro v4 w4 hown4 hg4 _
                have hb4 : Below wy.heap.size wy w4 := hbA.grown hg4 hbA.size (fun q hq => by cases hq; exact Nat.le_refl _)
                simp only [Nat.zero_add, List.nil_append] at hown4
                obtain ⟨A4, c4, rfl, _⟩ := own_slice hown4
                have HO4 := hide hown4
                have HB4 := hide hb4
                have y1 : w4.cell? ⟨b, o + k * 15 + 1, none⟩ = some (.int .i64 e.txn) := (hb4.cell (p := ⟨b, o + k * 15 + 1, none⟩) (by have := hbwy.size; simp; omega)).trans gg1
                clear hown4 hg4 hb4 gg0 gg1
                go_wp2_with (at_builtin; refine heldG ?_)
                refine unheldG ?_
                at_builtin
                refine wpList_append_any _ rfl _ _ _ rfl wy.heap.size 53 i0 _ 4 32 Tryz.underlying46 HI.out hz0 hz1 hz2 rfl (by omega) (.slice A4 p c4) p _ rfl (HO4.out.alloc _) (w4.heap.size + 1) (some ⟨w4.heap.size, 0, none⟩) 1 1 [.int .i64 e.txn, .int .i64 ff, .int .i64 0, .int .i64 0] rfl (Reads.of_blk (n := 1) (size := 4) (Blk.new _ _ _) rfl) (fun u hu => by
                  simp only [List.mem_cons, List.not_mem_nil, or_false] at hu
                  rcases hu with rfl | rfl | rfl | rfl <;> rfl) (by unfold maxLen; omega) (by omega) (by have := HB4.out.size; simp; omega) ?_
                intro v5 w5 hown5 hg5 _
                have hb5 : Below wy.heap.size wy w5 := (HB4.out.alloc HB4.out.size _).grown hg5 (by have := HB4.out.size; simp; omega) (fun q hq => (World.ownsRow.lt HO4.out q hq).1)
                obtain ⟨A5, c5, rfl, _⟩ := own_slice hown5
                have HO5 := hide hown5
                have HB5 := hide hb5
                have hRd5 := ((Reads.of_own HRY.out).cut (cap := cp1) hp hc1).below hb5 (Nat.le_refl _)
                rw [flatT_drop] at hRd5
                have HRD5 := hide hRd5
                have HP5 := hide hp
                clear hown5 hg5 hb5 hRd5 y1
                go_wp2_with (at_builtin; refine heldG ?_)
                all_goals
                  refine unheldG ?_
                  at_builtin
                  refine wpList_append_any _ rfl _ _ _ rfl wy.heap.size 53 i0 _ 4 32 Tryz.underlying46 HI.out hz0 hz1 hz2 rfl (by omega) (.slice A5 (p + 1) c5) (p + 1) _ rfl HO5.out wy.heap.size _ (outs.length - p) _ ((outs.drop p).flatMap txR) rfl ?hr (oneT _) (by unfold maxLen; omega) (by omega) HB5.out.size ?_
                  case hr => have hd : outs.drop p = [] := List.drop_of_length_le (by have := HPE.out; omega); exact ⟨by rw [hd]; simp; have := HPE.out; omega, fun h => by have := HPE.out; omega⟩
                  intro v6 w6 hown6 hg6 _
                  have hb6 : Below wy.heap.size wy w6 := HB5.out.grown hg6 HB5.out.size (fun q hq => (World.ownsRow.lt HO5.out q hq).1)
                  obtain ⟨lst0, hl0⟩ : ∃ lst0, lst0 = outs.take p ++ (⟨e.txn, ff, 0, 0⟩ : TxD) :: outs.drop p := ⟨_, rfl⟩
                  have hln : lst0.length = outs.length + 1 := by rw [hl0, List.length_append, List.length_cons, List.length_take, List.length_drop]; omega
                  have hx0 : lst0[p]? = some (⟨e.txn, ff, 0, 0⟩ : TxD) := by rw [hl0, List.getElem?_append_right (by rw [List.length_take]; omega), List.length_take, Nat.min_eq_left HP5.out, Nat.sub_self]; rfl
                  have hst : lst0.set p (⟨e.txn, ff, e.lsn, 0⟩ : TxD) = outs.take p ++ (⟨e.txn, ff, e.lsn, 0⟩ : TxD) :: outs.drop p := by rw [hl0, List.set_append_right _ _ (by rw [List.length_take]; omega), List.length_take, Nat.min_eq_left HP5.out, Nat.sub_self]; rfl
                  have hown7 : w6.ownsRow wy.heap.size 53 4 v6 lst0.length (lst0.flatMap txR) := by
                    rw [show p + 1 + (outs.length - p) = lst0.length by rw [hln]; omega] at hown6
                    rw [hl0, List.flatMap_append, List.flatMap_cons]
                    rw [List.append_assoc] at hown6
                    rw [hl0] at hown6
                    exact hown6
                  have hbw6 := hbwy.trans (hb6.mono hbwy.size)
                  obtain ⟨ba, oa, hA2, hba, a0⟩ := (HW.out.2.below hbw6 hB).at_ HX.out
                  first
                    | subst hA2
                    | (obtain ⟨rfl, rfl⟩ : bf = ba ∧ of = oa := by injection hA2 with hA2; injection hA2 with h1 h2; exact ⟨h1, h2⟩
                       clear hA2)
                  have sna : (k : Int) < na := by have h1 := HLa.out; have h2 := HL.out; omega
                  obtain ⟨g2, c6, hv2, hgb2, hgl2, r02, r22, rf2⟩ := rowT_at hown7 hx0
                  subst hv2
                  have hu1 : (p : Int) < (lst0.length : Nat) := by rw [hln]; omega
                  have hu2 : p + 1 + (outs.length - p) = lst0.length := by rw [hln]; omega
                  have HGB := hide hgb2
                  have HB6 := hide hbw6
                  have HO7 := hide hown7
                  have HST := hide hst
                  have HX0 := hide hx0
                  have HLN := hide hln
                  clear hgb2 hbw6 hown7 hst hx0 hl0 hown6 hg6 hb6 hu2 hln
                  go_wp2
                  go_roundw
                  case rel =>
                    refine ⟨k + 1, outs.take p ++ (⟨e.txn, ff, e.lsn, 0⟩ : TxD) :: outs.drop p, by omega, by go_num, hide ?_, ?_, hide ?_, HB6.out.setCell (p := ⟨g2, p * 4 + 2, none⟩) (Nat.le_trans (by have := hbwy.size; omega) HGB.out) _⟩
                    · have hh := hR.out.ins hk4 HX.out HV.out HP5.out hlo.out HHI.out
                      rw [← HF.out] at hh
                      exact hh
                    · rw [← HST.out, List.length_set, HLN.out]
                      omega
                    · rw [← HST.out, List.length_set, flat_set txR 4 txR_length lst0 p 2 ⟨e.txn, ff, 0, 0⟩ _ (.int .i64 e.lsn) HX0.out (by omega) rfl]
                      exact own_low' (own_set HO7.out _ _) (by have := hbwy.size; omega)
                  case measure => simp [intOf]; omega
        · rw [hov] at HOV
          have HR2 := hide (hR.out.skip HX.out hov)
          clear hov
          go_wp2_with (go_at_call 58; refine HOV.out.mono ?_; rintro ee w' ⟨rfl, hw'⟩; obtain rfl := hw'.symm)
          go_roundw
          case rel => exact ⟨k + 1, outs, by omega, by go_num, HR2, by omega, hown, hbw⟩
          case measure => simp [intOf]; omega
    · have hke : k = es.length := by have := HL.out; omega
      subst hke
      obtain ⟨A1, c1, e1, _⟩ := own_slice hown.out
      subst e1
      go_wp2
      go_ret
      exact ⟨⟨A1, c1, outs, hR.out, rfl, hown.out⟩, hbw⟩
end Go.Proofs.YtnanlaefehaifaaGreat
