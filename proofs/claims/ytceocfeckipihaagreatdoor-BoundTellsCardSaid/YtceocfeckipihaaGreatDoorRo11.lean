/-
  Texts of this claim, joined: YE, YF, YG, YH, YI, YJ, YP, YR, YK, YL.
-/
import Derived.Below
import Derived.Laws.StructEq
import Derived.RecoverIn
import Derived.Test.YtceocfeckipihaaGreatDoorRo10
set_option maxHeartbeats 6400000
set_option maxRecDepth 100000
namespace Go.Proofs.YtceocfeckipihaaGreatDoor.Vm
open Go
section
variable {P : Program} {E : Env} {ev : Ev} {rnd : Option Nat} {ρ ρ' ρ0 : Ren} {w w' w0 : World} {F : Fence} {n : Nat} {s s' s0 : St}
theorem FOf.round (h : FOf ρ rnd F) : (rnd = none ∧ F.round = none) ∨ ∃ l p, rnd = some l ∧ ρ l = some p ∧ F.round = some p.1 := by
  unfold FOf at h
  cases rnd with
  | none => exact .inl ⟨rfl, by rw [h]; rfl⟩
  | some l => obtain ⟨p, h1, rfl⟩ := h; exact .inr ⟨l, p, rfl, h1, rfl⟩
theorem pend_ok {pe : Option Code} {e : AExit} (h : pendA pe = some e) {Q : Exit → Act → World → Prop} {act : Act} (hQ : ∀ e', ExR e e' → Q e' act w) :
    (match pe with | none => Q .normal act w | some c => c.wpIn F n P Q act w) := by
  unfold pendA at h
  cases pe with
  | none =>
    simp only [Option.some.injEq] at h
    subst h
    exact hQ _ .normal
  | some c =>
    cases c <;> simp only [Option.some.injEq, reduceCtorEq] at h <;> subst h
    · exact wpIn_exit (hQ _ (.exit _))
    · exact wpIn_ret (hQ _ .ret)
theorem mark_ok {T : Tr AV} {nt : Nat} {ps : Array Tmp} {az bd : Code} {mk : Nat × List ADef} {l : Nat} {s1 s2 : St} (h1 : markM rnd s = .ok mk s1) (h2 : newM (.loop .ready none T nt ps.toList az bd mk.1) s1 = .ok l s2)
    (hF : FOf ρ rnd F) (hw : WRel ρ s.h w) (hf : FreshN ρ s.c s2.c) {tmps : Array Value} (hT : TRel ρ T nt tmps) (fn : FuncId) :
    ∃ ρ2 w2 p mks, (Instr.enterLoop fn tmps ps az bd F.round).run P w = .ok (p, mks) w2 ∧ (∃ k, ρ2 l = some (p, k)) ∧ DRel ρ2 mk.2 mks ∧ WRel ρ2 s2.h w2 ∧ Stp s s2 ρ ρ2 w w2 ∧ s.c ≤ s2.c := by
  obtain ⟨rfl, hs2⟩ := newM_ok.1 h2
  have hc2 : s2.c = s1.c + 1 := by rw [hs2]; rfl
  rcases hF.round with ⟨rfl, hr⟩ | ⟨l0, p0, rfl, hp0, hr⟩
  · unfold markM at h1
    obtain ⟨r, s3, h3, h4⟩ := M.bind_ok.1 h1
    obtain ⟨rfl, rfl⟩ := M.pure_ok.1 h4
    obtain ⟨rfl, hs3⟩ := newM_ok.1 h3
    have hc1 : s1.c = s.c + 1 := by rw [hs3]; rfl
    have n1 := new_rel (s' := s1) (o := .defs (some [])) (ob := .deferred (some [])) (κ := 0) hw (hf.at (by omega)) (by rw [hs3]; rfl) (by rw [hs3]; rfl) ⟨some [], rfl, [], rfl, rfl⟩
    have hfr : (ρ.put s.c (w.heap.size, 0, 0)) s1.c = none := by
      unfold Ren.put
      rw [if_neg (by omega)]
      exact hf s1.c (by omega) (by omega)
    have hT1 : TRel ((ρ.put s.c (w.heap.size, 0, 0)).put s1.c ((w.alloc (.deferred (some []))).heap.size, 0, 0)) T nt tmps := (hT.mono (Ren.put_le (hf.at (by omega)) _)).mono (Ren.put_le hfr _)
    have n2 := new_rel (s' := s2) (o := .loop .ready none T nt ps.toList az bd s.c) (ob := .loop { state := .ready, pending := none, fn, tmps, params := ps, assign := az, body := bd, defers := w.heap.size }) (κ := 0) n1.1 hfr (by rw [hs2]; rfl) (by rw [hs2]; rfl)
      ⟨_, rfl, rfl, rfl, hT1, rfl, rfl, rfl, _, Ren.put_le hfr _ _ _ (Ren.put_same _ _ _), rfl⟩
    refine ⟨_, _, (w.alloc (.deferred (some []))).heap.size, [{ target := .collected w.heap.size, args := #[] }], ?_, ⟨_, Ren.put_same _ _ _⟩, ⟨_, [], rfl, ⟨_, Ren.put_le hfr _ _ _ (Ren.put_same _ _ _), rfl⟩, rfl⟩, n2.1, Stp.trans n1.2 n2.2 (by omega) (by omega), by omega⟩
    rw [hr]
    rfl
  · unfold markM at h1
    obtain ⟨rr, s3, h3, h4⟩ := M.bind_ok.1 h1
    obtain ⟨st, pe, t, m, qs, as0, bd0, dn⟩ := rr
    obtain ⟨rfl, rfl⟩ := M.pure_ok.1 h4
    obtain ⟨g1, g2⟩ := loopM_ok h3
    have hc1 : s1.c = s.c := g2.2
    obtain ⟨r0, k1, k2, k3⟩ := hw.loop (P := P) g1 hp0
    obtain ⟨_, _, _, _, _, _, dq, k4, k5⟩ := k2
    have hfr : ρ s1.c = none := hf s1.c (by omega) (by omega)
    have n2 := new_rel (s' := s2) (o := .loop .ready none T nt ps.toList az bd dn) (ob := .loop { state := .ready, pending := none, fn, tmps, params := ps, assign := az, body := bd, defers := r0.defers }) (κ := 0) (hw.alike g2) hfr (by rw [hs2]; rfl) (by rw [hs2]; rfl)
      ⟨_, rfl, rfl, rfl, hT.mono (Ren.put_le hfr _), rfl, rfl, rfl, dq, Ren.put_le hfr _ _ _ k4, k5⟩
    refine ⟨_, _, w.heap.size, [], ?_, ⟨_, Ren.put_same _ _ _⟩, rfl, n2.1, g2.stp n2.2, by omega⟩
    rw [hr]
    simp only [Instr.enterLoop, Sem.run_bind, k3, Result.andThen_ok, Sem.run_pure]
    rfl
theorem range_ok (hev : EvOK P ev) (hl : LocEv ev) {f : Operand} {ps : Array Tmp} {az bd : Code} {a : AAct} {q : AExit × AAct} (h : rangeC (opd f) ps.toList az bd ev rnd a s = .ok q s') : CodeOK P rnd (.rangeFunc f ps az bd) a s q s' := by
  intro ρ w act F n hF hw hf ha
  obtain ⟨T, nt, ds⟩ := a
  unfold rangeC at h
  simp only at h
  obtain ⟨mk, s1, h1, h2⟩ := M.bind_ok.1 h
  obtain ⟨l, s2, h3, h4⟩ := M.bind_ok.1 h2
  obtain ⟨fv, s3, h5, h6⟩ := M.bind_ok.1 h4
  obtain ⟨fq, s4, h7, h8⟩ := M.bind_ok.1 h6
  obtain ⟨hfq, rfl⟩ := M.of_ok.1 h7
  obtain ⟨v, s5, h9, h10⟩ := M.bind_ok.1 h8
  obtain ⟨e, s6, h11, h12⟩ := M.bind_ok.1 h10
  obtain ⟨rfl, rfl⟩ := M.pure_ok.1 h12
  have c1 := (Loc.markM rnd).le h1
  have c2 := (Loc.newM _).le h3
  have c5 := (hl.call _ _).le h9
  have c6 := (Loc.overM l).le h11
  obtain ⟨rfl, _⟩ := rd_rel (ρ := ρ) h5 ha.t
  refine wpIn_rangeFunc (fun fn _ => ?_)
  obtain ⟨ρ2, w2, p, mks, g1, ⟨k, g2⟩, g3, g4, g5, g6⟩ := mark_ok (P := P) h1 h3 hF hw (hf.sub (Nat.le_refl _) (by omega)) ha.t fn
  obtain ⟨_, hfr⟩ := rd_rel h5 (ha.mono g5.le).t
  obtain ⟨x, y, e1, e2, e3⟩ := fnOnly_rel hfq hfr
  obtain ⟨en, hc⟩ := hev.call _ _ _ _ _ h9
  have hy : VRel ρ2 (.yield l) (.func (.yield p) #[] #[]) := ⟨_, g2, rfl⟩
  have hargs : LRel ρ2 (fq.2.1 ++ [.yield l] ++ fq.2.2) ((x ++ #[Value.func (.yield p) #[] #[]]) ++ y).toList := by
    rw [Array.toList_append, Array.toList_append]
    exact LRel.append (LRel.append e2 (LRel.cons_iff.2 ⟨_, [], rfl, hy, LRel.nil_iff.2 rfl⟩)) e3
  refine ⟨p, mks, w2, { target := .fn (.func fq.1) y, args := x ++ #[Value.func (.yield p) #[] #[]] }, w2, fq.1, (x ++ #[Value.func (.yield p) #[] #[]]) ++ y, w2, g1, ?_, fun f' _ => hF.fn f', en _ _, hF.depth, CallsIn.mono (hF.wide (hc ρ2 w2 _ _ g4 (hf.step g5 g6 |>.sub (Nat.le_refl _) (by omega)) hargs)) ?_⟩
  · have hres : resolve act.eval (rangeCall f p) 0 = Deferred.ofValue (act.eval f) #[Value.func (.yield p) #[] #[]] := by
      simp only [resolve]
      congr 1
      exact Array.ext' (by simp [Act.eval])
    rw [hres, e1]
    rfl
  · rintro e' w3 ⟨ρ3, u, rfl, hv, hw3, hs3⟩
    unfold overM at h11
    obtain ⟨rr, s7, y1, y2⟩ := M.bind_ok.1 h11
    obtain ⟨st, pe, t, m, qs, as0, bd0, dn⟩ := rr
    obtain ⟨y3, y4⟩ := loopM_ok y1
    simp only at y2
    cases hb : isBusy st with
    | true => rw [bif_true _ _ hb] at y2; exact (M.fail_ok.1 y2).elim
    | false =>
      rw [bif_false _ _ hb] at y2
      obtain ⟨_, s8, y5, y6⟩ := M.bind_ok.1 y2
      obtain ⟨hpe, rfl⟩ := M.of_ok.1 y6
      have hp3 := hs3.le _ _ g2
      obtain ⟨r, z1, z2, z3⟩ := hw3.loop (P := P) y3 hp3
      obtain ⟨b1, b2, b3, b4, b5, b6, bq, b7, b8⟩ := z2
      obtain ⟨d1, d2, d3, d4⟩ := loopset_rel (P := P) (r := { r with state := .exhausted }) (hw3.alike y4) (by rw [y4.1]; exact y3) hp3 z1 ⟨rfl, b2, b3, b4, b5, b6, bq, b7, b8⟩ y5
      have hnb : (r.state == .busy) = false := by rw [b1]; cases st <;> first | rfl | cases hb
      refine ⟨pe, { w3 with heap := w3.heap.setIfInBounds p (.loop { r with state := .exhausted }) }, ?_, ?_⟩
      · simp only [Instr.endLoop, Sem.run_bind, z3, Result.andThen_ok, hnb, Bool.false_eq_true, if_false, d1, Sem.run_pure]
        rw [b2]
      · have hst : Stp s s' ρ ρ3 w { w3 with heap := w3.heap.setIfInBounds p (.loop { r with state := .exhausted }) } := Stp.trans (Stp.trans g5 hs3 g6 (by omega)) (y4.stp d3) (by omega) (by omega)
        have hpend := pend_ok (P := P) (F := F) (n := n) (Q := Left s s' ρ w (e, .mk T nt (mk.2 ++ ds))) (act := { act with defers := mks ++ act.defers }) hpe (fun e' he' => ⟨ρ3, he', ⟨(ha.mono hst.le).t, DRel.append (g3.mono hs3.le) (ha.mono hst.le).d⟩, d2, hst⟩)
        cases pe with
        | none => exact hpend
        | some c => exact hpend
theorem draws_ok (hE : EnvAll E P) (hev : EvOK P ev) (hl : LocEv ev) {id : Nat} {ops : Array Oper} {a : AAct} {q : AExit × AAct} (h : drawC E ops.toList ev rnd a s = .ok q s') : CodeOK P rnd (.region id ops true) a s q s' := by
  intro ρ w act F n hF hw hf ha
  unfold drawC at h
  cases hso : slotsOk ops.toList ops.toList (befs ops.toList []) 0 with
  | false => rw [bif_false _ _ hso] at h; exact (M.fail_ok.1 h).elim
  | true =>
    rw [bif_true _ _ hso] at h
    obtain ⟨a', s1, h1, h2⟩ := M.bind_ok.1 h
    obtain ⟨rfl, rfl⟩ := M.pure_ok.1 h2
    obtain ⟨h0, c0, r0, w0⟩ := s
    exact wpIn_region_any hE.mixed (draw_ok hE hev hl hso h1 hF hw hf ha)
theorem loop_ok (hl : LocEv ev) {x : CodeC} {c : Code} (hlx : ∀ a, Loc (x ev rnd a)) (hx : ∀ a s q s', x ev rnd a s = .ok q s' → CodeOK P rnd c a s q s') {Q : Exit → Act → World → Prop} {q : AExit × AAct} (hF0 : FOf ρ0 rnd F)
    (hQ : ∀ e act' w', Left s0 s' ρ0 w0 q e act' w' → Q e act' w') :
    ∀ (m : Nat) (a : AAct) (s : St) (ρ : Ren) (act : Act) (w : World), loopN x ev rnd m a s = .ok q s' → WRel ρ s.h w → FreshN ρ s.c s'.c → ActR ρ a act → Stp s0 s ρ0 ρ w0 w → s0.c ≤ s.c → Code.roundsIn F n P c Q m act w
  | 0, a, s, ρ, act, w, h, _, _, _, _, _ => ((M.fail_ok (s := s)).1 h).elim
  | m + 1, a, s, ρ, act, w, h, hw, hf, ha, hst, hc => by
    obtain ⟨q1, s1, h1, h2⟩ := M.bind_ok.1 h
    have c1 := (hlx a).le h1
    have c2 : s1.c ≤ s'.c := by
      refine Loc.le (m := bif isNormal q1.1 then loopN x ev rnd m q1.2 else M.pure q1) (Loc.cond (Loc.loopN hlx m _) (Loc.pure _)) h2
    rw [roundsIn_succ]
    refine wpIn_mono (hx a s q1 s1 h1 ρ w act F n (hF0.mono hst.le) hw (hf.sub (Nat.le_refl _) c2) ha) (fun e act1 w1 hleft => ?_)
    obtain ⟨ρ1, g1, g2, g3, g4⟩ := hleft
    have hst1 := Stp.trans hst g4 hc c1
    cases hn : isNormal q1.1 with
    | true =>
      rw [bif_true _ _ hn] at h2
      rw [isNormal_iff.1 hn] at g1
      rw [g1.normal_of]
      exact loop_ok hl hlx hx hF0 hQ m q1.2 s1 ρ1 act1 w1 h2 g3 (hf.step g4 c1) g2 hst1 (Nat.le_trans hc c1)
    | false =>
      rw [bif_false _ _ hn] at h2
      obtain ⟨rfl, rfl⟩ := M.pure_ok.1 h2
      exact g1.other hn (hQ e act1 w1 ⟨ρ1, g1, g2, g3, hst1⟩)
theorem code_ok (hE : EnvAll E P) (hev : EvOK P ev) (hl : LocEv ev) (c : Code) : ∀ (rnd : Option Nat) (a : AAct) (s : St) (q : AExit × AAct) (s' : St), codeC E c ev rnd a s = .ok q s' → CodeOK P rnd c a s q s' := by
  induction c with
  | region id ops draw =>
    intro rnd a s q s' h
    cases draw with
    | true => exact draws_ok hE hev hl h
    | false =>
      intro ρ w act F n hF hw hf ha
      obtain ⟨a', s1, h1, h2⟩ := M.bind_ok.1 h
      obtain ⟨rfl, rfl⟩ := M.pure_ok.1 h2
      refine wpIn_region ?_
      rw [List.range_eq_range', ← Array.length_toList]
      exact ops_ok (s0 := s) (ρ0 := ρ) (w0 := w) hE hev hl ops.toList 0 a s ρ act w rfl h1 hF hw hf ha (Stp.alike (Alike.refl _)) (Nat.le_refl _) (fun ρ' act' w' g1 g2 g3 => ⟨ρ', .normal, g1, g2, g3⟩)
  | seq x y hx hy =>
    intro rnd a s q s' h ρ w act F n hF hw hf ha
    obtain ⟨q1, s1, h1, h2⟩ := M.bind_ok.1 h
    have c1 := (Loc.codeC hl x rnd a).le h1
    have c2 : s1.c ≤ s'.c := Loc.le (m := bif isNormal q1.1 then codeC E y ev rnd q1.2 else M.pure q1) (Loc.cond (Loc.codeC hl y rnd _) (Loc.pure _)) h2
    refine wpIn_seq (wpIn_mono (hx rnd a s q1 s1 h1 ρ w act F n hF hw (hf.sub (Nat.le_refl _) c2) ha) (fun e act1 w1 hleft => ?_))
    obtain ⟨ρ1, g1, g2, g3, g4⟩ := hleft
    cases hn : isNormal q1.1 with
    | true =>
      rw [bif_true _ _ hn] at h2
      rw [isNormal_iff.1 hn] at g1
      rw [g1.normal_of]
      exact wpIn_mono (hy rnd q1.2 s1 q s' h2 ρ1 w1 act1 F n (hF.mono g4.le) g3 (hf.step g4 c1) g2) (fun e act2 w2 hl2 => hl2.pre g4 c1 c2)
    | false =>
      rw [bif_false _ _ hn] at h2
      obtain ⟨rfl, rfl⟩ := M.pure_ok.1 h2
      exact g1.other hn ⟨ρ1, g1, g2, g3, g4⟩
  | cond c x y hx hy =>
    intro rnd a s q s' h ρ w act F n hF hw hf ha
    obtain ⟨v, s1, h1, h2⟩ := M.bind_ok.1 h
    obtain ⟨rfl, g1⟩ := rd_rel h1 ha.t
    obtain ⟨b, s2, h3, h4⟩ := M.bind_ok.1 h2
    obtain ⟨hb, rfl⟩ := M.of_ok.1 h3
    refine wpIn_cond (boolA_rel hb g1) ?_
    cases b with
    | true => exact hx rnd a _ q s' h4 ρ w act F n hF hw hf ha
    | false => exact hy rnd a _ q s' h4 ρ w act F n hF hw hf ha
  | block id x hx =>
    intro rnd a s q s' h ρ w act F n hF hw hf ha
    obtain ⟨q1, s1, h1, h2⟩ := M.bind_ok.1 h
    obtain ⟨rfl, rfl⟩ := M.pure_ok.1 h2
    exact wpIn_block (wpIn_mono (hx rnd a s q1 _ h1 ρ w act F n hF hw hf ha) (fun e act1 w1 hleft => hleft.inBlock))
  | loop x hx =>
    intro rnd a s q s' h ρ w act F n hF hw hf ha
    exact wpIn_loop_rounds ev.fuel (loop_ok (s0 := s) (ρ0 := ρ) (w0 := w) hl (fun a => Loc.codeC hl x rnd a) (fun a s q s' => hx rnd a s q s') hF (fun _ _ _ h => h) ev.fuel a s ρ act w h hw hf ha (Stp.alike (Alike.refl _)) (Nat.le_refl _))
  | scope x hx =>
    intro rnd a s q s' h ρ w act F n hF hw hf ha
    exact wpIn_scope (wpIn_mono (hx rnd a s q s' h ρ w act F n hF hw hf ha) (fun e act1 w1 hleft => hleft.noGoto))
  | rangeFunc f ps az bd _ _ => exact fun rnd a s q s' h => range_ok hev hl h
  | exit id =>
    intro rnd a s q s' h ρ w act F n hF hw hf ha
    obtain ⟨rfl, rfl⟩ := M.pure_ok.1 h
    exact wpIn_exit ⟨ρ, .exit id, ha, hw, Stp.alike (Alike.refl _)⟩
  | ret =>
    intro rnd a s q s' h ρ w act F n hF hw hf ha
    obtain ⟨rfl, rfl⟩ := M.pure_ok.1 h
    exact wpIn_ret ⟨ρ, .ret, ha, hw, Stp.alike (Alike.refl _)⟩
  | skip =>
    intro rnd a s q s' h ρ w act F n hF hw hf ha
    obtain ⟨rfl, rfl⟩ := M.pure_ok.1 h
    exact wpIn_skip ⟨ρ, .normal, ha, hw, Stp.alike (Alike.refl _)⟩
  | label l =>
    intro rnd a s q s' h ρ w act F n hF hw hf ha
    obtain ⟨rfl, rfl⟩ := M.pure_ok.1 h
    exact wpIn_label ⟨ρ, .normal, ha, hw, Stp.alike (Alike.refl _)⟩
  | goto l => exact fun rnd a s q s' h => ((M.fail_ok (s := s)).1 h).elim
  | refuse w => exact fun rnd a s q s' h => ((M.fail_ok (s := s)).1 h).elim
end
end Go.Proofs.YtceocfeckipihaaGreatDoor.Vm
namespace Go.Proofs.YtceocfeckipihaaGreatDoor.Vm
open Go
section
variable {P : Program} {E : Env} {ev : Ev} {rnd : Option Nat} {ρ ρ' ρ0 : Ren} {w w' w0 : World} {F : Fence} {n : Nat} {s s' s0 : St}
theorem slotA_nil (k : Nat) : slotA .nil k = undefA := rfl
theorem args0_slot : ∀ (l : List AV) (t : Tr AV) (j k : Nat), slotA (args0 t j l) k = if j ≤ k ∧ k < j + l.length then (l[k - j]?).getD undefA else slotA t k
  | [], t, j, k => by
    rw [if_neg (by rw [List.length_nil]; omega)]
    rfl
  | v :: r, t, j, k => by
    unfold args0
    rw [show Nat.succ j = j + 1 from rfl, args0_slot r _ (j + 1) k, slotA_put, List.length_cons]
    by_cases h1 : k = j
    · subst h1
      rw [if_neg (by omega), if_pos rfl, if_pos (by omega), Nat.sub_self]
      rfl
    · rw [if_neg h1]
      by_cases h2 : j + 1 ≤ k ∧ k < j + 1 + r.length
      · rw [if_pos h2, if_pos (by omega), show k - j = (k - (j + 1)) + 1 by omega, List.getElem?_cons_succ]
      · rw [if_neg h2, if_neg (by omega)]
theorem args_rel {args : List AV} {us : Array Value} {m : Nat} (h : LRel ρ args us.toList) (hle : args.length ≤ m) : TRel ρ (args0 .nil 0 args) m (us ++ Array.replicate (m - us.size) undef) := by
  have hl : us.size = args.length := by rw [← Array.length_toList, LRel.length _ h]
  refine ⟨by rw [Array.size_append, Array.size_replicate]; omega, fun k => ?_⟩
  rw [args0_slot, Array.getD_eq_getD_getElem?, Array.getElem?_append]
  by_cases hk : k < us.size
  · rw [if_pos (by omega), if_pos hk, Nat.sub_zero]
    obtain ⟨a, ha⟩ : ∃ a, args[k]? = some a := ⟨_, List.getElem?_eq_getElem (by omega)⟩
    obtain ⟨v, hv, hr⟩ := LRel.get h ha
    rw [Array.getElem?_toList] at hv
    rw [ha, hv]
    exact hr
  · rw [if_neg (by omega), if_neg hk, slotA_nil]
    have : ((Array.replicate (m - us.size) undef)[k - us.size]?).getD undef = undef := by
      rw [Array.getElem?_replicate]
      split <;> rfl
    rw [this]
    exact undef_rel
theorem loadM_run {i : TyI} {t : TypeId} {a v : AV} {u : Value} (hi : TyOK P t i) (h : loadM i a s = .ok v s') (ha : VRel ρ a u) (hw : WRel ρ s.h w) : Alike s s' ∧ ∃ ad r, u = .pointer (some ad) ∧ (loadVar t ad).run P w = .ok r w ∧ VRel ρ v r := by
  unfold loadM loadI at h
  obtain ⟨p, s1, h1, h2⟩ := M.bind_ok.1 h
  obtain ⟨hp, rfl⟩ := M.of_ok.1 h1
  obtain ⟨q, s2, h3, h4⟩ := M.bind_ok.1 h2
  obtain ⟨g1, _, ha2⟩ := rowM_ok h3
  obtain ⟨l, s3, h5, h6⟩ := M.bind_ok.1 h4
  obtain ⟨hl, rfl⟩ := M.of_ok.1 h5
  obtain ⟨x, hx, rfl⟩ := addrA_rel hp ha
  obtain ⟨ob, hb, hr⟩ := hw.row g1 hx
  obtain ⟨rfl, r, hr1, hr2⟩ := part_load hi hb hr hl h6
  exact ⟨ha2, _, r, rfl, hr1, hr2⟩
def resF (tmps : Array Value) : ResultVar → Sem Value
  | .tmp t => pure (tmps.getD t undef)
  | .cell a t => do loadVar t (← asAddr (tmps.getD a undef))
theorem results_eq (fn : Func) (tmps : Array Value) : results fn tmps = (do
    let vs ← fn.results.mapM (resF tmps)
    pure (if h : vs.size = 1 then vs[0] else .tuple vs)) := by
  unfold results
  congr 1
theorem resM_rel (hE : EnvOK E P) {T : Tr AV} {m : Nat} {tmps : Array Value} : ∀ {l : List ResultVar} {vs : List AV} {s s' : St}, resM E T l s = .ok vs s' → TRel ρ T m tmps → WRel ρ s.h w →
    Alike s s' ∧ ∃ us : List Value, (l.mapM (resF tmps)).run P w = .ok us w ∧ LRel ρ vs us
  | [], vs, s, s', h, _, _ => by
    obtain ⟨rfl, rfl⟩ := M.pure_ok.1 h
    exact ⟨Alike.refl _, [], rfl, LRel.nil_iff.2 rfl⟩
  | x :: r, vs, s, s', h, hT, hw => by
    unfold resM at h
    cases x with
    | tmp t =>
      obtain ⟨vs', s1, h1, h2⟩ := M.bind_ok.1 h
      obtain ⟨rfl, rfl⟩ := M.pure_ok.1 h2
      obtain ⟨g1, us, g2, g3⟩ := resM_rel hE h1 hT hw
      refine ⟨g1, tmps.getD t undef :: us, ?_, LRel.cons_iff.2 ⟨_, _, rfl, hT.2 t, g3⟩⟩
      rw [List.mapM_cons, Sem.run_bind, resF, Sem.run_pure, Result.andThen_ok, Sem.run_bind, g2, Result.andThen_ok, Sem.run_pure]
    | cell p t =>
      obtain ⟨i, hi, h1⟩ := withTy_ok.1 h
      obtain ⟨v, s1, h2, h3⟩ := M.bind_ok.1 h1
      obtain ⟨vs', s2, h4, h5⟩ := M.bind_ok.1 h3
      obtain ⟨rfl, rfl⟩ := M.pure_ok.1 h5
      obtain ⟨f1, ad, u, f2, f3, f4⟩ := loadM_run (hE.ty _ _ hi) h2 (hT.2 p) hw
      obtain ⟨g1, us, g2, g3⟩ := resM_rel hE h4 hT (hw.alike f1)
      refine ⟨f1.trans g1, u :: us, ?_, LRel.cons_iff.2 ⟨_, _, rfl, f4, g3⟩⟩
      rw [List.mapM_cons, Sem.run_bind]
      have e1 : (do loadVar t (← asAddr (tmps.getD p undef)) : Sem Value).run P w = .ok u w := by
        rw [f2]
        simp only [asAddr, Sem.run_bind, Sem.run_pure, Result.andThen_ok, f3]
      show Result.andThen ((do loadVar t (← asAddr (tmps.getD p undef)) : Sem Value).run P w) _ = _
      rw [e1, Result.andThen_ok, Sem.run_bind, g2, Result.andThen_ok, Sem.run_pure]
theorem results_rel (hE : EnvOK E P) {T : Tr AV} {m : Nat} {tmps : Array Value} {fn : Func} {vs : List AV} (h : resM E T fn.results.toList s = .ok vs s') (hT : TRel ρ T m tmps) (hw : WRel ρ s.h w) :
    Alike s s' ∧ ∃ u, (results fn tmps).run P w = .ok u w ∧ VRel ρ (tupOf vs) u := by
  obtain ⟨g1, us, g2, g3⟩ := resM_rel (P := P) hE h hT hw
  refine ⟨g1, (if h : us.toArray.size = 1 then us.toArray[0] else .tuple us.toArray), ?_, ?_⟩
  · rw [results_eq, Sem.run_bind, Array.mapM_eq_mapM_toList, Sem.run_map, g2]
    rfl
  · rcases vs with _ | ⟨v, _ | ⟨v2, r⟩⟩
    · rw [LRel.nil_iff.1 g3]
      exact ⟨#[], rfl, LRel.nil_iff.2 rfl⟩
    · obtain ⟨u, l, h1, h2, h3⟩ := LRel.cons_iff.1 g3
      rw [LRel.nil_iff.1 h3] at h1
      subst h1
      exact h2
    · have hl := LRel.length _ g3
      rw [dif_neg (by simp only [List.size_toArray]; rw [hl]; simp)]
      exact ⟨us.toArray, rfl, by simpa using g3⟩
theorem leave_ok (hE : EnvAll E P) (hev : EvOK P ev) (hl : LocEv ev) {fn : Func} {tmps : Array Value} {R : Ending → World → Prop} : ∀ (ds : List ADef) (defers : List Deferred) (s : St) (ρ : Ren) (w : World), leaveM E ev ds s = .ok () s' → DRel ρ ds defers → WRel ρ s.h w → FreshN ρ s.c s'.c →
    Stp s0 s ρ0 ρ w0 w → s0.c ≤ s.c → (∀ ρ' w', ρ.le ρ' → WRel ρ' s'.h w' → Stp s0 s' ρ0 ρ' w0 w' → ∃ v, (results fn tmps).run P w' = .ok v w' ∧ R (.returned v) w') → LeavesInM Fence.wide n P fn tmps R defers .returning w
  | [], defers, s, ρ, w, h, hd, hw, hf, hst, hc, hR => by
    obtain ⟨_, rfl⟩ := M.pure_ok.1 h
    rw [show defers = [] from hd]
    exact hR ρ w (Ren.le_refl _) hw hst
  | d :: ds, defers, s, ρ, w, h, hd, hw, hf, hst, hc, hR => by
    obtain ⟨q, defers', rfl, hq, hds⟩ := hd
    unfold leaveM at h
    refine ⟨by simp, ?_⟩
    cases d with
    | mark r =>
      obtain ⟨p, hp, rfl⟩ := hq
      simp only at h
      obtain ⟨x, s1, h1, h2⟩ := M.bind_ok.1 h
      unfold defsM at h1
      obtain ⟨o, s2, h3, h4⟩ := M.bind_ok.1 h1
      obtain ⟨g1, g2⟩ := getM_alike h3
      obtain ⟨od, s3, h5, h6⟩ := M.bind_ok.1 h4
      obtain ⟨ho, rfl⟩ := M.of_ok.1 h5
      obtain ⟨hx, rfl⟩ := M.of_ok.1 h6
      cases x with
      | cons _ _ => exact ((M.fail_ok (s := s1)).1 h2).elim
      | nil =>
        obtain ⟨_, s4, h7, h8⟩ := M.bind_ok.1 h2
        have ho' : o = .defs (some []) := by
          cases o <;> simp only [defsO, Option.some.injEq, reduceCtorEq] at ho
          rw [ho, hx]
        subst ho'
        obtain ⟨p', ob, e1, e2, dd, rfl, e4⟩ := hw.at_ r _ g1
        rw [hp] at e1
        injection e1 with e1
        subst e1
        obtain ⟨l0, rfl, e5⟩ := e4
        obtain rfl : l0 = [] := e5
        obtain ⟨_, hs'⟩ := setM_ok.1 h7
        have hc4 : s4.c = s1.c := by rw [hs']; rfl
        have hc3 : s1.c = s.c := g2.2
        have hlt := (Array.getElem?_eq_some_iff.1 e2).1
        have hon : Only p.1 w { w with heap := w.heap.setIfInBounds p.1 (.deferred none) } := ⟨rfl, rfl, rfl, by simp, fun q hq => by simp [Ne.symm hq]⟩
        have hset := set_rel (s := s1) (s' := s4) (o := .defs none) (hw.alike g2) (by rw [g2.1, g1]; rfl) hp (by rw [hs']; rfl) hon (ob := .deferred none) (by simp [hlt]) ⟨none, rfl, rfl⟩
        refine .inl ⟨p.1, _, rfl, ?_, leave_ok hE hev hl ds defers' s4 ρ _ h8 hds hset.1 (hf.sub (by omega) (Nat.le_refl _)) (Stp.trans hst (g2.stp hset.2) hc (by omega)) (by omega) hR⟩
        simp [Instr.takeDeferred, getObj, setObj, Sem.run, e2]
    | fn g args cap =>
      obtain ⟨c, az, rfl, ha, hcap⟩ := hq
      simp only at h
      cases hcm : isCalm g E.calm with
      | true =>
        rw [bif_true _ _ hcm] at h
        obtain ⟨en, hcalm⟩ := hE.calm g hcm
        refine .inr ⟨fun e => (by cases e), .func g, c, g, az ++ c, rfl, en _ _, fun _ _ => trivial, CallsDIn.mono (hcalm (az ++ c) w _) ?_⟩
        rintro e u' w2 ⟨⟨v, rfl⟩, rfl, q1, q2, q3, q4⟩
        refine leave_ok hE hev hl ds defers' s ρ w2 h hds (hw.heap q1) hf ?_ hc hR
        exact ⟨hst.ext, hst.le, q2.trans hst.os, q3.trans hst.tape, q4.trans hst.output, by rw [q1]; exact hst.size, fun q h1 h2 => by rw [q1]; exact hst.block q h1 h2, hst.own⟩
      | false =>
        rw [bif_false _ _ hcm] at h
        obtain ⟨v, s1, h1, h2⟩ := M.bind_ok.1 h
        have c1 := (hl.callD _ _).le h1
        have c2 := (Loc.leaveM hl ds).le h2
        obtain ⟨en, hcd⟩ := hev.callD _ _ _ _ _ h1
        refine .inr ⟨fun e => (by cases e), .func g, c, g, az ++ c, rfl, en _ _, fun _ _ => trivial, CallsDIn.mono (hcd ρ w (az ++ c) _ hw (hf.sub (Nat.le_refl _) c2) (by rw [Array.toList_append]; exact LRel.append ha hcap)) ?_⟩
        rintro e u' w2 ⟨rfl, ρ2, u, rfl, hv, hw2, hs2⟩
        exact leave_ok hE hev hl ds defers' s1 ρ2 w2 h2 (hds.mono hs2.le) hw2 (hf.step hs2 c1) (Stp.trans hst hs2 hc c1) (Nat.le_trans hc c1) (fun ρ' w' hle => hR ρ' w' (Ren.le_trans hs2.le hle))
end
end Go.Proofs.YtceocfeckipihaaGreatDoor.Vm
namespace Go.Proofs.YtceocfeckipihaaGreatDoor.Vm
open Go Go.RowKit
section
variable {P : Program} {E : Env} {ev : Ev} {ρ ρ' ρ0 : Ren} {w w' w0 : World} {n : Nat} {s s' s0 : St}
theorem bodyC_ok {fn : Func} {c : CodeC} {args : List AV} {q : Tr AV × List ADef} (h : bodyC fn c ev args s = .ok q s') : args.length ≤ fn.ntmps ∧ ∃ e m, isExit e = false ∧ c ev none (.mk (args0 .nil 0 args) fn.ntmps []) s = .ok (e, .mk q.1 m q.2) s' := by
  unfold bodyC at h
  cases hb : Nat.ble args.length fn.ntmps with
  | false => rw [bif_false _ _ hb] at h; exact (M.fail_ok.1 h).elim
  | true =>
    rw [bif_true _ _ hb] at h
    obtain ⟨⟨e, a⟩, s1, h1, h2⟩ := M.bind_ok.1 h
    simp only at h2
    cases he : isExit e with
    | true => rw [bif_true _ _ he] at h2; exact (M.fail_ok.1 h2).elim
    | false =>
      rw [bif_false _ _ he] at h2
      obtain ⟨T, m, ds⟩ := a
      obtain ⟨rfl, rfl⟩ := M.pure_ok.1 h2
      exact ⟨ble_true.1 hb, e, m, he, h1⟩
theorem ent_ok (hE : EnvAll E P) (hev : EvOK P ev) (hl : LocEv ev) {f : FuncId} {fn : Func} {c : Code} {args : List AV} {v : AV} (hf : P.funcs[f]? = some fn) (hb : fn.body = some c) (h : entC E fn (codeC E c) ev args s = .ok v s') : CallOK P f args s v s' := by
  intro ρ w us n hw hfr hu
  obtain ⟨q, s1, h1, h2⟩ := M.bind_ok.1 h
  obtain ⟨_, s2, h3, h4⟩ := M.bind_ok.1 h2
  obtain ⟨vs, s3, h5, h6⟩ := M.bind_ok.1 h4
  obtain ⟨rfl, rfl⟩ := M.pure_ok.1 h6
  obtain ⟨hle, e, m, he, hc⟩ := bodyC_ok h1
  have c1 := (Loc.codeC hl c none _).le hc
  have c2 := (Loc.leaveM hl _).le h3
  have c3 := (Loc.resM E _ _).le h5
  refine callsIn_of_wp_marks hf hb trivial (wpIn_mono (code_ok hE hev hl c none _ s _ s1 hc ρ w _ Fence.wide n rfl hw (hfr.sub (Nat.le_refl _) (by omega)) ⟨args_rel hu hle, rfl⟩) ?_)
  rintro x act w1 ⟨ρ1, g1, g2, g3, g4⟩
  have hleave : LeavesInM Fence.wide n P fn act.tmps (Ret s s' ρ w (tupOf vs)) act.defers .returning w1 := by
    refine leave_ok (s0 := s) (ρ0 := ρ) (w0 := w) hE hev hl q.2 act.defers s1 ρ1 w1 h3 g2.d g3 ((hfr.step g4 c1).sub (Nat.le_refl _) (by omega)) g4 c1 (fun ρ' w' hle' hw' hst' => ?_)
    obtain ⟨al, u, e1, e2⟩ := results_rel (P := P) hE.toEnvOK h5 (g2.t.mono hle') hw'
    exact ⟨u, e1, ρ', u, rfl, e2, hw'.alike al, hst'.thenAlike al⟩
  cases g1 with
  | normal => exact hleave
  | ret => exact hleave
  | exit i => cases he
theorem entD_ok (hE : EnvAll E P) (hev : EvOK P ev) (hl : LocEv ev) {f : FuncId} {fn : Func} {c : Code} {args : List AV} {v : AV} (hf : P.funcs[f]? = some fn) (hb : fn.body = some c) (h : entD E fn (codeC E c) ev args s = .ok v s') : CallDOK P f args s v s' := by
  intro ρ w us n hw hfr hu
  obtain ⟨⟨T, ds⟩, s1, h1, h2⟩ := M.bind_ok.1 h
  cases ds with
  | cons _ _ => exact ((M.fail_ok (s := s1)).1 h2).elim
  | nil =>
    obtain ⟨vs, s3, h5, h6⟩ := M.bind_ok.1 h2
    obtain ⟨rfl, rfl⟩ := M.pure_ok.1 h6
    obtain ⟨hle, e, m, he, hc⟩ := bodyC_ok h1
    have c1 := (Loc.codeC hl c none _).le hc
    have c3 := (Loc.resM E _ _).le h5
    refine callsDIn_of_wp hf hb trivial (wpIn_mono (code_ok hE hev hl c none _ s _ s1 hc ρ w _ Fence.wide n rfl hw (hfr.sub (Nat.le_refl _) (by omega)) ⟨args_rel hu hle, rfl⟩) ?_)
    rintro x act w1 ⟨ρ1, g1, g2, g3, g4⟩
    have hend : act.defers = [] ∧ ∃ v, (results fn act.tmps).run P w1 = .ok v w1 ∧ Ret s s' ρ w (tupOf vs) (.returned v) w1 := by
      obtain ⟨al, u, e1, e2⟩ := results_rel (P := P) hE.toEnvOK h5 g2.t g3
      exact ⟨g2.d, u, e1, ρ1, u, rfl, e2, g3.alike al, g4.thenAlike al⟩
    cases g1 with
    | normal => exact hend
    | ret => exact hend
    | exit i => cases he
theorem evN_ok (hE : EnvAll E P) : ∀ m, EvOK P (evN E m)
  | 0 => ⟨fun f args s v s' h => ((M.fail_ok (s := s)).1 h).elim, fun f args s v s' h => ((M.fail_ok (s := s)).1 h).elim, fun rnd c a s q s' h => ((M.fail_ok (s := s)).1 h).elim⟩
  | m + 1 => by
    have hev := evN_ok hE m
    have hl := locEv hE.orcLoc m
    refine ⟨fun f args s v s' h => ?_, fun f args s v s' h => ?_, fun rnd c a s q s' h => code_ok hE hev hl c rnd a s q s' h⟩
    · have h' : fnC E f (evN E m) args s = .ok v s' := h
      unfold fnC at h'
      cases ho : E.orc.get f with
      | some o =>
        rw [ho] at h'
        obtain ⟨g1, g2⟩ := hE.orc f o ho
        exact ⟨g1, g2 args s v s' h'⟩
      | none =>
        rw [ho] at h'
        cases hfn : E.fn.get f with
        | none => rw [hfn] at h'; exact ((M.fail_ok (s := s)).1 h').elim
        | some fn =>
          rw [hfn] at h'
          simp only at h'
          obtain ⟨g1, g2⟩ := hE.fn f fn hfn
          cases hb : fn.body with
          | none => rw [hb] at h'; exact ((M.fail_ok (s := s)).1 h').elim
          | some c =>
            rw [hb] at h'
            exact ⟨g2, ent_ok hE hev hl g1 hb h'⟩
    · have h' : fnD E f (evN E m) args s = .ok v s' := h
      unfold fnD at h'
      cases hfn : E.fn.get f with
      | none => rw [hfn] at h'; exact ((M.fail_ok (s := s)).1 h').elim
      | some fn =>
        rw [hfn] at h'
        simp only at h'
        obtain ⟨g1, g2⟩ := hE.fn f fn hfn
        cases hb : fn.body with
        | none => rw [hb] at h'; exact ((M.fail_ok (s := s)).1 h').elim
        | some c =>
          rw [hb] at h'
          exact ⟨g2, entD_ok hE hev hl g1 hb h'⟩
def noRen : Ren := fun _ => none
theorem reckoned (hE : EnvAll E P) {m : Nat} {f : FuncId} {args : List AV} {v : AV} (h : (evN E m).call f args (.mk .nil 0 [] []) = .ok v s') {us : Array Value} (hu : LRel noRen args us.toList) (w : World) :
    Calls P f us w (fun e w' => ∃ ρ u, e = .returned u ∧ VRel ρ v u ∧ WRel ρ s'.h w' ∧ Below w.heap.size w w') := by
  have hc := ((evN_ok hE m).call _ _ _ _ _ h).2 noRen w us 0 ⟨fun n o ho => (by cases ho), fun n m p q hn => (by cases hn)⟩ (fun _ _ _ => rfl) hu
  refine Calls.mono (callsIn_wide.1 hc) ?_
  rintro e w' ⟨ρ, u, rfl, h1, h2, h3⟩
  refine ⟨ρ, u, rfl, h1, h2, ⟨h3.os, h3.tape, h3.output, h3.size, fun q hq => h3.block q hq ?_⟩⟩
  rintro ⟨n, p, hn, _⟩
  cases hn
end
end Go.Proofs.YtceocfeckipihaaGreatDoor.Vm
namespace Go.Proofs.YtceocfeckipihaaGreatDoor.Vm
open Go
mutual
noncomputable def conV : AV → Value
  | .int k n => .int k n
  | .bool b => .bool b
  | .str s => .string s
  | .nilp => .pointer none
  | .nilslice => .slice none 0 0
  | .nilmap => .map none
  | .nilfunc => .nilFunc
  | .niliface => .nilIface
  | .agg cs => .agg (conC cs).toArray
  | _ => .tuple #[]
noncomputable def conC : List AV → List Value
  | [] => []
  | a :: r => (match isB a with | some p => bytesV p.1 p.2 | none => [conV a]) ++ conC r
end
mutual
def okV : AV → Bool
  | .int _ _ => true
  | .bool _ => true
  | .str _ => true
  | .nilp => true
  | .nilslice => true
  | .nilmap => true
  | .nilfunc => true
  | .niliface => true
  | .agg cs => okC cs
  | _ => false
def okC : List AV → Bool
  | [] => true
  | a :: r => (match isB a with | some p => Nat.blt p.2 (Nat.pow 2 (Nat.mul 8 p.1)) | none => isOne a && okV a) && okC r
end
mutual
theorem conV_rel (ρ : Ren) : ∀ (a : AV), okV a = true → VRel ρ a (conV a)
  | .int _ _, _ => by simp [VRel, conV]
  | .bool _, _ => by simp [VRel, conV]
  | .str _, _ => by simp [VRel, conV]
  | .nilp, _ => by simp [VRel, conV]
  | .nilslice, _ => by simp [VRel, conV]
  | .nilmap, _ => by simp [VRel, conV]
  | .nilfunc, _ => by simp [VRel, conV]
  | .niliface, _ => by simp [VRel, conV]
  | .agg cs, h => by
    rw [okV] at h
    rw [VRel, conV]
    exact ⟨_, rfl, by simpa using conC_rel ρ cs h⟩
  | .ptr _ _, h => by simp [okV] at h
  | .slice _ _ _ _ _, h => by simp [okV] at h
  | .empty, h => by simp [okV] at h
  | .map _, h => by simp [okV] at h
  | .func _ _ _, h => by simp [okV] at h
  | .yield _, h => by simp [okV] at h
  | .iface _ _, h => by simp [okV] at h
  | .tuple _, h => by simp [okV] at h
  | .bytes _ _, h => by simp [okV] at h
  | .any, h => by simp [okV] at h
theorem conC_rel (ρ : Ren) : ∀ (l : List AV), okC l = true → CRel ρ l (conC l)
  | [], _ => by simp [CRel, conC]
  | a :: r, h => by
    rw [okC, Bool.and_eq_true] at h
    refine CRel.cons_iff.2 ⟨_, conC r, by rw [conC], ?_, conC_rel ρ r h.2⟩
    have h1 := h.1
    cases hb : isB a with
    | some p =>
      rw [hb] at h1
      exact ⟨rfl, blt_true.1 h1⟩
    | none =>
      rw [hb] at h1
      simp only [Bool.and_eq_true] at h1
      exact ⟨h1.1, _, rfl, conV_rel ρ a h1.2⟩
end
section
variable {P : Program} {E : Env}
theorem tyOK_of {t : TypeId} {i : TyI} {inf : TypeInfo} {d : TypeDesc} (h1 : P.info? t = some inf) (h2 : P.underlying t = some d) (hs : inf.size = i.size) (hb : inf.bytes = i.bytes) (hz : inf.zero = some (conV i.zero)) (hzc : (conV i.zero).cells.toList = conC i.zc)
    (ho : (okV i.zero && okC i.zc) = true) (hd : DescR P i.desc d) (ha : i.agg = d.isRow) (hf : i.flat = true → FlatOK P t (isArrD i.desc) i.size i.zc) (hn : (conV i.zero).cells.size = i.size) : TyOK P t i := by
  rw [Bool.and_eq_true] at ho
  exact ⟨inf, d, conV i.zero, h1, h2, hs, hb, hz, fun ρ => conV_rel ρ _ ho.1, fun ρ => by rw [hzc]; exact conC_rel ρ _ ho.2, hd, ha, hf, hn⟩
def AllT {α : Type} (Q : Nat → α → Prop) : Tr α → Nat → Nat → Prop
  | .nil, _, _ => True
  | .node l v r, a, b => AllT Q l (a + b) (2 * b) ∧ (match v with | some x => Q a x | none => True) ∧ AllT Q r (a + 2 * b) (2 * b)
theorem allT_get {α : Type} {Q : Nat → α → Prop} {x : α} : ∀ (t : Tr α) (a b n : Nat), AllT Q t a b → t.get n = some x → Q (a + b * n) x
  | .nil, _, _, _, _, h => by cases h
  | .node l v r, a, b, n, ⟨h1, h2, h3⟩, h => by
    rw [Tr.get_node] at h
    by_cases h0 : n = 0
    · rw [if_pos h0] at h
      subst h0
      rw [h] at h2
      exact h2
    · rw [if_neg h0] at h
      by_cases h4 : n % 2 = 1
      · rw [if_pos h4] at h
        have := allT_get l _ _ _ h1 h
        have e : a + b + 2 * b * (n / 2) = a + b * n := by
          have : n = 2 * (n / 2) + 1 := by omega
          conv => rhs; rw [this]
          rw [Nat.mul_add, Nat.mul_one, ← Nat.mul_assoc, Nat.mul_comm b 2]
          omega
        rwa [e] at this
      · rw [if_neg h4] at h
        have := allT_get r _ _ _ h3 h
        have e : a + 2 * b + 2 * b * (n / 2 - 1) = a + b * n := by
          have : n = 2 * (n / 2 - 1) + 2 := by omega
          conv => rhs; rw [this]
          rw [Nat.mul_add, ← Nat.mul_assoc, Nat.mul_comm b 2]
          omega
        rwa [e] at this
theorem envOK_of (hT : AllT (TyOK P) E.ty 0 1) (hF : AllT (fun f fn => P.funcs[f]? = some fn ∧ ∀ (args : Array Value) (w : World), (callFunc f args).run P w = .ok (.enter f args) w) E.fn 0 1) (hm : P.follows .mixedOrders = true) : EnvOK E P :=
  ⟨fun t i h => by have := allT_get E.ty 0 1 t hT h; rwa [Nat.one_mul, Nat.zero_add] at this, fun f fn h => by have := allT_get E.fn 0 1 f hF h; rwa [Nat.one_mul, Nat.zero_add] at this, hm⟩
theorem findMeth_mem : ∀ {l : List (TypeId × String × FuncId)} {t : TypeId} {m : String} {g : FuncId}, findMeth l t m = some g → (t, m, g) ∈ l
  | [], _, _, _, h => by cases h
  | x :: r, t, m, g, h => by
    unfold findMeth at h
    cases hb : (Nat.beq x.1 t && x.2.1 == m) with
    | true =>
      rw [bif_true _ _ hb] at h
      rw [Bool.and_eq_true] at hb
      simp only [Option.some.injEq] at h
      have e1 := beq_true.1 hb.1
      have e2 := eq_of_beq hb.2
      obtain ⟨x1, x2, x3⟩ := x
      simp only at e1 e2 h
      rw [e1, e2, h]
      exact List.mem_cons_self
    | false =>
      rw [bif_false _ _ hb] at h
      exact List.mem_cons_of_mem _ (findMeth_mem h)
end
end Go.Proofs.YtceocfeckipihaaGreatDoor.Vm
namespace Go.Proofs.YtceocfeckipihaaGreatDoor.Vm
open Go
theorem shape_len {arr : Bool} {n : Nat} {zc a : List AV} (h : shapeB arr n zc a = true) : lenC a = n := by
  unfold shapeB at h
  rw [Bool.and_eq_true] at h
  exact beq_true.1 h.1
theorem shape_eq {arr : Bool} {n : Nat} {zc a : List AV} (h : shapeB arr n zc a = true) : ∃ c, eqFlat arr a zc = some c := by
  unfold shapeB at h
  rw [Bool.and_eq_true] at h
  cases he : eqFlat arr a zc with
  | some c => exact ⟨c, rfl⟩
  | none => rw [he] at h; cases h.2
theorem unpack_inj : ∀ {l n m : Nat}, n < 2 ^ (8 * l) → m < 2 ^ (8 * l) → unpack l n = unpack l m → n = m
  | 0, n, m, h1, h2, _ => by
    have : 2 ^ (8 * 0) = 1 := rfl
    omega
  | l + 1, n, m, h1, h2, h => by
    unfold unpack at h
    injection h with e1 e2
    have hp : 2 ^ (8 * (l + 1)) = 256 * 2 ^ (8 * l) := by rw [show 8 * (l + 1) = 8 * l + 8 by omega, Nat.pow_add, Nat.mul_comm]
    rw [hp] at h1 h2
    have e3 : n % 256 = m % 256 := by
      have := congrArg UInt8.toNat e1
      rw [UInt8.toNat_ofNat', UInt8.toNat_ofNat'] at this
      have h3 : Nat.mod n 256 = n % 256 := rfl
      have h4 : Nat.mod m 256 = m % 256 := rfl
      rw [h3, h4] at this
      omega
    have e4 : n / 256 = m / 256 := unpack_inj (l := l) (by omega) (by omega) e2
    omega
section
variable {ρ : Ren} {P : Program}
theorem unpack_beq {l n m : Nat} (h1 : n < 2 ^ (8 * l)) (h2 : m < 2 ^ (8 * l)) : (unpack l n == unpack l m) = Nat.beq n m := by
  rw [Bool.eq_iff_iff, beq_iff_eq, beq_true]
  exact ⟨unpack_inj h1 h2, fun e => by rw [e]⟩
theorem append_beq {xs ys us vs : List UInt8} (h : xs.length = ys.length) : (xs ++ us == ys ++ vs) = ((xs == ys) && (us == vs)) := by
  rw [Bool.eq_iff_iff, Bool.and_eq_true, beq_iff_eq, beq_iff_eq, beq_iff_eq]
  exact ⟨fun e => List.append_inj e h, fun e => by rw [e.1, e.2]⟩
theorem eqLB_rel : ∀ {a b : List AV} {us vs : List Value} {r : Bool}, eqLB a b = some r → CRel ρ a us → CRel ρ b vs → ∃ xs ys : List UInt8, us = xs.map byteV ∧ vs = ys.map byteV ∧ xs.length = ys.length ∧ r = (xs == ys)
  | [], [], us, vs, r, h, hu, hv => by
    simp only [eqLB, Option.some.injEq] at h
    subst h
    exact ⟨[], [], CRel.nil_iff.1 hu, CRel.nil_iff.1 hv, rfl, rfl⟩
  | [], _ :: _, _, _, _, h, _, _ => by cases h
  | _ :: _, [], _, _, _, h, _, _ => by cases h
  | a :: x, b :: y, us, vs, r, h, hu, hv => by
    obtain ⟨u1, u2, rfl, h1, h2⟩ := CRel.cons_iff.1 hu
    obtain ⟨v1, v2, rfl, h3, h4⟩ := CRel.cons_iff.1 hv
    unfold eqLB at h
    cases ha : isB a with
    | none => rw [ha] at h; cases h
    | some p =>
      cases hb : isB b with
      | none => rw [ha, hb] at h; cases h
      | some q =>
        rw [ha, hb] at h
        rw [ha] at h1
        rw [hb] at h3
        simp only at h
        cases hpq : Nat.beq p.1 q.1 with
        | false => rw [bif_false _ _ hpq] at h; cases h
        | true =>
          rw [bif_true _ _ hpq] at h
          cases hr : eqLB x y with
          | none => rw [hr] at h; cases h
          | some c =>
            rw [hr] at h
            simp only [Option.some.injEq] at h
            subst h
            obtain ⟨xs, ys, rfl, rfl, e1, rfl⟩ := eqLB_rel hr h2 h4
            obtain ⟨rfl, g1⟩ := h1
            obtain ⟨rfl, g2⟩ := h3
            have e2 := beq_true.1 hpq
            refine ⟨unpack p.1 p.2 ++ xs, unpack q.1 q.2 ++ ys, by rw [List.map_append]; rfl, by rw [List.map_append]; rfl, by rw [List.length_append, List.length_append, unpack_length, unpack_length, e1, e2], ?_⟩
            rw [append_beq (by rw [unpack_length, unpack_length, e2]), e2, unpack_beq (by rw [← e2]; exact g1) g2]
end
end Go.Proofs.YtceocfeckipihaaGreatDoor.Vm
namespace Go.Proofs.YtceocfeckipihaaGreatDoor.Vm
open Go Go.RowKit
theorem flat_bytes {t : TypeId} {n : Nat} {zc : List AV} (ht : Tryz.prog.underlying t = some (.array n 5)) (hg : Tryz.prog.eqGuardType Tryz.prog.depth t = false) : FlatOK Tryz.prog t true n zc := by
  refine ⟨hg, fun ρ a b xs ys r w hl h hx hy => ?_⟩
  have hl := shape_len hl
  obtain ⟨us, vs, e1, e2, e3, rfl⟩ := eqLB_rel h hx hy
  have hn : us.length = n := by
    have := CRel.length _ hx
    rw [e1, List.length_map, hl] at this
    exact this
  obtain rfl : xs = (us.map byteV).toArray := Array.ext' e1
  obtain rfl : ys = (vs.map byteV).toArray := Array.ext' e2
  exact ⟨run_eqB t n 9998 ht us vs hn (by omega) w, fun h => (by cases h)⟩
end Go.Proofs.YtceocfeckipihaaGreatDoor.Vm
namespace Go.Proofs.YtceocfeckipihaaGreatDoor.Vm
open Go Go.RowKit
def ScT (P : Program) (o : Nat) : List Field → List AV → Prop
  | [], [] => True
  | f :: fs, z :: zs => f.offset = o ∧ f.name ≠ "_" ∧ ((∃ k n, z = .int k n ∧ P.underlying f.type = some (.int k)) ∨ ∃ s, z = .str s ∧ P.underlying f.type = some .string) ∧ ScT P (o + 1) fs zs
  | _, _ => False
theorem eqLI_cons {a b : AV} {x y : List AV} {r : Bool} (h : eqLI (a :: x) (b :: y) = some r) : ∃ c q, eqSc a b = some c ∧ eqLI x y = some q ∧ r = (c && q) := by
  unfold eqLI at h
  cases hs : eqSc a b with
  | none => rw [hs] at h; cases h
  | some c =>
    rw [hs] at h
    simp only at h
    cases hr : eqLI x y with
    | none => rw [hr] at h; cases h
    | some q =>
      rw [hr] at h
      injection h with h
      exact ⟨c, q, rfl, rfl, h.symm⟩
section
variable {P : Program} {ρ : Ren}
theorem sc_field {f : Field} {z a b : AV} {u v : Value} {c c2 : Bool} (ht : (∃ k n, z = .int k n ∧ P.underlying f.type = some (.int k)) ∨ ∃ s, z = .str s ∧ P.underlying f.type = some .string) (hz : eqSc a z = some c2) (h : eqSc a b = some c) (hu : VRel ρ a u) (hv : VRel ρ b v) (d : Nat) (w : World) :
    P.plainKey f.type = true ∧ (Op.equalIn (d + 1) f.type u v).run P w = .ok c w ∧ ∀ e, (Instr.checkKey e (d + 1) f.type u).run P w = .ok () w := by
  obtain ⟨x, rfl, rfl, rfl⟩ := eqSc_rel h hu hv
  rcases ht with ⟨k, n, rfl, ht⟩ | ⟨s, rfl, ht⟩
  · have hx : ∃ k' p q, x = .i k' p q := by
      cases x with
      | i k' p q => exact ⟨k', p, q, rfl⟩
      | s p q =>
        exfalso
        cases a <;> simp only [eqSc, intA, strA, reduceCtorEq] at hz <;> cases hu
    obtain ⟨k', p, q, rfl⟩ := hx
    refine ⟨by unfold Program.plainKey; rw [ht], run_equalIn_int w d f.type k' k p q ht, fun e => ?_⟩
    unfold Instr.checkKey
    simp [run_underlying ht, Sc.lv]
  · have hx : ∃ p q, x = .s p q := by
      cases x with
      | s p q => exact ⟨p, q, rfl⟩
      | i k' p q =>
        exfalso
        cases a <;> simp only [eqSc, intA, strA, reduceCtorEq] at hz <;> cases hu
    obtain ⟨p, q, rfl⟩ := hx
    refine ⟨by unfold Program.plainKey; rw [ht], ?_, fun e => ?_⟩
    · have := run_equalIn_string (P := P) w d f.type p q ht
      rw [← beq_toListBytes] at this
      exact this
    · unfold Instr.checkKey
      simp [run_underlying ht, Sc.lv]
theorem eqF_ok (d : Nat) (xs ys : Array Value) (w : World) : ∀ (fs : List Field) (zs a b : List AV) (us vs : List Value) (o : Nat) (r c : Bool), ScT P o fs zs → eqLI a zs = some c → eqLI a b = some r → CRel ρ a us → CRel ρ b vs →
    (∀ (i : Nat) u, us[i]? = some u → xs[o + i]? = some u) → (∀ (i : Nat) u, vs[i]? = some u → ys[o + i]? = some u) → (Op.eqFields (d + 1) xs ys fs).run P w = .ok r w
  | [], [], a, b, us, vs, o, r, c, _, hz, h, _, _, _, _ => by
    cases a with
    | cons _ _ => cases hz
    | nil =>
      cases b with
      | cons _ _ => cases h
      | nil =>
        simp only [eqLI, Option.some.injEq] at h
        subst h
        rfl
  | [], _ :: _, _, _, _, _, _, _, _, h, _, _, _, _, _, _ => h.elim
  | _ :: _, [], _, _, _, _, _, _, _, h, _, _, _, _, _, _ => h.elim
  | f :: fs, z :: zs, [], b, us, vs, o, r, c, _, hz, _, _, _, _, _ => by cases hz
  | f :: fs, z :: zs, a :: x, [], us, vs, o, r, c, _, _, h, _, _, _, _ => by cases h
  | f :: fs, z :: zs, a :: x, b :: y, us, vs, o, r, c, ⟨t1, t2, t3, t4⟩, hz, h, hu, hv, hxs, hys => by
    obtain ⟨c1, c2, g1, g2, rfl⟩ := eqLI_cons h
    obtain ⟨c3, c4, g3, g4, rfl⟩ := eqLI_cons hz
    obtain ⟨b1, b2⟩ := eqSc_one g1
    obtain ⟨u, us', rfl, _, hu1, hu2⟩ := (CRel.one_iff b1).1 hu
    obtain ⟨v, vs', rfl, _, hv1, hv2⟩ := (CRel.one_iff b2).1 hv
    obtain ⟨k1, k2, _⟩ := sc_field t3 g3 g1 hu1 hv1 d w
    have p1 := run_part_plain (P := P) w k1 (show xs[f.offset]? = some u by rw [t1]; exact hxs 0 u rfl)
    have p2 := run_part_plain (P := P) w k1 (show ys[f.offset]? = some v by rw [t1]; exact hys 0 v rfl)
    have ih := eqF_ok d xs ys w fs zs x y us' vs' (o + 1) c2 c4 t4 g4 g2 hu2 hv2 (fun i u h => by rw [Nat.add_assoc, Nat.add_comm 1 i]; exact hxs (i + 1) u h) (fun i u h => by rw [Nat.add_assoc, Nat.add_comm 1 i]; exact hys (i + 1) u h)
    unfold Op.eqFields
    rw [if_pos t2]
    simp only [Sem.run_bind, p1, p2, k2, Result.andThen_ok]
    cases c1 with
    | false => simp
    | true =>
      simp only [Bool.not_true, Bool.false_eq_true, if_false, Bool.true_and]
      exact ih
theorem chkF_ok (d : Nat) (e : Bool) (xs : Array Value) (w : World) : ∀ (fs : List Field) (zs a : List AV) (us : List Value) (o : Nat) (r c : Bool), ScT P o fs zs → eqLI a zs = some c → eqLI a a = some r → CRel ρ a us →
    (∀ (i : Nat) u, us[i]? = some u → xs[o + i]? = some u) → (forIn fs PUnit.unit (fun f _ => do
      if f.name ≠ "_" then
        let v ← part f.type xs f.offset
        Instr.checkKey e (d + 1) f.type v
        pure (ForInStep.yield PUnit.unit)
      else pure (ForInStep.yield PUnit.unit)) : Sem PUnit).run P w = .ok PUnit.unit w
  | [], [], a, us, o, r, c, _, hz, h, _, _ => by simp
  | [], _ :: _, _, _, _, _, _, h, _, _, _, _ => h.elim
  | _ :: _, [], _, _, _, _, _, h, _, _, _, _ => h.elim
  | f :: fs, z :: zs, [], us, o, r, c, _, hz, _, _, _ => by cases hz
  | f :: fs, z :: zs, a :: x, us, o, r, c, ⟨t1, t2, t3, t4⟩, hz, h, hu, hxs => by
    obtain ⟨c1, c2, g1, g2, rfl⟩ := eqLI_cons h
    obtain ⟨c3, c4, g3, g4, rfl⟩ := eqLI_cons hz
    obtain ⟨b1, b2⟩ := eqSc_one g1
    obtain ⟨u, us', rfl, _, hu1, hu2⟩ := (CRel.one_iff b1).1 hu
    obtain ⟨k1, _, k3⟩ := sc_field t3 g3 g1 hu1 hu1 d w
    have p1 := run_part_plain (P := P) w k1 (show xs[f.offset]? = some u by rw [t1]; exact hxs 0 u rfl)
    have ih := chkF_ok d e xs w fs zs x us' (o + 1) c2 c4 t4 g4 g2 hu2 (fun i u h => by rw [Nat.add_assoc, Nat.add_comm 1 i]; exact hxs (i + 1) u h)
    rw [List.forIn_cons]
    simp only [ne_eq, t2, not_false_eq_true, if_true, Sem.run_bind, p1, k3 e, Result.andThen_ok, Sem.run_pure]
    exact ih
theorem eqLI_self {a b : List AV} {r : Bool} (h : eqLI a b = some r) : ∃ q, eqLI a a = some q := by
  induction a generalizing b r with
  | nil => exact ⟨true, rfl⟩
  | cons x a ih =>
    cases b with
    | nil => cases h
    | cons y b =>
      obtain ⟨c1, c2, g1, g2, _⟩ := eqLI_cons h
      obtain ⟨q, hq⟩ := ih g2
      have : ∃ q1, eqSc x x = some q1 := by
        unfold eqSc at g1 ⊢
        split at g1
        · rename_i p q ha hb
          rw [ha]
          exact ⟨_, if_pos rfl⟩
        · rename_i hni
          split at g1
          · rename_i p q ha hb
            cases hi : intA x with
            | some p' => cases x <;> first | (cases hi; done) | (cases ha; done)
            | none => simp only [ha]; exact ⟨_, rfl⟩
          · cases g1
      obtain ⟨q1, hq1⟩ := this
      refine ⟨q1 && q, ?_⟩
      unfold eqLI
      rw [hq1, hq]
theorem flat_struct {t : TypeId} {fs : Array Field} {n : Nat} {zc : List AV} (ht : P.underlying t = some (.struct fs)) (hp : P.stoodInHeld t = false) (hg : P.eqGuardType P.depth t = false) (hs : ScT P 0 fs.toList zc) : FlatOK P t false n zc := by
  refine ⟨hg, fun ρ a b xs ys r w hl h hx hy => ?_⟩
  obtain ⟨c, hc⟩ := shape_eq hl
  have hf : P.fieldsOf t = fs := by unfold Program.fieldsOf; rw [ht]
  refine ⟨?_, fun _ e => ?_⟩
  · have := run_equalIn_struct (P := P) w 9999 t xs ys (by rw [hf]; exact ht) hp
    rw [show (10000 : Nat) = 9999 + 1 from rfl, this, hf]
    exact eqF_ok 9998 xs ys w fs.toList zc a b _ _ 0 r c hs hc h hx hy (fun i u hu => by rw [Nat.zero_add, ← Array.getElem?_toList]; exact hu) (fun i u hu => by rw [Nat.zero_add, ← Array.getElem?_toList]; exact hu)
  · obtain ⟨q, hq⟩ := eqLI_self h
    have h1 := chkF_ok (P := P) 9998 e xs w fs.toList zc a _ 0 q c hs hc hq hx (fun i u hu => by rw [Nat.zero_add, ← Array.getElem?_toList]; exact hu)
    rw [show (10000 : Nat) = 9999 + 1 from rfl]
    unfold Instr.checkKey
    simp only [Sem.run_bind, run_underlying ht, Result.andThen_ok]
    rw [← Array.forIn_toList]
    exact (congrArg (fun r => Result.andThen r fun _ w' => Sem.run P (pure ()) w') h1).trans rfl
end
end Go.Proofs.YtceocfeckipihaaGreatDoor.Vm
namespace Go.Proofs.YtceocfeckipihaaGreatDoor.Vm
open Go Go.RowKit
noncomputable def keepH (h : Tr AObj) : List Nat → List (Nat × AObj)
  | [] => []
  | n :: r =>
    match h.get n with
    | some o => (n, o) :: keepH h r
    | none => keepH h r
noncomputable def keepT (T : Tr AV) : List Nat → List (Nat × AV)
  | [] => []
  | k :: r => (k, slotA T k) :: keepT T r
end Go.Proofs.YtceocfeckipihaaGreatDoor.Vm
namespace Go.Proofs.YtceocfeckipihaaGreatDoor.Vm
open Go Go.RowKit
attribute [local go_sem] Oper.semAt_some
theorem calm_ask (args : Array Value) (w : World) (n : Nat) : CallsDIn Fence.wide n Tryz.prog 385 args .returning w (fun e u' w' => (∃ v, e = .returned v) ∧ u' = .returning ∧ Quiet w w') := by
  refine callsDIn_of_wpSIn Tryz.func385 rfl trivial (fun c₀ cs hu => ?_)
  have hz : ∃ T : Array Value, T = args ++ Array.replicate (Tryz.f385.ntmps - args.size) undef ∧ 5 ≤ T.size := ⟨_, rfl, by rw [Tryz.ntmps385]; simp; omega⟩
  obtain ⟨T, hT, hTs⟩ := hz
  rw [← hT]
  have h2 : 2 < T.size := by omega
  have h3 : 3 < T.size := by omega
  apply wpSIn_seq
  apply wpSIn_region
  simp [wpOpsSIn, go_sem, recoverD, hu, Exit.thenS, h2]
  refine wpSIn_cond (t := false) (by simp [Act.eval, h3]) ?_
  simp only [Bool.false_eq_true, if_false]
  refine wpSIn_of_wpIn rfl (wpIn_skip ?_)
  cases c₀
  simp_all [bodyPostS, results, Tryz.results385, Quiet]
theorem calm_force (args : Array Value) (w : World) (n : Nat) : CallsDIn Fence.wide n Tryz.prog 373 args .returning w (fun e u' w' => (∃ v, e = .returned v) ∧ u' = .returning ∧ Quiet w w') := by
  refine callsDIn_of_wpSIn Tryz.func373 rfl trivial (fun c₀ cs hu => ?_)
  have hz : ∃ T : Array Value, T = args ++ Array.replicate (Tryz.f373.ntmps - args.size) undef ∧ 3 ≤ T.size := ⟨_, rfl, by rw [Tryz.ntmps373]; simp; omega⟩
  obtain ⟨T, hT, hTs⟩ := hz
  rw [← hT]
  have h2 : 1 < T.size := by omega
  have h3 : 2 < T.size := by omega
  apply wpSIn_seq
  apply wpSIn_region
  simp [wpOpsSIn, go_sem, recoverD, hu, Exit.thenS, h2]
  refine wpSIn_cond (t := false) (by simp [Act.eval, h3]) ?_
  simp only [Bool.false_eq_true, if_false]
  refine wpSIn_of_wpIn rfl (wpIn_skip ?_)
  cases c₀
  simp_all [bodyPostS, results, Tryz.results373, Quiet]
theorem calm_usable (args : Array Value) (w : World) (n : Nat) : CallsDIn Fence.wide n Tryz.prog 314 args .returning w (fun e u' w' => (∃ v, e = .returned v) ∧ u' = .returning ∧ Quiet w w') := by
  refine callsDIn_of_wpSIn Tryz.func314 rfl trivial (fun c₀ cs hu => ?_)
  have hz : ∃ T : Array Value, T = args ++ Array.replicate (Tryz.f314.ntmps - args.size) undef ∧ 3 ≤ T.size := ⟨_, rfl, by rw [Tryz.ntmps314]; simp; omega⟩
  obtain ⟨T, hT, hTs⟩ := hz
  rw [← hT]
  have h2 : 1 < T.size := by omega
  have h3 : 2 < T.size := by omega
  apply wpSIn_seq
  apply wpSIn_region
  simp [wpOpsSIn, go_sem, recoverD, hu, Exit.thenS, h2]
  refine wpSIn_cond (t := false) (by simp [Act.eval, h3]) ?_
  simp only [Bool.false_eq_true, if_false]
  refine wpSIn_of_wpIn rfl (wpIn_skip ?_)
  cases c₀
  simp_all [bodyPostS, results, Tryz.results314, Quiet]
end Go.Proofs.YtceocfeckipihaaGreatDoor.Vm
namespace Go.Proofs.YtceocfeckipihaaGreatDoor.Vm
open Go
theorem meth_force (v : Value) (w : World) : (method (Tryz.prog.types.size + Made.depth) 62 v "Force").run Tryz.prog w = .ok (112, v) w := by
  obtain ⟨k, hk⟩ : ∃ k, Tryz.prog.types.size + Made.depth = k + 1 := ⟨Tryz.prog.types.size + Made.depth - 1, by have : 62 < Tryz.prog.types.size := (Array.getElem?_eq_some_iff.1 Tryz.type62).1; omega⟩
  rw [hk, method]
  simp [Tryz.typeInfo62, Tryz.t62, follow, receiverAt, Tryz.runUnderlying62, Place.get]
end Go.Proofs.YtceocfeckipihaaGreatDoor.Vm
