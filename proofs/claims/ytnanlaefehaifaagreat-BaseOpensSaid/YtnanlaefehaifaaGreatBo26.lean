/-
  Texts of this claim, joined: YF, YG, YH, YI, YJ, YK, YL, YM, LV.
-/
import Derived.Below
import Derived.Test.YtnanlaefehaifaaGreatBo14
import Derived.Test.YtnanlaefehaifaaGreatBo25
set_option maxHeartbeats 6400000
set_option maxRecDepth 100000
namespace Go.Proofs.YtnanlaefehaifaaGreat.Vm
open Go
section
variable {P : Program} {E : Env} {ev : Ev} {rnd : Option Nat} {ρ ρ' ρ0 : Ren} {w w' w0 : World} {F : Fence} {n : Nat} {s s' s0 : St}
theorem slotA_nil (k : Nat) : slotA .nil k = undefA := rfl
theorem args0_slot : ∀ (l : List AV) (t : Tr AV) (j k : Nat), slotA (args0 t j l) k = if j ≤ k ∧ k < j + l.length then (l[k - j]?).getD undefA else slotA t k
  | [], t, j, k => by
    rw [if_neg (by rw [List.length_nil]; omega)]
    rfl
  | v :: r, t, j, k => by
    unfold args0
    rw [show Nat.succ j = j + 1 from rfl, args0_slot r _ (j + 1) k, slotA_put, List.length_cons]
    by_cases h1 : k = j
    · subst h1
      rw [if_neg (by omega), if_pos rfl, if_pos (by omega), Nat.sub_self]
      rfl
    · rw [if_neg h1]
      by_cases h2 : j + 1 ≤ k ∧ k < j + 1 + r.length
      · rw [if_pos h2, if_pos (by omega), show k - j = (k - (j + 1)) + 1 by omega, List.getElem?_cons_succ]
      · rw [if_neg h2, if_neg (by omega)]
theorem args_rel {args : List AV} {us : Array Value} {m : Nat} (h : LRel ρ args us.toList) (hle : args.length ≤ m) : TRel ρ (args0 .nil 0 args) m (us ++ Array.replicate (m - us.size) undef) := by
  have hl : us.size = args.length := by rw [← Array.length_toList, LRel.length _ h]
  refine ⟨by rw [Array.size_append, Array.size_replicate]; omega, fun k => ?_⟩
  rw [args0_slot, Array.getD_eq_getD_getElem?, Array.getElem?_append]
  by_cases hk : k < us.size
  · rw [if_pos (by omega), if_pos hk, Nat.sub_zero]
    obtain ⟨a, ha⟩ : ∃ a, args[k]? = some a := ⟨_, List.getElem?_eq_getElem (by omega)⟩
    obtain ⟨v, hv, hr⟩ := LRel.get h ha
    rw [Array.getElem?_toList] at hv
    rw [ha, hv]
    exact hr
  · rw [if_neg (by omega), if_neg hk, slotA_nil]
    have : ((Array.replicate (m - us.size) undef)[k - us.size]?).getD undef = undef := by
      rw [Array.getElem?_replicate]
      split <;> rfl
    rw [this]
    exact undef_rel
theorem loadM_run {i : TyI} {t : TypeId} {a v : AV} {u : Value} (hi : TyOK P t i) (h : loadM i a s = .ok v s') (ha : VRel ρ a u) (hw : WRel ρ s.h w) : Alike s s' ∧ ∃ ad r, u = .pointer (some ad) ∧ (loadVar t ad).run P w = .ok r w ∧ VRel ρ v r := by
  unfold loadM loadI at h
  obtain ⟨p, s1, h1, h2⟩ := M.bind_ok.1 h
  obtain ⟨hp, rfl⟩ := M.of_ok.1 h1
  obtain ⟨q, s2, h3, h4⟩ := M.bind_ok.1 h2
  obtain ⟨g1, _, ha2⟩ := rowM_ok h3
  obtain ⟨l, s3, h5, h6⟩ := M.bind_ok.1 h4
  obtain ⟨hl, rfl⟩ := M.of_ok.1 h5
  obtain ⟨x, hx, rfl⟩ := addrA_rel hp ha
  obtain ⟨ob, hb, hr⟩ := hw.row g1 hx
  obtain ⟨rfl, r, hr1, hr2⟩ := part_load hi hb hr hl h6
  exact ⟨ha2, _, r, rfl, hr1, hr2⟩
def resF (tmps : Array Value) : ResultVar → Sem Value
  | .tmp t => pure (tmps.getD t undef)
  | .cell a t => do loadVar t (← asAddr (tmps.getD a undef))
theorem results_eq (fn : Func) (tmps : Array Value) : results fn tmps = (do
    let vs ← fn.results.mapM (resF tmps)
    pure (if h : vs.size = 1 then vs[0] else .tuple vs)) := by
  unfold results
  congr 1
theorem resM_rel (hE : EnvOK E P) {T : Tr AV} {m : Nat} {tmps : Array Value} : ∀ {l : List ResultVar} {vs : List AV} {s s' : St}, resM E T l s = .ok vs s' → TRel ρ T m tmps → WRel ρ s.h w →
    Alike s s' ∧ ∃ us : List Value, (l.mapM (resF tmps)).run P w = .ok us w ∧ LRel ρ vs us
  | [], vs, s, s', h, _, _ => by
    obtain ⟨rfl, rfl⟩ := M.pure_ok.1 h
    exact ⟨Alike.refl _, [], rfl, LRel.nil_iff.2 rfl⟩
  | x :: r, vs, s, s', h, hT, hw => by
    unfold resM at h
    cases x with
    | tmp t =>
      obtain ⟨vs', s1, h1, h2⟩ := M.bind_ok.1 h
      obtain ⟨rfl, rfl⟩ := M.pure_ok.1 h2
      obtain ⟨g1, us, g2, g3⟩ := resM_rel hE h1 hT hw
      refine ⟨g1, tmps.getD t undef :: us, ?_, LRel.cons_iff.2 ⟨_, _, rfl, hT.2 t, g3⟩⟩
      rw [List.mapM_cons, Sem.run_bind, resF, Sem.run_pure, Result.andThen_ok, Sem.run_bind, g2, Result.andThen_ok, Sem.run_pure]
    | cell p t =>
      obtain ⟨i, hi, h1⟩ := withTy_ok.1 h
      obtain ⟨v, s1, h2, h3⟩ := M.bind_ok.1 h1
      obtain ⟨vs', s2, h4, h5⟩ := M.bind_ok.1 h3
      obtain ⟨rfl, rfl⟩ := M.pure_ok.1 h5
      obtain ⟨f1, ad, u, f2, f3, f4⟩ := loadM_run (hE.ty _ _ hi) h2 (hT.2 p) hw
      obtain ⟨g1, us, g2, g3⟩ := resM_rel hE h4 hT (hw.alike f1)
      refine ⟨f1.trans g1, u :: us, ?_, LRel.cons_iff.2 ⟨_, _, rfl, f4, g3⟩⟩
      rw [List.mapM_cons, Sem.run_bind]
      have e1 : (do loadVar t (← asAddr (tmps.getD p undef)) : Sem Value).run P w = .ok u w := by
        rw [f2]
        simp only [asAddr, Sem.run_bind, Sem.run_pure, Result.andThen_ok, f3]
      show Result.andThen ((do loadVar t (← asAddr (tmps.getD p undef)) : Sem Value).run P w) _ = _
      rw [e1, Result.andThen_ok, Sem.run_bind, g2, Result.andThen_ok, Sem.run_pure]
theorem results_rel (hE : EnvOK E P) {T : Tr AV} {m : Nat} {tmps : Array Value} {fn : Func} {vs : List AV} (h : resM E T fn.results.toList s = .ok vs s') (hT : TRel ρ T m tmps) (hw : WRel ρ s.h w) :
    Alike s s' ∧ ∃ u, (results fn tmps).run P w = .ok u w ∧ VRel ρ (tupOf vs) u := by
  obtain ⟨g1, us, g2, g3⟩ := resM_rel (P := P) hE h hT hw
  refine ⟨g1, (if h : us.toArray.size = 1 then us.toArray[0] else .tuple us.toArray), ?_, ?_⟩
  · rw [results_eq, Sem.run_bind, Array.mapM_eq_mapM_toList, Sem.run_map, g2]
    rfl
  · rcases vs with _ | ⟨v, _ | ⟨v2, r⟩⟩
    · rw [LRel.nil_iff.1 g3]
      exact ⟨#[], rfl, LRel.nil_iff.2 rfl⟩
    · obtain ⟨u, l, h1, h2, h3⟩ := LRel.cons_iff.1 g3
      rw [LRel.nil_iff.1 h3] at h1
      subst h1
      exact h2
    · have hl := LRel.length _ g3
      rw [dif_neg (by simp only [List.size_toArray]; rw [hl]; simp)]
      exact ⟨us.toArray, rfl, by simpa using g3⟩
theorem leave_ok (hE : EnvAll E P) (hev : EvOK P ev) (hl : LocEv ev) {fn : Func} {tmps : Array Value} {R : Ending → World → Prop} : ∀ (ds : List ADef) (defers : List Deferred) (s : St) (ρ : Ren) (w : World), leaveM E ev ds s = .ok () s' → DRel ρ ds defers → WRel ρ s.h w → FreshN ρ s.c s'.c →
    Stp s0 s ρ0 ρ w0 w → s0.c ≤ s.c → (∀ ρ' w', ρ.le ρ' → WRel ρ' s'.h w' → Stp s0 s' ρ0 ρ' w0 w' → ∃ v, (results fn tmps).run P w' = .ok v w' ∧ R (.returned v) w') → LeavesInM Fence.wide n P fn tmps R defers .returning w
  | [], defers, s, ρ, w, h, hd, hw, hf, hst, hc, hR => by
    obtain ⟨_, rfl⟩ := M.pure_ok.1 h
    rw [show defers = [] from hd]
    exact hR ρ w (Ren.le_refl _) hw hst
  | d :: ds, defers, s, ρ, w, h, hd, hw, hf, hst, hc, hR => by
    obtain ⟨q, defers', rfl, hq, hds⟩ := hd
    unfold leaveM at h
    refine ⟨by simp, ?_⟩
    cases d with
    | mark r =>
      obtain ⟨p, hp, rfl⟩ := hq
      simp only at h
      obtain ⟨x, s1, h1, h2⟩ := M.bind_ok.1 h
      unfold defsM at h1
      obtain ⟨o, s2, h3, h4⟩ := M.bind_ok.1 h1
      obtain ⟨g1, g2⟩ := getM_alike h3
      obtain ⟨od, s3, h5, h6⟩ := M.bind_ok.1 h4
      obtain ⟨ho, rfl⟩ := M.of_ok.1 h5
      obtain ⟨hx, rfl⟩ := M.of_ok.1 h6
      cases x with
      | cons _ _ => exact ((M.fail_ok (s := s1)).1 h2).elim
      | nil =>
        obtain ⟨_, s4, h7, h8⟩ := M.bind_ok.1 h2
        have ho' : o = .defs (some []) := by
          cases o <;> simp only [defsO, Option.some.injEq, reduceCtorEq] at ho
          rw [ho, hx]
        subst ho'
        obtain ⟨p', ob, e1, e2, dd, rfl, e4⟩ := hw.at_ r _ g1
        rw [hp] at e1
        injection e1 with e1
        subst e1
        obtain ⟨l0, rfl, e5⟩ := e4
        obtain rfl : l0 = [] := e5
        obtain ⟨_, hs'⟩ := setM_ok.1 h7
        have hc4 : s4.c = s1.c := by rw [hs']; rfl
        have hc3 : s1.c = s.c := g2.2
        have hlt := (Array.getElem?_eq_some_iff.1 e2).1
        have hon : Only p.1 w { w with heap := w.heap.setIfInBounds p.1 (.deferred none) } := ⟨rfl, rfl, rfl, by simp, fun q hq => by simp [Ne.symm hq]⟩
        have hset := set_rel (s := s1) (s' := s4) (o := .defs none) (hw.alike g2) (by rw [g2.1, g1]; rfl) hp (by rw [hs']; rfl) hon (ob := .deferred none) (by simp [hlt]) ⟨none, rfl, rfl⟩
        refine .inl ⟨p.1, _, rfl, ?_, leave_ok hE hev hl ds defers' s4 ρ _ h8 hds hset.1 (hf.sub (by omega) (Nat.le_refl _)) (Stp.trans hst (g2.stp hset.2) hc (by omega)) (by omega) hR⟩
        simp [Instr.takeDeferred, getObj, setObj, Sem.run, e2]
    | fn g args cap =>
      obtain ⟨c, az, rfl, ha, hcap⟩ := hq
      simp only at h
      cases hcm : isCalm g E.calm with
      | true =>
        rw [bif_true _ _ hcm] at h
        obtain ⟨en, hcalm⟩ := hE.calm g hcm
        refine .inr ⟨fun e => (by cases e), .func g, c, g, az ++ c, rfl, en _ _, fun _ _ => trivial, CallsDIn.mono (hcalm (az ++ c) w _) ?_⟩
        rintro e u' w2 ⟨⟨v, rfl⟩, rfl, q1, q2, q3, q4⟩
        refine leave_ok hE hev hl ds defers' s ρ w2 h hds (hw.heap q1) hf ?_ hc hR
        exact ⟨hst.ext, hst.le, q2.trans hst.os, q3.trans hst.tape, q4.trans hst.output, by rw [q1]; exact hst.size, fun q h1 h2 => by rw [q1]; exact hst.block q h1 h2, hst.own⟩
      | false =>
        rw [bif_false _ _ hcm] at h
        obtain ⟨v, s1, h1, h2⟩ := M.bind_ok.1 h
        have c1 := (hl.callD _ _).le h1
        have c2 := (Loc.leaveM hl ds).le h2
        obtain ⟨en, hcd⟩ := hev.callD _ _ _ _ _ h1
        refine .inr ⟨fun e => (by cases e), .func g, c, g, az ++ c, rfl, en _ _, fun _ _ => trivial, CallsDIn.mono (hcd ρ w (az ++ c) _ hw (hf.sub (Nat.le_refl _) c2) (by rw [Array.toList_append]; exact LRel.append ha hcap)) ?_⟩
        rintro e u' w2 ⟨rfl, ρ2, u, rfl, hv, hw2, hs2⟩
        exact leave_ok hE hev hl ds defers' s1 ρ2 w2 h2 (hds.mono hs2.le) hw2 (hf.step hs2 c1) (Stp.trans hst hs2 hc c1) (Nat.le_trans hc c1) (fun ρ' w' hle => hR ρ' w' (Ren.le_trans hs2.le hle))
end
end Go.Proofs.YtnanlaefehaifaaGreat.Vm
namespace Go.Proofs.YtnanlaefehaifaaGreat.Vm
open Go Go.RowKit
section
variable {P : Program} {E : Env} {ev : Ev} {ρ ρ' ρ0 : Ren} {w w' w0 : World} {n : Nat} {s s' s0 : St}
theorem bodyC_ok {fn : Func} {c : CodeC} {args : List AV} {q : Tr AV × List ADef} (h : bodyC fn c ev args s = .ok q s') : args.length ≤ fn.ntmps ∧ ∃ e m, isExit e = false ∧ c ev none (.mk (args0 .nil 0 args) fn.ntmps []) s = .ok (e, .mk q.1 m q.2) s' := by
  unfold bodyC at h
  cases hb : Nat.ble args.length fn.ntmps with
  | false => rw [bif_false _ _ hb] at h; exact (M.fail_ok.1 h).elim
  | true =>
    rw [bif_true _ _ hb] at h
    obtain ⟨⟨e, a⟩, s1, h1, h2⟩ := M.bind_ok.1 h
    simp only at h2
    cases he : isExit e with
    | true => rw [bif_true _ _ he] at h2; exact (M.fail_ok.1 h2).elim
    | false =>
      rw [bif_false _ _ he] at h2
      obtain ⟨T, m, ds⟩ := a
      obtain ⟨rfl, rfl⟩ := M.pure_ok.1 h2
      exact ⟨ble_true.1 hb, e, m, he, h1⟩
theorem ent_ok (hE : EnvAll E P) (hev : EvOK P ev) (hl : LocEv ev) {f : FuncId} {fn : Func} {c : Code} {args : List AV} {v : AV} (hf : P.funcs[f]? = some fn) (hb : fn.body = some c) (h : entC E fn (codeC E c) ev args s = .ok v s') : CallOK P f args s v s' := by
  intro ρ w us n hw hfr hu
  obtain ⟨q, s1, h1, h2⟩ := M.bind_ok.1 h
  obtain ⟨_, s2, h3, h4⟩ := M.bind_ok.1 h2
  obtain ⟨vs, s3, h5, h6⟩ := M.bind_ok.1 h4
  obtain ⟨rfl, rfl⟩ := M.pure_ok.1 h6
  obtain ⟨hle, e, m, he, hc⟩ := bodyC_ok h1
  have c1 := (Loc.codeC hl c none _).le hc
  have c2 := (Loc.leaveM hl _).le h3
  have c3 := (Loc.resM E _ _).le h5
  refine callsIn_of_wp_marks hf hb trivial (wpIn_mono (code_ok hE hev hl c none _ s _ s1 hc ρ w _ Fence.wide n rfl hw (hfr.sub (Nat.le_refl _) (by omega)) ⟨args_rel hu hle, rfl⟩) ?_)
  rintro x act w1 ⟨ρ1, g1, g2, g3, g4⟩
  have hleave : LeavesInM Fence.wide n P fn act.tmps (Ret s s' ρ w (tupOf vs)) act.defers .returning w1 := by
    refine leave_ok (s0 := s) (ρ0 := ρ) (w0 := w) hE hev hl q.2 act.defers s1 ρ1 w1 h3 g2.d g3 ((hfr.step g4 c1).sub (Nat.le_refl _) (by omega)) g4 c1 (fun ρ' w' hle' hw' hst' => ?_)
    obtain ⟨al, u, e1, e2⟩ := results_rel (P := P) hE.toEnvOK h5 (g2.t.mono hle') hw'
    exact ⟨u, e1, ρ', u, rfl, e2, hw'.alike al, hst'.thenAlike al⟩
  cases g1 with
  | normal => exact hleave
  | ret => exact hleave
  | exit i => cases he
theorem entD_ok (hE : EnvAll E P) (hev : EvOK P ev) (hl : LocEv ev) {f : FuncId} {fn : Func} {c : Code} {args : List AV} {v : AV} (hf : P.funcs[f]? = some fn) (hb : fn.body = some c) (h : entD E fn (codeC E c) ev args s = .ok v s') : CallDOK P f args s v s' := by
  intro ρ w us n hw hfr hu
  obtain ⟨⟨T, ds⟩, s1, h1, h2⟩ := M.bind_ok.1 h
  cases ds with
  | cons _ _ => exact ((M.fail_ok (s := s1)).1 h2).elim
  | nil =>
    obtain ⟨vs, s3, h5, h6⟩ := M.bind_ok.1 h2
    obtain ⟨rfl, rfl⟩ := M.pure_ok.1 h6
    obtain ⟨hle, e, m, he, hc⟩ := bodyC_ok h1
    have c1 := (Loc.codeC hl c none _).le hc
    have c3 := (Loc.resM E _ _).le h5
    refine callsDIn_of_wp hf hb trivial (wpIn_mono (code_ok hE hev hl c none _ s _ s1 hc ρ w _ Fence.wide n rfl hw (hfr.sub (Nat.le_refl _) (by omega)) ⟨args_rel hu hle, rfl⟩) ?_)
    rintro x act w1 ⟨ρ1, g1, g2, g3, g4⟩
    have hend : act.defers = [] ∧ ∃ v, (results fn act.tmps).run P w1 = .ok v w1 ∧ Ret s s' ρ w (tupOf vs) (.returned v) w1 := by
      obtain ⟨al, u, e1, e2⟩ := results_rel (P := P) hE.toEnvOK h5 g2.t g3
      exact ⟨g2.d, u, e1, ρ1, u, rfl, e2, g3.alike al, g4.thenAlike al⟩
    cases g1 with
    | normal => exact hend
    | ret => exact hend
    | exit i => cases he
theorem evN_ok (hE : EnvAll E P) : ∀ m, EvOK P (evN E m)
  | 0 => ⟨fun f args s v s' h => ((M.fail_ok (s := s)).1 h).elim, fun f args s v s' h => ((M.fail_ok (s := s)).1 h).elim, fun rnd c a s q s' h => ((M.fail_ok (s := s)).1 h).elim⟩
  | m + 1 => by
    have hev := evN_ok hE m
    have hl := locEv hE.orcLoc m
    refine ⟨fun f args s v s' h => ?_, fun f args s v s' h => ?_, fun rnd c a s q s' h => code_ok hE hev hl c rnd a s q s' h⟩
    · have h' : fnC E f (evN E m) args s = .ok v s' := h
      unfold fnC at h'
      cases ho : E.orc.get f with
      | some o =>
        rw [ho] at h'
        obtain ⟨g1, g2⟩ := hE.orc f o ho
        exact ⟨g1, g2 args s v s' h'⟩
      | none =>
        rw [ho] at h'
        cases hfn : E.fn.get f with
        | none => rw [hfn] at h'; exact ((M.fail_ok (s := s)).1 h').elim
        | some fn =>
          rw [hfn] at h'
          simp only at h'
          obtain ⟨g1, g2⟩ := hE.fn f fn hfn
          cases hb : fn.body with
          | none => rw [hb] at h'; exact ((M.fail_ok (s := s)).1 h').elim
          | some c =>
            rw [hb] at h'
            exact ⟨g2, ent_ok hE hev hl g1 hb h'⟩
    · have h' : fnD E f (evN E m) args s = .ok v s' := h
      unfold fnD at h'
      cases hfn : E.fn.get f with
      | none => rw [hfn] at h'; exact ((M.fail_ok (s := s)).1 h').elim
      | some fn =>
        rw [hfn] at h'
        simp only at h'
        obtain ⟨g1, g2⟩ := hE.fn f fn hfn
        cases hb : fn.body with
        | none => rw [hb] at h'; exact ((M.fail_ok (s := s)).1 h').elim
        | some c =>
          rw [hb] at h'
          exact ⟨g2, entD_ok hE hev hl g1 hb h'⟩
def noRen : Ren := fun _ => none
theorem reckoned (hE : EnvAll E P) {m : Nat} {f : FuncId} {args : List AV} {v : AV} (h : (evN E m).call f args (.mk .nil 0 [] []) = .ok v s') {us : Array Value} (hu : LRel noRen args us.toList) (w : World) :
    Calls P f us w (fun e w' => ∃ ρ u, e = .returned u ∧ VRel ρ v u ∧ WRel ρ s'.h w' ∧ Below w.heap.size w w') := by
  have hc := ((evN_ok hE m).call _ _ _ _ _ h).2 noRen w us 0 ⟨fun n o ho => (by cases ho), fun n m p q hn => (by cases hn)⟩ (fun _ _ _ => rfl) hu
  refine Calls.mono (callsIn_wide.1 hc) ?_
  rintro e w' ⟨ρ, u, rfl, h1, h2, h3⟩
  refine ⟨ρ, u, rfl, h1, h2, ⟨h3.os, h3.tape, h3.output, h3.size, fun q hq => h3.block q hq ?_⟩⟩
  rintro ⟨n, p, hn, _⟩
  cases hn
end
end Go.Proofs.YtnanlaefehaifaaGreat.Vm
namespace Go.Proofs.YtnanlaefehaifaaGreat.Vm
open Go
mutual
noncomputable def conV : AV → Value
  | .int k n => .int k n
  | .bool b => .bool b
  | .str s => .string s
  | .nilp => .pointer none
  | .nilslice => .slice none 0 0
  | .nilmap => .map none
  | .nilfunc => .nilFunc
  | .niliface => .nilIface
  | .agg cs => .agg (conC cs).toArray
  | _ => .tuple #[]
noncomputable def conC : List AV → List Value
  | [] => []
  | a :: r => (match isB a with | some p => bytesV p.1 p.2 | none => [conV a]) ++ conC r
end
mutual
def okV : AV → Bool
  | .int _ _ => true
  | .bool _ => true
  | .str _ => true
  | .nilp => true
  | .nilslice => true
  | .nilmap => true
  | .nilfunc => true
  | .niliface => true
  | .agg cs => okC cs
  | _ => false
def okC : List AV → Bool
  | [] => true
  | a :: r => (match isB a with | some p => Nat.blt p.2 (Nat.pow 2 (Nat.mul 8 p.1)) | none => isOne a && okV a) && okC r
end
mutual
theorem conV_rel (ρ : Ren) : ∀ (a : AV), okV a = true → VRel ρ a (conV a)
  | .int _ _, _ => by simp [VRel, conV]
  | .bool _, _ => by simp [VRel, conV]
  | .str _, _ => by simp [VRel, conV]
  | .nilp, _ => by simp [VRel, conV]
  | .nilslice, _ => by simp [VRel, conV]
  | .nilmap, _ => by simp [VRel, conV]
  | .nilfunc, _ => by simp [VRel, conV]
  | .niliface, _ => by simp [VRel, conV]
  | .agg cs, h => by
    rw [okV] at h
    rw [VRel, conV]
    exact ⟨_, rfl, by simpa using conC_rel ρ cs h⟩
  | .ptr _ _, h => by simp [okV] at h
  | .slice _ _ _ _ _, h => by simp [okV] at h
  | .empty, h => by simp [okV] at h
  | .map _, h => by simp [okV] at h
  | .func _ _ _, h => by simp [okV] at h
  | .yield _, h => by simp [okV] at h
  | .iface _ _, h => by simp [okV] at h
  | .tuple _, h => by simp [okV] at h
  | .bytes _ _, h => by simp [okV] at h
theorem conC_rel (ρ : Ren) : ∀ (l : List AV), okC l = true → CRel ρ l (conC l)
  | [], _ => by simp [CRel, conC]
  | a :: r, h => by
    rw [okC, Bool.and_eq_true] at h
    refine CRel.cons_iff.2 ⟨_, conC r, by rw [conC], ?_, conC_rel ρ r h.2⟩
    have h1 := h.1
    cases hb : isB a with
    | some p =>
      rw [hb] at h1
      exact ⟨rfl, blt_true.1 h1⟩
    | none =>
      rw [hb] at h1
      simp only [Bool.and_eq_true] at h1
      exact ⟨h1.1, _, rfl, conV_rel ρ a h1.2⟩
end
section
variable {P : Program} {E : Env}
theorem tyOK_of {t : TypeId} {i : TyI} {inf : TypeInfo} {d : TypeDesc} (h1 : P.info? t = some inf) (h2 : P.underlying t = some d) (hs : inf.size = i.size) (hb : inf.bytes = i.bytes) (hz : inf.zero = some (conV i.zero)) (hzc : (conV i.zero).cells.toList = conC i.zc)
    (ho : (okV i.zero && okC i.zc) = true) (hd : DescR P i.desc d) (ha : i.agg = d.isRow) (hf : i.flat = true → FlatOK P t (isArrD i.desc) i.size) (hn : (conV i.zero).cells.size = i.size) : TyOK P t i := by
  rw [Bool.and_eq_true] at ho
  exact ⟨inf, d, conV i.zero, h1, h2, hs, hb, hz, fun ρ => conV_rel ρ _ ho.1, fun ρ => by rw [hzc]; exact conC_rel ρ _ ho.2, hd, ha, hf, hn⟩
def AllT {α : Type} (Q : Nat → α → Prop) : Tr α → Nat → Nat → Prop
  | .nil, _, _ => True
  | .node l v r, a, b => AllT Q l (a + b) (2 * b) ∧ (match v with | some x => Q a x | none => True) ∧ AllT Q r (a + 2 * b) (2 * b)
theorem allT_get {α : Type} {Q : Nat → α → Prop} {x : α} : ∀ (t : Tr α) (a b n : Nat), AllT Q t a b → t.get n = some x → Q (a + b * n) x
  | .nil, _, _, _, _, h => by cases h
  | .node l v r, a, b, n, ⟨h1, h2, h3⟩, h => by
    rw [Tr.get_node] at h
    by_cases h0 : n = 0
    · rw [if_pos h0] at h
      subst h0
      rw [h] at h2
      exact h2
    · rw [if_neg h0] at h
      by_cases h4 : n % 2 = 1
      · rw [if_pos h4] at h
        have := allT_get l _ _ _ h1 h
        have e : a + b + 2 * b * (n / 2) = a + b * n := by
          have : n = 2 * (n / 2) + 1 := by omega
          conv => rhs; rw [this]
          rw [Nat.mul_add, Nat.mul_one, ← Nat.mul_assoc, Nat.mul_comm b 2]
          omega
        rwa [e] at this
      · rw [if_neg h4] at h
        have := allT_get r _ _ _ h3 h
        have e : a + 2 * b + 2 * b * (n / 2 - 1) = a + b * n := by
          have : n = 2 * (n / 2 - 1) + 2 := by omega
          conv => rhs; rw [this]
          rw [Nat.mul_add, ← Nat.mul_assoc, Nat.mul_comm b 2]
          omega
        rwa [e] at this
theorem envOK_of (hT : AllT (TyOK P) E.ty 0 1) (hF : AllT (fun f fn => P.funcs[f]? = some fn ∧ ∀ (args : Array Value) (w : World), (callFunc f args).run P w = .ok (.enter f args) w) E.fn 0 1) (hm : P.follows .mixedOrders = true) : EnvOK E P :=
  ⟨fun t i h => by have := allT_get E.ty 0 1 t hT h; rwa [Nat.one_mul, Nat.zero_add] at this, fun f fn h => by have := allT_get E.fn 0 1 f hF h; rwa [Nat.one_mul, Nat.zero_add] at this, hm⟩
theorem findMeth_mem : ∀ {l : List (TypeId × String × FuncId)} {t : TypeId} {m : String} {g : FuncId}, findMeth l t m = some g → (t, m, g) ∈ l
  | [], _, _, _, h => by cases h
  | x :: r, t, m, g, h => by
    unfold findMeth at h
    cases hb : (Nat.beq x.1 t && x.2.1 == m) with
    | true =>
      rw [bif_true _ _ hb] at h
      rw [Bool.and_eq_true] at hb
      simp only [Option.some.injEq] at h
      have e1 := beq_true.1 hb.1
      have e2 := eq_of_beq hb.2
      obtain ⟨x1, x2, x3⟩ := x
      simp only at e1 e2 h
      rw [e1, e2, h]
      exact List.mem_cons_self
    | false =>
      rw [bif_false _ _ hb] at h
      exact List.mem_cons_of_mem _ (findMeth_mem h)
end
end Go.Proofs.YtnanlaefehaifaaGreat.Vm
namespace Go.Proofs.YtnanlaefehaifaaGreat.Vm
open Go
theorem unpack_inj : ∀ {l n m : Nat}, n < 2 ^ (8 * l) → m < 2 ^ (8 * l) → unpack l n = unpack l m → n = m
  | 0, n, m, h1, h2, _ => by
    have : 2 ^ (8 * 0) = 1 := rfl
    omega
  | l + 1, n, m, h1, h2, h => by
    unfold unpack at h
    injection h with e1 e2
    have hp : 2 ^ (8 * (l + 1)) = 256 * 2 ^ (8 * l) := by rw [show 8 * (l + 1) = 8 * l + 8 by omega, Nat.pow_add, Nat.mul_comm]
    rw [hp] at h1 h2
    have e3 : n % 256 = m % 256 := by
      have := congrArg UInt8.toNat e1
      rw [UInt8.toNat_ofNat', UInt8.toNat_ofNat'] at this
      have h3 : Nat.mod n 256 = n % 256 := rfl
      have h4 : Nat.mod m 256 = m % 256 := rfl
      rw [h3, h4] at this
      omega
    have e4 : n / 256 = m / 256 := unpack_inj (l := l) (by omega) (by omega) e2
    omega
section
variable {ρ : Ren} {P : Program}
theorem unpack_beq {l n m : Nat} (h1 : n < 2 ^ (8 * l)) (h2 : m < 2 ^ (8 * l)) : (unpack l n == unpack l m) = Nat.beq n m := by
  rw [Bool.eq_iff_iff, beq_iff_eq, beq_true]
  exact ⟨unpack_inj h1 h2, fun e => by rw [e]⟩
theorem append_beq {xs ys us vs : List UInt8} (h : xs.length = ys.length) : (xs ++ us == ys ++ vs) = ((xs == ys) && (us == vs)) := by
  rw [Bool.eq_iff_iff, Bool.and_eq_true, beq_iff_eq, beq_iff_eq, beq_iff_eq]
  exact ⟨fun e => List.append_inj e h, fun e => by rw [e.1, e.2]⟩
theorem eqLB_rel : ∀ {a b : List AV} {us vs : List Value} {r : Bool}, eqLB a b = some r → CRel ρ a us → CRel ρ b vs → ∃ xs ys : List UInt8, us = xs.map byteV ∧ vs = ys.map byteV ∧ xs.length = ys.length ∧ r = (xs == ys)
  | [], [], us, vs, r, h, hu, hv => by
    simp only [eqLB, Option.some.injEq] at h
    subst h
    exact ⟨[], [], CRel.nil_iff.1 hu, CRel.nil_iff.1 hv, rfl, rfl⟩
  | [], _ :: _, _, _, _, h, _, _ => by cases h
  | _ :: _, [], _, _, _, h, _, _ => by cases h
  | a :: x, b :: y, us, vs, r, h, hu, hv => by
    obtain ⟨u1, u2, rfl, h1, h2⟩ := CRel.cons_iff.1 hu
    obtain ⟨v1, v2, rfl, h3, h4⟩ := CRel.cons_iff.1 hv
    unfold eqLB at h
    cases ha : isB a with
    | none => rw [ha] at h; cases h
    | some p =>
      cases hb : isB b with
      | none => rw [ha, hb] at h; cases h
      | some q =>
        rw [ha, hb] at h
        rw [ha] at h1
        rw [hb] at h3
        simp only at h
        cases hpq : Nat.beq p.1 q.1 with
        | false => rw [bif_false _ _ hpq] at h; cases h
        | true =>
          rw [bif_true _ _ hpq] at h
          cases hr : eqLB x y with
          | none => rw [hr] at h; cases h
          | some c =>
            rw [hr] at h
            simp only [Option.some.injEq] at h
            subst h
            obtain ⟨xs, ys, rfl, rfl, e1, rfl⟩ := eqLB_rel hr h2 h4
            obtain ⟨rfl, g1⟩ := h1
            obtain ⟨rfl, g2⟩ := h3
            have e2 := beq_true.1 hpq
            refine ⟨unpack p.1 p.2 ++ xs, unpack q.1 q.2 ++ ys, by rw [List.map_append]; rfl, by rw [List.map_append]; rfl, by rw [List.length_append, List.length_append, unpack_length, unpack_length, e1, e2], ?_⟩
            rw [append_beq (by rw [unpack_length, unpack_length, e2]), e2, unpack_beq (by rw [← e2]; exact g1) g2]
end
end Go.Proofs.YtnanlaefehaifaaGreat.Vm
namespace Go.Proofs.YtnanlaefehaifaaGreat.Vm
open Go Go.RowKit
theorem flat_bytes {t : TypeId} {n : Nat} (ht : Tryz.prog.underlying t = some (.array n 5)) (hg : Tryz.prog.eqGuardType Tryz.prog.depth t = false) : FlatOK Tryz.prog t true n := by
  refine ⟨hg, fun ρ a b xs ys r w hl h hx hy => ?_⟩
  obtain ⟨us, vs, e1, e2, e3, rfl⟩ := eqLB_rel h hx hy
  have hn : us.length = n := by
    have := CRel.length _ hx
    rw [e1, List.length_map, hl] at this
    exact this
  obtain rfl : xs = (us.map byteV).toArray := Array.ext' e1
  obtain rfl : ys = (vs.map byteV).toArray := Array.ext' e2
  exact run_eqB t n 9998 ht us vs hn (by omega) w
end Go.Proofs.YtnanlaefehaifaaGreat.Vm
namespace Go.Proofs.YtnanlaefehaifaaGreat.Vm
open Go Go.RowKit
attribute [local go_sem] Oper.semAt_some
theorem calm_ask (args : Array Value) (w : World) (n : Nat) : CallsDIn Fence.wide n Tryz.prog 238 args .returning w (fun e u' w' => (∃ v, e = .returned v) ∧ u' = .returning ∧ Quiet w w') := by
  refine callsDIn_of_wpSIn Tryz.func238 rfl trivial (fun c₀ cs hu => ?_)
  have hz : ∃ T : Array Value, T = args ++ Array.replicate (Tryz.f238.ntmps - args.size) undef ∧ 5 ≤ T.size := ⟨_, rfl, by rw [Tryz.ntmps238]; simp; omega⟩
  obtain ⟨T, hT, hTs⟩ := hz
  rw [← hT]
  have h2 : 2 < T.size := by omega
  have h3 : 3 < T.size := by omega
  apply wpSIn_seq
  apply wpSIn_region
  simp [wpOpsSIn, go_sem, recoverD, hu, Exit.thenS, h2]
  refine wpSIn_cond (t := false) (by simp [Act.eval, h3]) ?_
  simp only [Bool.false_eq_true, if_false]
  refine wpSIn_of_wpIn rfl (wpIn_skip ?_)
  cases c₀
  simp_all [bodyPostS, results, Tryz.results238, Quiet]
theorem calm_force (args : Array Value) (w : World) (n : Nat) : CallsDIn Fence.wide n Tryz.prog 256 args .returning w (fun e u' w' => (∃ v, e = .returned v) ∧ u' = .returning ∧ Quiet w w') := by
  refine callsDIn_of_wpSIn Tryz.func256 rfl trivial (fun c₀ cs hu => ?_)
  have hz : ∃ T : Array Value, T = args ++ Array.replicate (Tryz.f256.ntmps - args.size) undef ∧ 3 ≤ T.size := ⟨_, rfl, by rw [Tryz.ntmps256]; simp; omega⟩
  obtain ⟨T, hT, hTs⟩ := hz
  rw [← hT]
  have h2 : 1 < T.size := by omega
  have h3 : 2 < T.size := by omega
  apply wpSIn_seq
  apply wpSIn_region
  simp [wpOpsSIn, go_sem, recoverD, hu, Exit.thenS, h2]
  refine wpSIn_cond (t := false) (by simp [Act.eval, h3]) ?_
  simp only [Bool.false_eq_true, if_false]
  refine wpSIn_of_wpIn rfl (wpIn_skip ?_)
  cases c₀
  simp_all [bodyPostS, results, Tryz.results256, Quiet]
end Go.Proofs.YtnanlaefehaifaaGreat.Vm
namespace Go.Proofs.YtnanlaefehaifaaGreat.Vm
open Go
theorem meth_force (v : Value) (w : World) : (method (Tryz.prog.types.size + Made.depth) 24 v "Force").run Tryz.prog w = .ok (273, v) w := by
  obtain ⟨k, hk⟩ : ∃ k, Tryz.prog.types.size + Made.depth = k + 1 := ⟨Tryz.prog.types.size + Made.depth - 1, by have : 24 < Tryz.prog.types.size := (Array.getElem?_eq_some_iff.1 Tryz.type24).1; omega⟩
  rw [hk, method]
  simp [Tryz.typeInfo24, Tryz.t24, follow, receiverAt, Tryz.runUnderlying24, Place.get]
end Go.Proofs.YtnanlaefehaifaaGreat.Vm
namespace Go.Proofs.YtnanlaefehaifaaGreat.Vm
open Go Go.RowKit Go.Maps
open Go.ChangeMaps (setBlock)
open Go.MapKept (heap_set)
theorem wpList_range_raw {P : Program} {w w' : World} {ops : Array Oper} {rest : List Oper} {o : Oper} {a : Act} {Q : Exit → Act → World → Prop} (hg : o.guard = none) (t : TypeId) (x : Operand) (hop : o.op = Op.range t x) (v r : Value) (hx : a.eval x = v)
    (hrun : (Instr.range t v).run P w = .ok r w') (h : wpList P ops Q rest (a.put o.dst r) w') : wpList P ops Q (o :: rest) a w := by
  refine wpList_plain hg fun K' hK' => ?_
  unfold Oper.wp
  simp [execOp, hop, hx, hrun, Result.andThen]
  exact hK' _ _ h
theorem wpList_next_raw {P : Program} {w w' : World} {ops : Array Oper} {rest : List Oper} {o : Oper} {a : Act} {Q : Exit → Act → World → Prop} (hg : o.guard = none) (x : Operand) (hop : o.op = Op.next x false) (v r : Value) (hx : a.eval x = v)
    (hrun : (Instr.next v false o.type).run P w = .ok r w') (h : wpList P ops Q rest (a.put o.dst r) w') : wpList P ops Q (o :: rest) a w := by
  refine wpList_plain hg fun K' hK' => ?_
  unfold Oper.wp
  simp [execOp, hop, hx, hrun, Result.andThen]
  exact hK' _ _ h
def NextOf (es : Array MapEntry) (seen : Array Nat) (e : MapEntry) : Prop := e ∈ (leftOf es seen).toList
def NoneLeft (es : Array MapEntry) (seen : Array Nat) : Prop := (leftOf es seen).size = 0
def HeapAs (w w1 : World) : Prop := w1.heap = w.heap ∧ w1.os = w.os ∧ w1.tape = w.tape ∧ w1.output = w.output
theorem wpList_next_at {P : Program} {w : World} {ops : Array Oper} {rest : List Oper} {o : Oper} {a : Act} {Q : Exit → Act → World → Prop} (hg : o.guard = none) (x : Operand) (hop : o.op = Op.next x false) (r bm since c0 : Nat) (seen : Array Nat) (es : Array MapEntry) (clock : Nat) (hx : a.eval x = .pointer (some ⟨r, 0, none⟩))
    (hr : w.heap[r]? = some (.mapIter (some bm) since seen c0)) (hb : w.heap[bm]? = some (.map es clock)) (hold : ∀ x ∈ es.toList, x.born < since) (hsc : since ≤ c0)
    (hDone : NoneLeft es seen → wpList P ops Q rest (a.put o.dst (.tuple #[.bool false])) w)
    (hMore : ∀ (e : MapEntry) (w1 : World), NextOf es seen e → HeapAs w w1 → wpList P ops Q rest (a.put o.dst (.tuple #[.bool true, e.key, e.val])) (setBlock w1 r (.mapIter (some bm) since (seen.push e.born) clock))) : wpList P ops Q (o :: rest) a w := by
  rcases run_next_at (P := P) w o.type r bm since c0 seen es clock hr hb hold hsc with ⟨h0, hrun⟩ | ⟨e, he, w1, hal, hrun⟩
  · exact wpList_next_raw hg x hop _ _ hx hrun (hDone h0)
  · exact wpList_next_raw hg x hop _ _ hx hrun (hMore e w1 he (by rcases hal with rfl | rfl <;> exact ⟨rfl, rfl, rfl, rfl⟩))
def Cov (go : Nat) (x : MapEntry) (i : Nat) : Prop := ∃ k : Nat, x.key = .int .i64 (k : Int) ∧ go + k * 512 ≤ i ∧ i < go + k * 512 + 512
def SyE (w : World) (g go n : Nat) (G T : Array Value) (x : MapEntry) (k : Nat) (us : List UInt8) : Prop :=
  x.key = .int .i64 (k : Int) ∧ k < n ∧ go + k * 512 + 512 ≤ G.size ∧ us.length = 512 ∧ (∀ i u, (us.map byteV)[i]? = some u → T[go + k * 512 + i]? = some u) ∧
  ∃ b o l cap t, ∃ cs : Array Value, x.val = .slice (some ⟨b, o, none⟩) l cap ∧ 0 < l ∧ l ≤ 1000000 ∧ b ≠ g ∧ Blk w b t cs ∧ ∀ i u, (us.map byteV)[i]? = some u → cs[o + (l - 1) * 512 + i]? = some u
def SyI (w : World) (g go m : Nat) (tg : TypeId) (es : Array MapEntry) (clock : Nat) (G T : Array Value) (wr : World) : Prop :=
  ∃ (seen : Array Nat) (c0 : Nat) (cur : Array Value), wr.heap[w.heap.size]? = some (.mapIter (some m) clock seen c0) ∧ clock ≤ c0 ∧ Blk wr g tg cur ∧ cur.size = G.size ∧
    (∀ i, (∃ x ∈ es.toList, seen.contains x.born = true ∧ Cov go x i) → cur[i]? = T[i]?) ∧ (∀ i, (¬ ∃ x ∈ es.toList, seen.contains x.born = true ∧ Cov go x i) → cur[i]? = G[i]?) ∧ Turn (fun q => q = g) w wr
def syW (w : World) (g m : Nat) (tg : TypeId) (T : Array Value) (clock : Nat) : World := { w with heap := (w.heap.setIfInBounds g (.cells T tg (0, 0))).setIfInBounds m (.map #[] clock) }
theorem heap_at {w : World} {b : Nat} {o : Obj} (h : w.heap[b]? = some o) : b < w.heap.size := (Array.getElem?_eq_some_iff.1 h).1
theorem sync_end {w wr : World} {g go m : Nat} {tg : TypeId} {es : Array MapEntry} {clock : Nat} {G T cur : Array Value} {seen : Array Nat} (kg : Blk w g tg G) (hm : w.heap[m]? = some (.map es clock)) (hT : T.size = G.size) (hT0 : ∀ i, (¬ ∃ x ∈ es.toList, Cov go x i) → T[i]? = G[i]?)
    (hall : ∀ x ∈ es.toList, seen.contains x.born = true) (kc : Blk wr g tg cur) (hcs : cur.size = G.size) (h1 : ∀ i, (∃ x ∈ es.toList, seen.contains x.born = true ∧ Cov go x i) → cur[i]? = T[i]?) (h2 : ∀ i, (¬ ∃ x ∈ es.toList, seen.contains x.born = true ∧ Cov go x i) → cur[i]? = G[i]?)
    (ht : Turn (fun q => q = g) w wr) : Below (syW w g m tg T clock).heap.size (syW w g m tg T clock) { wr with heap := wr.heap.setIfInBounds m (.map #[] clock) } := by
  have hcT : cur = T := by
    refine Array.ext (by omega) (fun i h3 h4 => ?_)
    have e : cur[i]? = T[i]? := by
      by_cases hc : ∃ x ∈ es.toList, seen.contains x.born = true ∧ Cov go x i
      · exact h1 i hc
      · rw [h2 i hc, hT0 i]
        rintro ⟨x, hx, hcx⟩
        exact hc ⟨x, hx, hall x hx, hcx⟩
    rw [Array.getElem?_eq_getElem h3, Array.getElem?_eq_getElem h4] at e
    exact Option.some.inj e
  subst hcT
  have hml := heap_at hm
  have hgl := heap_at kg
  have hne : m ≠ g := fun e => by
    unfold Blk at kg
    rw [e, kg] at hm
    cases hm
  have hms := ht.size
  refine ⟨ht.os, ht.tape, ht.output, by simp [syW]; exact hms, fun q hq => ?_⟩
  simp only [syW, Array.size_setIfInBounds] at hq
  simp only [syW]
  by_cases e1 : q = m
  · subst e1
    rw [Array.getElem?_setIfInBounds_self_of_lt (by omega), Array.getElem?_setIfInBounds_self_of_lt (by simp; omega)]
  · rw [Array.getElem?_setIfInBounds_ne (Ne.symm e1), Array.getElem?_setIfInBounds_ne (Ne.symm e1)]
    by_cases e2 : q = g
    · subst e2
      rw [Array.getElem?_setIfInBounds_self_of_lt (by omega)]
      exact kc
    · rw [Array.getElem?_setIfInBounds_ne (Ne.symm e2)]
      exact ht.block q hq e2
theorem sync_any (w : World) (d od g go n c m : Nat) (td tg : TypeId) (D G T : Array Value) (es : Array MapEntry) (clock : Nat)
    (kd : Blk w d td D) (hd0 : D[od]? = some (.slice (some ⟨g, go, none⟩) n c)) (hd1 : D[od + 1]? = some (.map (some m))) (hdg : d ≠ g)
    (kg : Blk w g tg G) (hm : w.heap[m]? = some (.map es clock)) (hT : T.size = G.size) (hT0 : ∀ i, (¬ ∃ x ∈ es.toList, Cov go x i) → T[i]? = G[i]?)
    (hes : ∀ x ∈ es.toList, ∃ (k : Nat) (us : List UInt8), SyE w g go n G T x k us) (hb : ∀ x ∈ es.toList, x.born < clock) (hnd : (es.toList.map (·.born)).Nodup) :
    Calls Tryz.prog 207 #[.pointer (some ⟨d, od, none⟩)] w fun e w' => e = .returned (.tuple #[]) ∧ Below (syW w g m tg T clock).heap.size (syW w g m tg T clock) w' := by
  have hml := heap_at hm
  have hgl := heap_at kg
  have hmg : m ≠ g := fun e => by
    unfold Blk at kg
    rw [e, kg] at hm
    cases hm
  have hmd : m ≠ d := fun e => by
    unfold Blk at kd
    rw [e, kd] at hm
    cases hm
  have HKD := hide (fun W (h : Turn (fun q => q = g) w W) => (show Blk W d td D from (h.block d (heap_at kd) hdg).trans kd))
  have HKM := hide (fun W (h : Turn (fun q => q = g) w W) => (show W.heap[m]? = some (.map es clock) from (h.block m hml hmg).trans hm))
  have HRN := hide (run_range_map (P := Tryz.prog) w 105 3 104 m es clock Tryz.underlying105 hm)
  have HD0 := hide hd0
  have HD1 := hide hd1
  have HES := hide hes
  have HB := hide hb
  have HND := hide hnd
  have HE := hide (fun (wr : World) (seen : Array Nat) (cur : Array Value) => sync_end (wr := wr) (seen := seen) (cur := cur) (go := go) kg hm hT hT0)
  have HT := hide hT
  have HGL := hide hgl
  have HST := hide (show SyI w g go m tg es clock G T (w.alloc (.mapIter (some m) clock #[] clock)) from
    ⟨#[], clock, G, heap_alloc_new _ _, Nat.le_refl _, kg.alloc _, rfl, fun i ⟨x, _, h, _⟩ => by simp at h, fun i _ => rfl, Turn.of_below ((Below.refl _ _).alloc (Nat.le_refl _) _)⟩)
  have q0 : w.cell? ⟨d, od, none⟩ = some _ := (kd.cell od).trans hd0
  have q1 : w.cell? ⟨d, od + 1, none⟩ = some _ := (kd.cell (od + 1)).trans hd1
  clear kd kg hm hT hT0 hes hb hnd hd0 hd1 hmd
  go_enter Tryz.func207, Tryz.ntmps207
  go_wp2_with (first
    | (refine wpList_range_raw rfl _ _ rfl _ _ rfl HRN.out ?_)
    | go_in)
  go_frame
  clear q0 q1
  go_loopw [2, 3] (fun _ _ wr => SyI w g go m tg es clock G T wr) (fun _ _ wr => wr.rangeLeft m w.heap.size)
  case atStart => exact HST.out
  case round =>
    obtain ⟨seen, c0, cur, hr, hc0, kc, hcs, h1, h2, ht⟩ := hrel
    have KC := hide kc
    have HR := hide hr
    have HTW := hide ht
    have HC1 := hide h1
    have HC2 := hide h2
    have HCS := hide hcs
    clear hr kc hcs h1 h2 ht
    go_wp2_with (first
      | (refine wpList_next_at rfl _ rfl w.heap.size m clock c0 seen es clock rfl HR.out (HKM.out _ HTW.out) HB.out hc0 ?_ ?_)
      | go_in)
    · intro h0
      have HEE := hide (HE.out _ seen cur (all_seen es seen h0) KC.out HCS.out HC1.out HC2.out HTW.out)
      have hm1 := HKM.out _ HTW.out
      have hd1 : wr.cell? ⟨d, od + 1, none⟩ = some _ := ((HKD.out _ HTW.out).cell (od + 1)).trans HD1.out
      have hcl : ∀ ty, (Builtin.clear_ #[105] ty #[.map (some m)]).run Tryz.prog wr = .ok (.tuple #[]) { wr with heap := wr.heap.setIfInBounds m (.map #[] clock) } := fun ty => by
        simp [Builtin.clear_, run_underlying Tryz.underlying105, getObj, setObj, Sem.run, hm1]
      clear h0 hm1
      go_wp2
      go_end0
      exact ⟨rfl, HEE.out⟩
    · intro x w1 hx hal
      obtain ⟨hxm, hxs⟩ := mem_left hx
      obtain ⟨k, us, hkey, hk1, hk2, hul, hut, b, o, l, cap, tb, cs, hval, hl0, hlm, hbg, kb, hcu⟩ := HES.out x hxm
      rw [hkey, hval]
      have hsh := left_shrinks es seen x hx
      refine nameW (w := setBlock _ _ _) (R := fun V => wpList _ _ _ _ _ V) (fun W2 hW2 => ?_)
      have hset := heap_set (o' := .mapIter (some m) clock (seen.push x.born) clock) (show w1.heap[w.heap.size]? = some (.mapIter (some m) clock seen c0) by rw [hal.1]; exact HR.out)
      have hset1 : W2.heap[w.heap.size]? = some (.mapIter (some m) clock (seen.push x.born) clock) := by rw [hW2]; exact hset.1
      have hset2 : ∀ q, q ≠ w.heap.size → W2.heap[q]? = w1.heap[q]? := fun q hq => by rw [hW2]; exact hset.2 q hq
      have hT1 : Turn (fun q => q = g) w w1 := ⟨hal.2.1.trans HTW.out.os, hal.2.2.1.trans HTW.out.tape, hal.2.2.2.trans HTW.out.output, by rw [hal.1]; exact HTW.out.size, fun q hq hn => by rw [hal.1]; exact HTW.out.block q hq hn⟩
      have hk3 : Blk w1 g tg cur := by unfold Blk; rw [hal.1]; exact KC.out
      have hT2 : Turn (fun q => q = g) w W2 := by
        rw [hW2] at hset2 ⊢
        exact ⟨hT1.os, hT1.tape, hT1.output, by simpa [setBlock] using hT1.size, fun q hq hn => (hset2 q (by omega)).trans (hT1.block q hq hn)⟩
      have hk4 : Blk W2 g tg cur := (hset2 g (by have := HGL.out; omega)).trans hk3
      have hen := run_entry_at (P := Tryz.prog) W2 w.heap.size m clock seen es clock x hset1 (HKM.out _ hT2) hxm HND.out
      rw [hkey, hval] at hen
      have HI2 := hide hset1
      have HT2 := hide hT2
      have KC2 := hide hk4
      clear hset hset1 hset2 hT1 hk3 hT2 hk4 hW2 hal hx
      have HUT := hide hut
      have HUL := hide hul
      have HKEY := hide hkey
      have HXM := hide hxm
      have HXS := hide hxs
      have HSH := hide hsh
      have HK2 := hide hk2
      have HKB := hide (fun W (h : Turn (fun q => q = g) w W) => (show Blk W b tb cs from (h.block b (heap_at kb) hbg).trans kb))
      have HCU := hide (fun W (kk : Blk W b tb cs) => (show W.rangeAt b (o + (l - 1) * 512) (us.map byteV) from fun i u hu => by rw [kk.cell]; exact hcu i u hu))
      have HSI := hide (show (Tryz.prog.info? 63).map (·.size) = some (us.map byteV).length by rw [List.length_map, hul]; exact info_pg)
      have HS2 := hide (show (Tryz.prog.info? 63).map (·.size) = some (us.map byteV).toArray.size by rw [List.size_toArray, List.length_map, hul]; exact info_pg)
      have a0 : (0 : Int) ≤ k := by omega
      have a1 : (k : Int) < n := by omega
      have b1 : (0 : Int) ≤ (l : Int) - 1 := by omega
      have b2 : (l : Int) - 1 < l := by omega
      have b3 : ((l : Int) - 1).toNat = l - 1 := by omega
      clear hkey hval hsh hut hul hk2 kb hcu hxm hxs hk1 hbg
      go_upto_region 3 with (fail)
      clear hen
      refine wp_region_inv_tail 12 [fun v _ => v = .pointer (some ⟨d, od, none⟩), fun v _ => v = .pointer (some ⟨d, od, none⟩), fun v _ => v = .pointer (some ⟨d, od, none⟩), fun v _ => v = .slice (some ⟨g, go, none⟩) n c, fun v _ => v = .int .i64 (k : Nat), fun v _ => v = .slice (some ⟨b, o, none⟩) l cap, fun v _ => v = .slice (some ⟨b, o, none⟩) l cap, fun v _ => v = .int .i64 (l : Nat), fun v _ => v = .int .i64 ((l : Int) - 1), fun v _ => v = .pointer (some ⟨b, o + (l - 1) * 512, none⟩), fun v _ => v = .agg (us.map byteV).toArray, fun v _ => v = .pointer (some ⟨g, go + k * 512, none⟩)] (by kernel_rfl) (by kernel_rfl) (by kernel_rfl) (by kernel_rfl) (by kernel_rfl) (by first | simp | decide) (by kernel_rfl) ?st ?steps ?fin
      case st =>
        intro i v W W' hWW h
        match i with
        | 0 | 1 | 2 | 3 | 4 | 5 | 6 | 7 | 8 | 9 | 10 | 11 => exact h
        | (i + 12) => exact h
      case steps =>
        simp only [stepsT, List.take_succ_cons, List.take_zero]
        refine ⟨?_, ?_, ?_, ?_, ?_, ?_, ?_, ?_, ?_, ?_, ?_, ?_, trivial⟩
        · intro f W hbW hdp
          simp only [fS, Nat.reduceAdd]
          go_wp2
          exact ⟨rfl, _, rfl, rfl, Below.refl _ _⟩
        · intro f W hbW hdp
          have e0 : f 0 = .pointer (some ⟨d, od, none⟩) := hdp ⟨0, .data⟩ (mfl (by simp) rfl)
          simp only [fS, Nat.reduceAdd, e0]
          go_wp2
          exact ⟨rfl, _, rfl, rfl, Below.refl _ _⟩
        · intro f W hbW hdp
          have e1 : f 1 = .pointer (some ⟨d, od, none⟩) := hdp ⟨1, .data⟩ (mfl (by simp) rfl)
          simp only [fS, Nat.reduceAdd, e1]
          go_wp2
          exact ⟨rfl, _, rfl, rfl, Below.refl _ _⟩
        · intro f W hbW hdp
          have e2 : f 2 = .pointer (some ⟨d, od, none⟩) := hdp ⟨2, .data⟩ (mfl (by simp) rfl)
          have q : W.cell? ⟨d, od, none⟩ = some _ := ((HKD.out W (HT2.out.trans (Turn.of_below hbW))).cell od).trans HD0.out
          simp only [fS, Nat.reduceAdd, e2]
          go_wp2
          exact ⟨rfl, _, rfl, rfl, Below.refl _ _⟩
        · intro f W hbW hdp
          simp only [fS, Nat.reduceAdd]
          go_wp2
          exact ⟨rfl, _, rfl, rfl, Below.refl _ _⟩
        · intro f W hbW hdp
          simp only [fS, Nat.reduceAdd]
          go_wp2
          exact ⟨rfl, _, rfl, rfl, Below.refl _ _⟩
        · intro f W hbW hdp
          simp only [fS, Nat.reduceAdd]
          go_wp2
          exact ⟨rfl, _, rfl, rfl, Below.refl _ _⟩
        · intro f W hbW hdp
          have e6 : f 6 = .slice (some ⟨b, o, none⟩) l cap := hdp ⟨6, .data⟩ (mfl (by simp) rfl)
          simp only [fS, Nat.reduceAdd, e6]
          go_wp2
          exact ⟨rfl, _, rfl, rfl, Below.refl _ _⟩
        · intro f W hbW hdp
          have e7 : f 7 = .int .i64 (l : Nat) := hdp ⟨7, .data⟩ (mfl (by simp) rfl)
          simp only [fS, Nat.reduceAdd, e7]
          go_wp2
          exact ⟨rfl, _, rfl, rfl, Below.refl _ _⟩
        · intro f W hbW hdp
          have e5 : f 5 = .slice (some ⟨b, o, none⟩) l cap := hdp ⟨5, .data⟩ (mfl (by simp) rfl)
          have e8 : f 8 = .int .i64 ((l : Int) - 1) := hdp ⟨8, .data⟩ (mfl (by simp) rfl)
          simp only [fS, Nat.reduceAdd, e5, e8]
          go_wp2
          exact ⟨rfl, _, rfl, rfl, Below.refl _ _⟩
        · intro f W hbW hdp
          have e9 : f 9 = .pointer (some ⟨b, o + (l - 1) * 512, none⟩) := hdp ⟨9, .data⟩ (mfl (by simp) rfl)
          simp only [fS, Nat.reduceAdd, e9]
          refine wpList_load_mid rfl 63 (.tmp 23) rfl b (o + (l - 1) * 512) rfl (us.map byteV) _ (HCU.out W (HKB.out W (HT2.out.trans (Turn.of_below hbW)))) Tryz.underlying63 rfl HSI.out ?_
          exact ⟨rfl, _, rfl, rfl, Below.refl _ _⟩
        · intro f W hbW hdp
          have e3 : f 3 = .slice (some ⟨g, go, none⟩) n c := hdp ⟨3, .data⟩ (mfl (by simp) rfl)
          have e4 : f 4 = .int .i64 (k : Nat) := hdp ⟨4, .data⟩ (mfl (by simp) rfl)
          simp only [fS, Nat.reduceAdd, e3, e4]
          go_wp2
          exact ⟨rfl, _, rfl, rfl, Below.refl _ _⟩
      case fin =>
        intro f W hbW hA
        have e10 : f 10 = .agg (us.map byteV).toArray := hA 10 (by omega)
        have e11 : f 11 = .pointer (some ⟨g, go + k * 512, none⟩) := hA 11 (by omega)
        simp only [List.drop_succ_cons, List.drop_zero, List.take_succ_cons, List.take_zero, fillF, Act.put, List.setIfInBounds_toArray, List.set_cons_succ, List.set_cons_zero, Nat.reduceAdd, e10, e11]
        clear hA e10 e11
        have kc3 := Blk.via hbW KC2.out
        have hul := HUL.out
        have hk2 := HK2.out
        have hcs := HCS.out
        refine wpList_store_mid rfl 63 (.tmp 25) (.tmp 24) rfl g (go + k * 512) (us.map byteV).toArray rfl rfl (by
          rw [List.size_toArray, List.length_map, hul]
          intro i hi
          exact ⟨by rw [kc3.cell, Array.getElem?_eq_getElem (show go + k * 512 + i < cur.size by omega)]; rfl, kc3.frozen _⟩) HS2.out (all_oneCell_toArray (bytes_one _)) ?_
        refine nameW (w := World.setCells _ _ _ _) (R := fun V => wpList _ _ _ _ _ V) (fun W4 hW4 => ?_)
        have hk4 : Blk W4 g tg (setL cur (go + k * 512) (us.map byteV)) := by
          rw [hW4]
          exact setCells_blk _ _ _ _ kc3
        have hT4 : Turn (fun q => q = g) W W4 := by
          rw [hW4]
          exact setCells_turn (S := fun q => q = g) rfl _ _ _ _ (Turn.of_below (Below.refl _ _))
        have hI4 : W4.heap[w.heap.size]? = some (.mapIter (some m) clock (seen.push x.born) clock) := by
          have hI2 := HI2.out
          have hlt := heap_at hI2
          rw [hT4.block w.heap.size (by have := hbW.size; omega) (by have := HGL.out; omega), hbW.block _ hlt]
          exact hI2
        have hTW := (HT2.out.trans (Turn.of_below hbW)).trans hT4
        clear hW4 kc3 hbW
        dsimp only [Act.put]
        go_wp2
        go_roundw
        case rel =>
          obtain ⟨g1, g2, g3⟩ := setL_spec (us.map byteV) cur (go + k * 512) (by rw [List.length_map]; omega)
          rw [List.length_map, hul] at g2
          refine ⟨seen.push x.born, clock, _, hI4, Nat.le_refl _, hk4, by rw [g1]; exact hcs, fun i hi => ?_, fun i hi => ?_, hTW⟩
          · obtain ⟨y, hy, hys, hyc⟩ := hi
            by_cases hin : go + k * 512 ≤ i ∧ i < go + k * 512 + 512
            · obtain ⟨j, rfl⟩ : ∃ j, i = go + k * 512 + j := ⟨i - (go + k * 512), by omega⟩
              have hj : (us.map byteV)[j]? = some ((us.map byteV)[j]'(by rw [List.length_map]; omega)) := List.getElem?_eq_getElem _
              rw [g3 j _ hj, HUT.out j _ hj]
            · rw [g2 i (by omega)]
              refine HC1.out i ⟨y, hy, ?_, hyc⟩
              rw [contains_push, Bool.or_eq_true] at hys
              rcases hys with h | h
              · exact h
              · exfalso
                obtain rfl := born_inj HND.out hy HXM.out (eq_of_beq h)
                obtain ⟨k', e1, e2, e3⟩ := hyc
                rw [HKEY.out] at e1
                injection e1 with _ e1
                exact hin (by omega)
          · have hxin : (seen.push x.born).contains x.born = true := by rw [contains_push]; simp
            rw [g2 i (by
              rcases Nat.lt_or_ge i (go + k * 512) with h | h
              · exact .inl h
              · rcases Nat.lt_or_ge i (go + k * 512 + 512) with h' | h'
                · exact absurd ⟨x, HXM.out, hxin, k, HKEY.out, h, h'⟩ hi
                · exact .inr h')]
            refine HC2.out i (fun ⟨y, hy, hys, hyc⟩ => hi ⟨y, hy, ?_, hyc⟩)
            rw [contains_push, hys]
            rfl
        case measure =>
          have e1 : wr.rangeLeft m w.heap.size = (leftOf es seen).size := by simp only [World.rangeLeft, HKM.out _ HTW.out, HR.out]
          have e2 : W4.rangeLeft m w.heap.size = (leftOf es (seen.push x.born)).size := by simp only [World.rangeLeft, HKM.out _ hTW, hI4]
          rw [e1, e2]
          exact HSH.out
end Go.Proofs.YtnanlaefehaifaaGreat.Vm
namespace Go.Proofs.YtnanlaefehaifaaGreat
open Go.RowKit Go.Shelf Go.Maps
def withB (p : List UInt8) (at_ width : Nat) (n : Int) : List UInt8 := p.take at_ ++ (beB width n ++ p.drop (at_ + width))
theorem withB_length {p : List UInt8} (hl : p.length = 512) {at_ width : Nat} (hin : at_ + width ≤ 512) (n : Int) : (withB p at_ width n).length = 512 := by
  unfold withB
  rw [List.length_append, List.length_append, List.length_take, beB_length, List.length_drop, hl]
  omega
theorem withB_spl {p : List UInt8} {at_ width : Nat} {n : Int} : spl (p.map byteV) at_ ((beB width n).map byteV) = (withB p at_ width n).map byteV := by
  unfold spl withB
  rw [List.map_append, List.map_append, List.map_take, List.map_drop, List.length_map, beB_length]
theorem pWith_any (p : List UInt8) (hl : p.length = 512) (at_ width : Nat) (n : Int) (h1 : 1 ≤ width) (h8 : width ≤ 8) (hin : at_ + width ≤ 512) (w : World) :
    Calls Tryz.prog 204 #[pgV p, .int .i64 (at_ : Nat), .int .i64 (width : Nat), .int .i64 n] w fun e w' => e = .returned (pgV (withB p at_ width n)) ∧ Below w.heap.size w w' := by
  have HPU := hide (fun W => put_nil width n W h1 h8)
  have HL := hide hl
  have hwl := withB_length hl hin n
  have HRI := hide (show (Tryz.prog.info? 63).map (·.size) = some (((withB p at_ width n).map byteV).toArray).size by rw [pg_size _ hwl]; exact info_pg)
  have HRZ := hide (show Tryz.zeroCells63.size = (((withB p at_ width n).map byteV).toArray).size by rw [pg_size _ hwl]; exact zeros_page)
  have HR1 := hide (row_one (withB p at_ width n))
  have HZS := hide (show spl (p.map byteV) at_ ((beB width n).map byteV) = (withB p at_ width n).map byteV from withB_spl)
  obtain ⟨X, hX⟩ : ∃ X, X = (p.map byteV).toArray := ⟨_, rfl⟩
  have HX := hide hX
  have hsz : X.size = 512 := by rw [hX]; exact pg_size p hl
  have HCP := hide (show (p.map byteV).length = 512 by rw [List.length_map, hl])
  unfold pgV
  rw [← hX]
  generalize hY : ((withB p at_ width n).map byteV).toArray = Y at *
  have HY := hide hY
  have i1 : (0 : Int) ≤ at_ := by omega
  have i2 : (at_ : Int) + width ≤ 512 := by omega
  have i3 : (0 : Int) ≤ (at_ : Int) + width := by omega
  have i4 : (at_ : Int) ≤ (at_ : Int) + width := by omega
  have i5 : ((at_ : Int) + width).toNat = at_ + width := by omega
  have i6 : at_ + width - at_ = width := by omega
  have i7 : ¬ (512 = at_) := by omega
  clear hX hl hwl hY
  go_enter Tryz.func204, Tryz.ntmps204
  go_upto_region 1 with (fail)
  refine gen2 (R := fun W => Code.wp _ _ _ _ W) (fun W1 kB kR hb1 hz1 => ?_)
  have HKB := hide kB
  have HKR := hide kR
  have HB1 := hide hb1
  clear kB kR hb1
  refine wp_region_inv_tail 8 [fun v _ => v = .int .i64 ((at_ : Nat) : Int), fun v _ => v = .int .i64 ((at_ : Nat) : Int), fun v _ => v = .int .i64 ((width : Nat) : Int), fun v _ => v = .int .i64 ((at_ : Int) + width), fun v _ => v = .slice (some ⟨w.heap.size, at_, none⟩) width (512 - at_), fun v _ => v = .int .i64 ((width : Nat) : Int), fun v _ => v = .int .i64 n, fun v W => ∃ g c, v = .slice (some ⟨g, 0, none⟩) width c ∧ OwnB W W1.heap.size v (beB width n)] (by kernel_rfl) (by kernel_rfl) (by kernel_rfl) (by kernel_rfl) (by kernel_rfl) (by first | simp | decide) (by kernel_rfl) ?st ?steps ?fin
  case st =>
    intro i v W W' hWW h
    match i with
    | 0 | 1 | 2 | 3 | 4 | 5 | 6 => exact h
    | 7 => obtain ⟨g, c, h1, h2⟩ := h; exact ⟨g, c, h1, h2.via hWW⟩
    | (i + 8) => exact h
  case steps =>
    simp only [stepsT, List.take_succ_cons, List.take_zero]
    refine ⟨?_, ?_, ?_, ?_, ?_, ?_, ?_, ?_, trivial⟩
    · intro f W hbW hdp
      simp only [fS, Nat.reduceAdd]
      go_wp2
      exact ⟨rfl, _, rfl, rfl, Below.refl _ _⟩
    · intro f W hbW hdp
      simp only [fS, Nat.reduceAdd]
      go_wp2
      exact ⟨rfl, _, rfl, rfl, Below.refl _ _⟩
    · intro f W hbW hdp
      simp only [fS, Nat.reduceAdd]
      go_wp2
      exact ⟨rfl, _, rfl, rfl, Below.refl _ _⟩
    · intro f W hbW hdp
      have e1 : f 1 = .int .i64 ((at_ : Nat) : Int) := hdp ⟨1, .data⟩ (mfl (by simp) rfl)
      have e2 : f 2 = .int .i64 ((width : Nat) : Int) := hdp ⟨2, .data⟩ (mfl (by simp) rfl)
      simp only [fS, Nat.reduceAdd, e1, e2]
      go_wp2
      exact ⟨rfl, _, rfl, rfl, Below.refl _ _⟩
    · intro f W hbW hdp
      have e0 : f 0 = .int .i64 ((at_ : Nat) : Int) := hdp ⟨0, .data⟩ (mfl (by simp) rfl)
      have e3 : f 3 = .int .i64 ((at_ : Int) + width) := hdp ⟨3, .data⟩ (mfl (by simp) rfl)
      simp only [fS, Nat.reduceAdd, e0, e3]
      go_wp2
      exact ⟨rfl, _, rfl, rfl, Below.refl _ _⟩
    · intro f W hbW hdp
      simp only [fS, Nat.reduceAdd]
      go_wp2
      exact ⟨rfl, _, rfl, rfl, Below.refl _ _⟩
    · intro f W hbW hdp
      simp only [fS, Nat.reduceAdd]
      go_wp2
      exact ⟨rfl, _, rfl, rfl, Below.refl _ _⟩
    · intro f W hbW hdp
      have e5 : f 5 = .int .i64 ((width : Nat) : Int) := hdp ⟨5, .data⟩ (mfl (by simp) rfl)
      have e6 : f 6 = .int .i64 n := hdp ⟨6, .data⟩ (mfl (by simp) rfl)
      simp only [fS, Nat.reduceAdd, e5, e6]
      go_wp2_with (go_at_call 113; refine (HPU.out _).mono ?_; rintro e w' ⟨g, c, rfl, ho, hb'⟩)
      exact ⟨rfl, _, rfl, ⟨g, c, rfl, ho.low hbW.size⟩, hb'⟩
  case fin =>
    intro f W hbW hA
    have a7 : ∃ g c, (f 7) = .slice (some ⟨g, 0, none⟩) width c ∧ OwnB W W1.heap.size (f 7) (beB width n) := hA 7 (by omega)
    have e4 : f 4 = .slice (some ⟨w.heap.size, at_, none⟩) width (512 - at_) := hA 4 (by omega)
    simp only [List.drop_succ_cons, List.drop_zero, List.take_succ_cons, List.take_zero, fillF, Act.put, List.setIfInBounds_toArray, List.set_cons_succ, List.set_cons_zero, Nat.reduceAdd, e4]
    clear hA e4
    obtain ⟨g, c, h7, ho⟩ := a7
    simp only [h7] at ho ⊢
    clear h7
    have kB := Blk.via hbW HKB.out
    rw [HX.out] at kB
    obtain ⟨bb, oo, hA, _, hcell⟩ := (Reads.of_own (show W.ownsRow W1.heap.size 5 1 (.slice (some ⟨g, 0, none⟩) width c) width ((beB width n).map byteV) by have h := ho; unfold OwnB at h; rw [beB_length] at h; exact h)).plain (by omega) (by omega)
    injection hA with hA
    injection hA with hA1 hA2
    subst hA1 hA2
    refine wpList_copy_blk rfl _ _ _ _ rfl 5 1 Tryz.underlying33 size_u8 w.heap.size at_ 63 (p.map byteV) ((beB width n).map byteV) width (512 - at_) width c ⟨g, 0, none⟩ rfl rfl kB (by rw [List.length_map, beB_length, Nat.mul_one]; exact (Nat.min_self _).symm) (fun j v hj => by rw [add_plain]; exact hcell j v hj) (by rw [List.length_map, beB_length, HCP.out]; omega) (bytes_one _) ?_
    intro v' W5 hk5 ht5
    rw [HZS.out, HY.out] at hk5
    have hb5 : Below w.heap.size w W5 := ht5.below (HB1.out.trans (hbW.mono HB1.out.size)) (Nat.le_refl _)
    have HK5 := hide hk5
    have HKR5 := hide (ht5.blk (Blk.via hbW HKR.out) (by omega))
    have HL5 := hide hb5
    clear kB hk5 ht5 hb5 hbW ho hcell
    go_wp2_with (first
      | (refine wpList_load_row rfl 63 (.tmp 4) rfl w.heap.size rfl 63 Y (0, 0) _ HK5.out Tryz.underlying63 rfl HRI.out ?_)
      | (refine wpList_store_row rfl 63 (.tmp 8) (.tmp 18) rfl (w.heap.size + 1) Y rfl rfl 63 _ HKR5.out HRI.out HRZ.out HR1.out ?_))
    refine bodyPost_ret (results_cell_row Tryz.results204 _ _ (w.heap.size + 1) 63 Y (0, 0) _ rfl (setRow_heap _ (w.heap.size + 1) _ _ _ _ HKR5.out) Tryz.underlying63 rfl HRI.out) rfl ⟨rfl, ?_⟩
    exact (touch_setRow _ (w.heap.size + 1) Y).below HL5.out (Nat.le_succ _)
end Go.Proofs.YtnanlaefehaifaaGreat
