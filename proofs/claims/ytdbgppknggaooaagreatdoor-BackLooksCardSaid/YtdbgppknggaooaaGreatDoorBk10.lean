/-
  Texts of this claim, joined: VV, VW, VX, VY, VZ, YA, YB.
-/
import Derived.OrdersIn
import Derived.Test.YtdbgppknggaooaaGreatDoorBk09
set_option maxHeartbeats 6400000
set_option maxRecDepth 100000
namespace Go.Proofs.YtdbgppknggaooaaGreatDoor.Vm
open Go
def Quiet (w w' : World) : Prop := w'.heap = w.heap ∧ w'.os = w.os ∧ w'.tape = w.tape ∧ w'.output = w.output
structure ActR (ρ : Ren) (a : AAct) (act : Act) : Prop where
  t : TRel ρ a.t a.n act.tmps
  d : DRel ρ a.d act.defers
def FOf (ρ : Ren) (rnd : Option Nat) (F : Fence) : Prop :=
  match rnd with
  | none => F = Fence.wide
  | some l => ∃ p, ρ l = some p ∧ F = Fence.wide.inRound p.1
def Ret (s s' : St) (ρ : Ren) (w : World) (v : AV) (e : Ending) (w' : World) : Prop := ∃ ρ' u, e = .returned u ∧ VRel ρ' v u ∧ WRel ρ' s'.h w' ∧ Stp s s' ρ ρ' w w'
inductive ExR : AExit → Exit → Prop
  | normal : ExR .normal .normal
  | exit (i : Nat) : ExR (.exit i) (.exit i)
  | ret : ExR .ret .ret
def Left (s s' : St) (ρ : Ren) (w : World) (q : AExit × AAct) (e : Exit) (act' : Act) (w' : World) : Prop := ∃ ρ', ExR q.1 e ∧ ActR ρ' q.2 act' ∧ WRel ρ' s'.h w' ∧ Stp s s' ρ ρ' w w'
def CodeOK (P : Program) (rnd : Option Nat) (c : Code) (a : AAct) (s : St) (q : AExit × AAct) (s' : St) : Prop :=
  ∀ (ρ : Ren) (w : World) (act : Act) (F : Fence) (n : Nat), FOf ρ rnd F → WRel ρ s.h w → FreshN ρ s.c s'.c → ActR ρ a act → c.wpIn F n P (Left s s' ρ w q) act w
def Enters (P : Program) (f : FuncId) : Prop := ∀ (args : Array Value) (w : World), (callFunc f args).run P w = .ok (.enter f args) w
def CallOK (P : Program) (f : FuncId) (args : List AV) (s : St) (v : AV) (s' : St) : Prop :=
  ∀ (ρ : Ren) (w : World) (us : Array Value) (n : Nat), WRel ρ s.h w → FreshN ρ s.c s'.c → LRel ρ args us.toList → CallsIn Fence.wide n P f us w (Ret s s' ρ w v)
def CallDOK (P : Program) (f : FuncId) (args : List AV) (s : St) (v : AV) (s' : St) : Prop :=
  ∀ (ρ : Ren) (w : World) (us : Array Value) (n : Nat), WRel ρ s.h w → FreshN ρ s.c s'.c → LRel ρ args us.toList → CallsDIn Fence.wide n P f us .returning w (fun e u' w' => u' = .returning ∧ Ret s s' ρ w v e w')
structure EvOK (P : Program) (ev : Ev) : Prop where
  call : ∀ f args s v s', ev.call f args s = .ok v s' → Enters P f ∧ CallOK P f args s v s'
  callD : ∀ f args s v s', ev.callD f args s = .ok v s' → Enters P f ∧ CallDOK P f args s v s'
  code : ∀ rnd c a s q s', ev.code rnd c a s = .ok q s' → CodeOK P rnd c a s q s'
structure EnvAll (E : Env) (P : Program) : Prop extends EnvOK E P where
  meth : ∀ t m g, findMeth E.meth t m = some g → ∀ (v : Value) (w : World), (method (P.types.size + Made.depth) t v m).run P w = .ok (g, v) w
  calm : ∀ g, isCalm g E.calm = true → Enters P g ∧ ∀ (args : Array Value) (w : World) (n : Nat), CallsDIn Fence.wide n P g args .returning w (fun e u' w' => (∃ v, e = .returned v) ∧ u' = .returning ∧ Quiet w w')
  orc : ∀ f o, E.orc.get f = some o → Enters P f ∧ ∀ args s v s', o args s = .ok v s' → CallOK P f args s v s'
  orcLoc : OrcLoc E
section
variable {P : Program} {s s' s1 : St} {ρ ρ' : Ren} {w w' : World} {F : Fence} {n : Nat}
theorem FOf.wide {rnd : Option Nat} (h : FOf ρ rnd F) {f : FuncId} {args : Array Value} {R : Ending → World → Prop} {m : Nat} (hc : CallsIn Fence.wide m P f args w R) : CallsIn F m P f args w R := by
  unfold FOf at h
  cases rnd with
  | none => rw [h]; exact hc
  | some l => obtain ⟨p, _, rfl⟩ := h; exact hc
theorem FOf.fn {rnd : Option Nat} (h : FOf ρ rnd F) (f : FuncId) : F.fn f := by
  unfold FOf at h
  cases rnd with
  | none => rw [h]; trivial
  | some l => obtain ⟨p, _, rfl⟩ := h; trivial
theorem FOf.depth {rnd : Option Nat} (h : FOf ρ rnd F) : F.depth.isSome = true → 1 ≤ n := by
  unfold FOf at h
  cases rnd with
  | none => rw [h]; exact fun e => by cases e
  | some l => obtain ⟨p, _, rfl⟩ := h; exact fun e => by cases e
theorem FOf.mono (hl : ρ.le ρ') {rnd : Option Nat} (h : FOf ρ rnd F) : FOf ρ' rnd F := by
  unfold FOf at h ⊢
  cases rnd with
  | none => exact h
  | some l => obtain ⟨p, h1, h2⟩ := h; exact ⟨p, hl _ _ h1, h2⟩
theorem FOf.wideRound {rnd : Option Nat} (h : FOf ρ rnd F) {l : Nat} {f : FuncId} {tmps : Array Value} {az bd : Code} {R : Ending → World → Prop} {m : Nat} (hc : RoundIn Fence.wide m P l f tmps az bd w R) : RoundIn F m P l f tmps az bd w R := by
  unfold FOf at h
  cases rnd with
  | none => rw [h]; exact hc
  | some l => obtain ⟨p, _, rfl⟩ := h; exact hc
theorem ActR.mono (hl : ρ.le ρ') {a : AAct} {act : Act} (h : ActR ρ a act) : ActR ρ' a act := ⟨h.t.mono hl, h.d.mono hl⟩
theorem undef_rel : VRel ρ undefA undef := ⟨#[], rfl, by simp [LRel]⟩
theorem slotA_put (T : Tr AV) (d k : Nat) (v : AV) : slotA (T.put d (some v)) k = if k = d then v else slotA T k := by
  unfold slotA
  rw [Tr.get_put]
  by_cases h : k = d
  · rw [if_pos h, if_pos h]
  · rw [if_neg h, if_neg h]
theorem getD_set (xs : Array Value) (d k : Nat) (u : Value) (h : d < xs.size) : (xs.setIfInBounds d u).getD k undef = if k = d then u else xs.getD k undef := by
  rw [Array.getD_eq_getD_getElem?, Array.getD_eq_getD_getElem?, Array.getElem?_setIfInBounds]
  by_cases e : k = d
  · subst e
    rw [if_pos rfl, if_pos rfl, if_pos h]
    rfl
  · rw [if_neg (fun e' => e e'.symm), if_neg e]
theorem TRel.put {T : Tr AV} {m : Nat} {tmps : Array Value} {d : Nat} {v : AV} {u : Value} (h : TRel ρ T m tmps) (hd : d < m) (hv : VRel ρ v u) : TRel ρ (T.put d (some v)) m (tmps.setIfInBounds d u) := by
  refine ⟨by rw [Array.size_setIfInBounds]; exact h.1, fun k => ?_⟩
  rw [slotA_put, getD_set _ _ _ _ (by rw [h.1]; exact hd)]
  split
  · exact hv
  · exact h.2 k
theorem putA_rel {a a' : AAct} {act : Act} {dst : Option Tmp} {v : AV} {u : Value} (h : putA a dst v s = .ok a' s') (ha : ActR ρ a act) (hv : VRel ρ v u) : s' = s ∧ ActR ρ a' (act.put dst u) := by
  unfold putA at h
  cases dst with
  | none =>
    obtain ⟨rfl, rfl⟩ := M.pure_ok.1 h
    exact ⟨rfl, ha⟩
  | some d =>
    obtain ⟨T, m, ds⟩ := a
    simp only at h
    cases hb : Nat.blt d m with
    | false => rw [bif_false _ _ hb] at h; exact (M.fail_ok.1 h).elim
    | true =>
      rw [bif_true _ _ hb] at h
      obtain ⟨rfl, rfl⟩ := M.pure_ok.1 h
      exact ⟨rfl, ha.t.put (blt_true.1 hb) hv, ha.d⟩
theorem wanted_rel {ops : Array Oper} {o : Oper} {T : Tr AV} {m : Nat} {act : Act} {b : Bool} (h : wantedA (guardC ops.toList o) T s = .ok b s') (hT : TRel ρ T m act.tmps) : s' = s ∧ Region.wanted o (yielded ops act.tmps) = b := by
  unfold guardC at h
  unfold Region.wanted
  cases hg : o.guard with
  | none =>
    rw [hg] at h
    obtain ⟨rfl, rfl⟩ := M.pure_ok.1 h
    exact ⟨rfl, rfl⟩
  | some g =>
    rw [hg] at h
    simp only [Array.getElem?_toList] at h
    cases hp : ops[g.1]? with
    | none => simp only [hp] at h; exact ((M.fail_ok (e := "guard") (s := s)).1 h).elim
    | some p =>
      rw [hp] at h
      simp only at h
      cases hd : p.dst with
      | none => simp only [hd] at h; exact ((M.fail_ok (e := "guard") (s := s)).1 h).elim
      | some d =>
        rw [hd] at h
        obtain ⟨x, s1, h1, h2⟩ := M.bind_ok.1 h
        obtain ⟨hx, rfl⟩ := M.of_ok.1 h1
        obtain ⟨rfl, rfl⟩ := M.pure_ok.1 h2
        refine ⟨rfl, ?_⟩
        have hv := hT.2 d
        unfold wantO at hx
        split at hx
        · rename_i x0 hsl
          rw [hsl] at hv
          have hv : act.tmps.getD d undef = .bool x0 := hv
          have hget : act.tmps[d]? = some (.bool x0) := by
            rw [Array.getD_eq_getD_getElem?] at hv
            cases ht : act.tmps[d]? with
            | none => rw [ht] at hv; cases hv
            | some y => rw [ht] at hv; rw [show y = Value.bool x0 from hv]
          injection hx with hx
          subst hx
          obtain ⟨gj, gw⟩ := g
          simp only at hp ⊢
          simp only [yielded, hp, Option.bind_some, hd, hget]
          cases x0 <;> cases gw <;> rfl
        · rename_i l hsl
          rw [hsl] at hv
          split at hx
          · injection hx with hx
            subst hx
            obtain ⟨xs, hv, hl⟩ := hv
            obtain rfl : xs = #[] := Array.ext' (LRel.nil_iff.1 hl)
            obtain ⟨gj, gw⟩ := g
            simp only at hp ⊢
            rw [Array.getD_eq_getD_getElem?] at hv
            cases ht : act.tmps[d]? with
            | none =>
              simp only [yielded, hp, Option.bind_some, hd, ht]
              rfl
            | some y =>
              rw [ht] at hv
              obtain rfl : y = .tuple #[] := hv
              simp only [yielded, hp, Option.bind_some, hd, ht]
              rfl
          · cases hx
        · cases hx
theorem defer_only {E : Env} {c : Call} {f : Tr AV → M ANext} {T : Tr AV} {x : ANext} (ho : opC E (.defer c) = .simp f) (h : f T s = .ok x s') : ∃ d, x = .defer d := by
  simp only [opC] at ho
  obtain ⟨callee, args, argTypes⟩ := c
  unfold deferC at ho
  cases callee with
  | value y =>
    obtain rfl := (OpC.inj ho).symm
    obtain ⟨_, _, _, h⟩ := M.bind_ok.1 h
    obtain ⟨_, _, _, h⟩ := M.bind_ok.1 h
    obtain ⟨q, _, _, h⟩ := M.bind_ok.1 h
    exact ⟨_, (M.pure_ok.1 h).1⟩
  | builtin b =>
    obtain rfl := (OpC.inj ho).symm
    exact (M.fail_ok.1 h).elim
  | invoke y m =>
    obtain rfl := (OpC.inj ho).symm
    exact (M.fail_ok.1 h).elim
theorem call_form {E : Env} {o : Op} {x : Opd} {args : List Opd} (ho : opC E o = .call x args) : ∃ y az ts, o = .call { callee := .value y, args := az, argTypes := ts } ∧ x = opd y ∧ args = opds az.toList := by
  cases o <;> simp only [opC] at ho
  all_goals first
    | (cases ho; done)
    | skip
  case makeFunc fn y z => unfold funC at ho; cases fn <;> cases ho
  case makeMap ty r => unfold mapC at ho; cases r <;> cases ho
  case next y b => unfold nextC at ho; cases b <;> cases ho
  case call c =>
    obtain ⟨callee, az, ts⟩ := c
    unfold callC at ho
    cases callee with
    | builtin b => cases ho
    | value y =>
      simp only [OpC.call.injEq] at ho
      exact ⟨y, az, ts, rfl, ho.1.symm, ho.2.symm⟩
    | invoke y m => cases ho
  case defer c =>
    obtain ⟨callee, az, ts⟩ := c
    unfold deferC at ho
    cases callee <;> cases ho
theorem meth_form {E : Env} {o : Op} {x : Opd} {m : String} {args : List Opd} (ho : opC E o = .meth x m args) : ∃ y az ts, o = .call { callee := .invoke y m, args := az, argTypes := ts } ∧ x = opd y ∧ args = opds az.toList := by
  cases o <;> simp only [opC] at ho
  all_goals first
    | (cases ho; done)
    | skip
  case makeFunc fn y z => unfold funC at ho; cases fn <;> cases ho
  case makeMap ty r => unfold mapC at ho; cases r <;> cases ho
  case next y b => unfold nextC at ho; cases b <;> cases ho
  case call c =>
    obtain ⟨callee, az, ts⟩ := c
    unfold callC at ho
    cases callee with
    | builtin b => cases ho
    | value y => cases ho
    | invoke y m' =>
      simp only [OpC.meth.injEq] at ho
      obtain ⟨h1, rfl, h3⟩ := ho
      exact ⟨y, az, ts, rfl, h1.symm, h3.symm⟩
  case defer c =>
    obtain ⟨callee, az, ts⟩ := c
    unfold deferC at ho
    cases callee <;> cases ho
end
end Go.Proofs.YtdbgppknggaooaaGreatDoor.Vm
namespace Go.Proofs.YtdbgppknggaooaaGreatDoor.Vm
open Go
section
variable {P : Program} {s s' s0 s1 s2 : St} {ρ ρ' ρ0 : Ren} {w w' w0 : World} {F : Fence} {n : Nat}
theorem Left.pre {q : AExit × AAct} {e : Exit} {act : Act} (h0 : Stp s0 s ρ0 ρ w0 w) (h1 : s0.c ≤ s.c) (h2 : s.c ≤ s'.c) (h : Left s s' ρ w q e act w') : Left s0 s' ρ0 w0 q e act w' := by
  obtain ⟨ρ', g1, g2, g3, g4⟩ := h
  exact ⟨ρ', g1, g2, g3, Stp.trans h0 g4 h1 h2⟩
theorem Loc.le {α : Type} {m : M α} (hm : Loc m) {a : α} (h : m s = .ok a s') : s.c ≤ s'.c := by
  obtain ⟨_, _, _, _⟩ := s
  obtain ⟨_, _, _, _⟩ := s'
  exact (hm _ _ _ _ _ _ _ _ _ h).grow
theorem loopO_some {o : AObj} {r : LoopR} (h : loopO o = some r) : o = (match r with | .mk st pe t n ps az bd dn => .loop st pe t n ps az bd dn) := by
  cases o <;> simp only [loopO, Option.some.injEq, reduceCtorEq] at h
  subst h
  rfl
theorem loopM_ok {l : Nat} {st : LoopState} {pe : Option Code} {t : Tr AV} {m : Nat} {ps : List Tmp} {az bd : Code} {dn : Nat} (h : loopM l s = .ok (.mk st pe t m ps az bd dn) s') :
    s.h.get l = some (.loop st pe t m ps az bd dn) ∧ Alike s s' := by
  obtain ⟨o, s1, h1, h2⟩ := M.bind_ok.1 h
  obtain ⟨g1, g2⟩ := getM_alike h1
  obtain ⟨h3, rfl⟩ := M.of_ok.1 h2
  rw [loopO_some h3] at g1
  exact ⟨g1, g2⟩
theorem WRel.loop {l : Nat} {st : LoopState} {pe : Option Code} {t : Tr AV} {m : Nat} {ps : List Tmp} {az bd : Code} {dn : Nat} {p : Nat × Nat × Nat} (hw : WRel ρ s.h w) (h : s.h.get l = some (.loop st pe t m ps az bd dn)) (hp : ρ l = some p) :
    ∃ r, w.heap[p.1]? = some (.loop r) ∧ LoopOk ρ st pe t m ps az bd dn r ∧ (Instr.getLoop p.1).run P w = .ok r w := by
  obtain ⟨q, ob, h1, h2, r, rfl, h4⟩ := hw.at_ l _ h
  rw [hp] at h1
  injection h1 with h1
  subst h1
  exact ⟨r, h2, h4, by simp [Instr.getLoop, getObj, Sem.run, h2]⟩
theorem loopset_rel {l : Nat} {st st2 : LoopState} {pe pe2 : Option Code} {t t2 : Tr AV} {m m2 : Nat} {ps ps2 : List Tmp} {az bd as2 bd2 : Code} {dn dn2 : Nat} {p : Nat × Nat × Nat} {r r0 : Loop} (hw : WRel ρ s.h w) (hn : s.h.get l = some (.loop st pe t m ps az bd dn)) (hp : ρ l = some p) (hb : w.heap[p.1]? = some (.loop r0))
    (hr : LoopOk ρ st2 pe2 t2 m2 ps2 as2 bd2 dn2 r) (h : setM l (some (.loop st2 pe2 t2 m2 ps2 as2 bd2 dn2)) s = .ok () s') :
    (setObj p.1 (.loop r)).run P w = .ok () { w with heap := w.heap.setIfInBounds p.1 (.loop r) } ∧ WRel ρ s'.h { w with heap := w.heap.setIfInBounds p.1 (.loop r) } ∧ Stp s s' ρ ρ w { w with heap := w.heap.setIfInBounds p.1 (.loop r) } ∧ s'.c = s.c := by
  obtain ⟨_, hs'⟩ := setM_ok.1 h
  have hlt := (Array.getElem?_eq_some_iff.1 hb).1
  have hon : Only p.1 w { w with heap := w.heap.setIfInBounds p.1 (.loop r) } := ⟨rfl, rfl, rfl, by simp, fun q hq => by simp [Ne.symm hq]⟩
  have := set_rel (s' := s') (o := .loop st2 pe2 t2 m2 ps2 as2 bd2 dn2) hw (by rw [hn]; rfl) hp (by rw [hs']; rfl) hon (ob := .loop r) (by simp [hlt]) ⟨r, rfl, hr⟩
  exact ⟨by simp [setObj, Sem.run, hb], this.1, this.2, by rw [hs']; rfl⟩
theorem allBelow_iff {m : Nat} : ∀ {l : List Tmp}, allBelow m l = true → ∀ p ∈ l, p < m
  | [], _, _, h => by cases h
  | q :: r, h, p, hp => by
    unfold allBelow at h
    rw [Bool.and_eq_true] at h
    rcases List.mem_cons.1 hp with e | e
    · rw [e]; exact blt_true.1 h.1
    · exact allBelow_iff h.2 p e
theorem putAll_rel {m : Nat} : ∀ {ps : List Tmp} {vs : List AV} {us : List Value} {t : Tr AV} {tmps : Array Value}, TRel ρ t m tmps → (∀ p ∈ ps, p < m) → LRel ρ vs us →
    TRel ρ (putAll t ps vs) m ((ps.zip us).foldl (fun tmps x => tmps.setIfInBounds x.1 x.2) tmps)
  | [], vs, us, t, tmps, h, _, _ => by
    unfold putAll
    exact h
  | p :: ps, [], us, t, tmps, h, _, hr => by
    rw [LRel.nil_iff.1 hr]
    unfold putAll
    exact h
  | p :: ps, v :: vs, us, t, tmps, h, hb, hr => by
    obtain ⟨u, us', rfl, h2, h3⟩ := LRel.cons_iff.1 hr
    unfold putAll
    rw [List.zip_cons_cons, List.foldl_cons]
    exact putAll_rel (h.put (hb p List.mem_cons_self) h2) (fun q hq => hb q (List.mem_cons_of_mem _ hq)) h3
theorem isNormal_iff {e : AExit} : isNormal e = true ↔ e = .normal := by cases e <;> simp [isNormal]
theorem endRound_run {l : Nat} {r : Loop} {j : Option Code} {w2 : World} (h1 : (Instr.getLoop l).run P w = .ok r w) (h2 : (setObj l (.loop { r with state := if j.isNone then .ready else .done, pending := j })).run P w = .ok () w2) : (Instr.endRound l j).run P w = .ok (.bool j.isNone) w2 := by
  simp only [Instr.endRound, Sem.run_bind, h1, Result.andThen_ok, h2, Sem.run_pure]
theorem round_ok {ev : Ev} (hev : EvOK P ev) (hl : LocEv ev) {l : Nat} {args : List AV} {us : Array Value} {v : AV} {p : Nat × Nat × Nat} (h : roundM ev l args s = .ok v s') (hp : ρ l = some p) (hw : WRel ρ s.h w) (hf : FreshN ρ s.c s'.c) (hu : LRel ρ args us.toList) :
    ∃ f tmps az bd, (Instr.yield p.1 us).run P w = .ok (.round p.1 f tmps az bd) w ∧ ∀ n, RoundIn Fence.wide n P p.1 f tmps az bd w (Ret s s' ρ w v) := by
  unfold roundM at h
  obtain ⟨rr, s1, h1, h2⟩ := M.bind_ok.1 h
  obtain ⟨st, pe, t, m, ps, az, bd, dn⟩ := rr
  obtain ⟨g1, g2⟩ := loopM_ok h1
  simp only at h2
  cases hb : (Nat.beq args.length ps.length && allBelow m ps) with
  | false => rw [bif_false _ _ hb] at h2; exact (M.fail_ok.1 h2).elim
  | true =>
    rw [bif_true _ _ hb] at h2
    rw [Bool.and_eq_true] at hb
    obtain ⟨q, s2, h3, h4⟩ := M.bind_ok.1 h2
    cases hq : isNormal q.1 with
    | false => rw [bif_false _ _ hq] at h4; exact (M.fail_ok.1 h4).elim
    | true =>
      rw [bif_true _ _ hq] at h4
      have hqn := isNormal_iff.1 hq
      obtain ⟨_, s3, h5, h6⟩ := M.bind_ok.1 h4
      obtain ⟨q', s4, h7, h8⟩ := M.bind_ok.1 h6
      obtain ⟨r, k1, k2, k3⟩ := hw.loop (P := P) g1 hp
      obtain ⟨e1, e2, e3, e4, e5, e6, dq, e7, e8⟩ := k2
      have hsz : us.size = r.params.size := by
        rw [← Array.length_toList, ← Array.length_toList, e4, LRel.length _ hu]
        exact beq_true.1 hb.1
      have hc12 := (hl.code _ _ _).le h3
      have hc23 := (Loc.beginM l).le h5
      have hc34 := (hl.code _ _ _).le h7
      have hc4 := (Loc.endM l q'.1).le h8
      have hc1 : s.c = s1.c := g2.2.symm
      refine ⟨r.fn, (r.params.zip us).foldl (fun tmps x => tmps.setIfInBounds x.1 x.2) r.tmps, r.assign, r.body, ?_, fun n => ?_⟩
      · simp only [Instr.yield, Sem.run_bind, k3, Result.andThen_ok, hsz, ne_eq, not_true_eq_false, if_false, Sem.run_pure]
      · rw [e5, e6]
        refine roundIn_of_wpIn trivial ?_
        have hact : ActR ρ (.mk (putAll t ps args) m []) { tmps := (r.params.zip us).foldl (fun tmps x => tmps.setIfInBounds x.1 x.2) r.tmps, defers := [] } := by
          refine ⟨?_, rfl⟩
          have := putAll_rel (ρ := ρ) e3 (allBelow_iff hb.2) hu
          rw [← Array.foldl_toList, Array.toList_zip, e4]
          exact this
        have hf1 : FreshN ρ s1.c s2.c := hf.sub (by omega) (by omega)
        refine wpIn_mono (hev.code _ _ _ _ _ _ h3 ρ w _ (Fence.wide.inRound p.1) n ⟨p, hp, rfl⟩ (hw.alike g2) hf1 hact) ?_
        intro e act1 w1 hleft
        obtain ⟨ρ1, x1, x2, x3, x4⟩ := hleft
        rw [hqn] at x1
        cases x1
        unfold beginM at h5
        obtain ⟨rr, s5, y1, y2⟩ := M.bind_ok.1 h5
        obtain ⟨st1, pe1, t1, m1, ps1, as1, bd1, dn1⟩ := rr
        obtain ⟨y3, y4⟩ := loopM_ok y1
        simp only at y2
        cases hr : isReady st1 with
        | false => rw [bif_false _ _ hr] at y2; exact (M.fail_ok.1 y2).elim
        | true =>
          rw [bif_true _ _ hr] at y2
          have hst1 : st1 = .ready := by cases st1 <;> first | rfl | cases hr
          have hp1 := x4.le _ _ hp
          obtain ⟨r1, z1, z2, z3⟩ := x3.loop (P := P) y3 hp1
          obtain ⟨b1, b2, b3, b4, b5, b6, bq, b7, b8⟩ := z2
          obtain ⟨c1, c2, c3, c4⟩ := loopset_rel (P := P) (r := { r1 with state := .busy }) (x3.alike y4) (by rw [y4.1]; exact y3) hp1 z1 ⟨rfl, b2, b3, b4, b5, b6, bq, b7, b8⟩ y2
          have hs5 : s5.c = s2.c := y4.2
          refine ⟨{ w1 with heap := w1.heap.setIfInBounds p.1 (.loop { r1 with state := .busy }) }, by rw [hst1] at b1; simp only [Instr.beginRound, Sem.run_bind, z3, Result.andThen_ok, c1, b1, Sem.run_pure], ?_⟩
          have st02 : Stp s s3 ρ ρ1 w _ := Stp.trans (g2.stp x4) (y4.stp c3) (by omega) (by omega)
          have hf3 : FreshN ρ1 s3.c s4.c := (FreshN.step (hf.sub (Nat.le_refl _) (by omega)) st02 (by omega)).sub (Nat.le_refl _) (Nat.le_refl _)
          refine wpIn_mono (hev.code _ _ _ _ _ _ h7 ρ1 _ _ (Fence.wide.inRound p.1) n ⟨p, hp1, rfl⟩ c2 hf3 x2) ?_
          intro e2 act2 w2 hleft2
          obtain ⟨ρ2, u1, u2, u3, u4⟩ := hleft2
          have st04 : Stp s s4 ρ ρ2 w w2 := Stp.trans st02 u4 (by omega) (by omega)
          unfold endM at h8
          obtain ⟨rr, s6, v1, v2⟩ := M.bind_ok.1 h8
          obtain ⟨st2, pe2, t2, m2, ps2, as2, bd2, dn2⟩ := rr
          obtain ⟨v3, v4⟩ := loopM_ok v1
          obtain ⟨_, s7, v5, v6⟩ := M.bind_ok.1 v2
          obtain ⟨rfl, rfl⟩ := M.pure_ok.1 v6
          have hp2 := u4.le _ _ hp1
          obtain ⟨r2, d1, d2, d3⟩ := u3.loop (P := P) v3 hp2
          obtain ⟨a1, a2, a3, a4, a5, a6, aq, a7, a8⟩ := d2
          have fin : ∀ j : Option Code, jumpOf q'.1 = j → isNormal q'.1 = j.isNone → ∃ v w', (Instr.endRound p.1 j).run P w2 = .ok v w' ∧ Ret s s' ρ w (.bool (isNormal q'.1)) (.returned v) w' := by
            intro j hj hjn
            obtain ⟨f1, f2, f3, f4⟩ := loopset_rel (P := P) (r := { r2 with state := if j.isNone then .ready else .done, pending := j }) (u3.alike v4) (by rw [v4.1]; exact v3) hp2 d1 ⟨by rw [hjn]; cases j <;> rfl, hj.symm, a3, a4, a5, a6, aq, a7, a8⟩ v5
            refine ⟨_, _, endRound_run d3 f1, ρ2, .bool j.isNone, rfl, by rw [hjn]; rfl, f2, Stp.trans st04 (v4.stp f3) (by omega) (by omega)⟩
          generalize q'.1 = qe at *
          cases u1 with
          | normal => exact fin none rfl rfl
          | exit i => exact fin (some (.exit i)) rfl rfl
          | ret => exact fin (some .ret) rfl rfl
end
end Go.Proofs.YtdbgppknggaooaaGreatDoor.Vm
namespace Go.Proofs.YtdbgppknggaooaaGreatDoor.Vm
open Go
section
variable {P : Program} {s s' s0 s1 s2 : St} {ρ ρ' ρ0 : Ren} {w w' w0 : World} {F : Fence} {n : Nat}
theorem FOf.round_none (h : FOf ρ none F) : F.round = none := by rw [show F = Fence.wide from h]; rfl
theorem deferIn_rel {rnd : Option Nat} {d : ADef} {a a' : AAct} (h : deferIn rnd d a s = .ok a' s') : rnd = none ∧ s' = s ∧ a'.t = a.t ∧ a'.n = a.n ∧ a'.d = d :: a.d := by
  unfold deferIn at h
  cases rnd with
  | some l => exact ((M.fail_ok (s := s)).1 h).elim
  | none =>
    obtain ⟨t, m, ds⟩ := a
    obtain ⟨rfl, rfl⟩ := M.pure_ok.1 h
    exact ⟨rfl, rfl, rfl, rfl, rfl⟩
theorem findMeth_run {E : Env} (hE : EnvAll E P) {t : TypeId} {m : String} {g : FuncId} (h : findMeth E.meth t m = some g) (v : Value) (us : Array Value) (hg : Enters P g) (w : World) : (callMethod (.iface t v) m us).run P w = .ok (.enter g (#[v] ++ us)) w := by
  simp only [callMethod, Sem.run_bind, run_program, Result.andThen_ok, hE.meth t m g h v w]
  exact hg _ w
theorem callV_ok {ev : Ev} (hev : EvOK P ev) (hl : LocEv ev) {f v : AV} {args : List AV} {us : Array Value} {fv : Value} (h : callV ev f args s = .ok v s') (hfv : VRel ρ f fv) (hw : WRel ρ s.h w) (hf : FreshN ρ s.c s'.c) (hu : LRel ρ args us.toList) :
    (∃ g az, (do let d ← Deferred.ofValue fv us; invoke d.target d.args : Sem Next).run P w = .ok (.enter g az) w ∧ ∀ n, CallsIn Fence.wide n P g az w (Ret s s' ρ w v)) ∨
    ∃ l f tmps az bd, (do let d ← Deferred.ofValue fv us; invoke d.target d.args : Sem Next).run P w = .ok (.round l f tmps az bd) w ∧ ∀ n, RoundIn Fence.wide n P l f tmps az bd w (Ret s s' ρ w v) := by
  unfold callV at h
  obtain ⟨g, s1, h1, h2⟩ := M.bind_ok.1 h
  obtain ⟨h3, rfl⟩ := M.of_ok.1 h1
  cases f <;> simp only [fnA, Option.some.injEq, reduceCtorEq] at h3
  case func g first cap =>
    subst h3
    obtain ⟨x, y, rfl, hx, hy⟩ := hfv
    obtain ⟨e1, e2⟩ := hev.call _ _ _ _ _ h2
    refine .inl ⟨g, (x ++ us) ++ y, ?_, fun n => e2 ρ w _ n hw hf ?_⟩
    · simp only [Deferred.ofValue, Sem.run_bind, Sem.run_pure, Result.andThen_ok, invoke]
      exact e1 _ w
    · rw [Array.toList_append, Array.toList_append]
      exact LRel.append (LRel.append hx hu) hy
  case yield l =>
    subst h3
    obtain ⟨p, hp, rfl⟩ := hfv
    obtain ⟨f, tmps, az, bd, g1, g2⟩ := round_ok hev hl h2 hp hw hf hu
    refine .inr ⟨p.1, f, tmps, az, bd, ?_, g2⟩
    simp only [Deferred.ofValue, Sem.run_bind, Sem.run_pure, Result.andThen_ok, invoke]
    rw [show (#[] ++ us : Array Value) = us by simp]
    exact g1
theorem oper_ok {E : Env} (hE : EnvAll E P) {ev : Ev} (hev : EvOK P ev) (hl : LocEv ev) {rnd : Option Nat} {ops : Array Oper} {i : Nat} {o : Oper} {a a' : AAct} {act : Act} (hi : ops[i]? = some o) (h : operM E ev rnd ops.toList o a s = .ok a' s')
    (hF : FOf ρ rnd F) (hw : WRel ρ s.h w) (hf : FreshN ρ s.c s'.c) (ha : ActR ρ a act) {K : Act → World → Prop} {Q : Exit → Act → World → Prop} (hK : ∀ ρ' act' w', ActR ρ' a' act' → WRel ρ' s'.h w' → Stp s s' ρ ρ' w w' → K act' w') :
    wpOpIn F n P ops Q i K act w := by
  unfold wpOpIn
  simp only [hi]
  unfold operM at h
  obtain ⟨wt, s1, h1, h2⟩ := M.bind_ok.1 h
  obtain ⟨rfl, hwt⟩ := wanted_rel h1 ha.t
  rw [hwt]
  cases wt with
  | false =>
    rw [bif_false _ _ rfl] at h2
    rw [if_neg (by simp)]
    obtain ⟨rfl, g⟩ := putA_rel h2 ha undef_rel
    exact ⟨fun f _ => hF.fn f, hK ρ _ w g hw (Stp.alike (Alike.refl _))⟩
  | true =>
    rw [bif_true _ _ rfl] at h2
    rw [if_pos rfl]
    obtain ⟨x, s2, h3, h4⟩ := M.bind_ok.1 h2
    have hc2 := (Loc.doneA rnd o.dst a x).le h4
    have hf2 : FreshN ρ s1.c s2.c := hf.sub (Nat.le_refl _) hc2
    refine ⟨fun f _ => hF.fn f, ?_⟩
    have fin : ∀ {v : AV} {u : Value} {ρ2 : Ren} {w2 : World}, x = .value v → VRel ρ2 v u → WRel ρ2 s2.h w2 → Stp s1 s2 ρ ρ2 w w2 → K (act.put o.dst u) w2 := by
      intro v u ρ2 w2 hx hv hw2 hs2
      subst hx
      obtain ⟨rfl, g⟩ := putA_rel h4 (ha.mono hs2.le) hv
      exact hK ρ2 _ w2 g hw2 hs2
    cases hoc : opC E o.op with
    | simp f =>
      rw [hoc] at h3
      obtain ⟨ρ2, w2, r, g1, g2, g3, g4⟩ := op_does hE.toEnvOK hoc h3 ha.t hw hf2
      have hsem : (∀ d, x ≠ .defer d) ∨ rnd = none → o.semAt F.round act.eval = execOp act.eval o := by
        rintro (hx | hr)
        · refine Oper.semAt_eq _ _ _ (fun c hc => ?_)
          rw [hc] at hoc
          obtain ⟨d, hd⟩ := defer_only hoc h3
          exact hx d hd
        · subst hr
          rw [hF.round_none]
          rfl
      cases x with
      | value v =>
        obtain ⟨u, rfl, hv⟩ := g2
        rw [hsem (.inl (by simp)), g1, Oper.uponIn_value]
        exact fin rfl hv g3 g4
      | skip =>
        obtain rfl : r = .skip := g2
        rw [hsem (.inl (by simp)), g1, Oper.uponIn_skip]
        obtain ⟨rfl, g⟩ := putA_rel h4 (ha.mono g4.le) undef_rel
        exact hK ρ2 _ w2 g g3 g4
      | defer d =>
        obtain ⟨q, rfl, hq⟩ := g2
        obtain ⟨a2, s3, h5, h6⟩ := M.bind_ok.1 h4
        obtain ⟨hr, rfl, e1, e2, e3⟩ := deferIn_rel h5
        rw [hsem (.inr hr), g1, Oper.uponIn_defer]
        have ha2 : ActR ρ2 a2 { act with defers := q :: act.defers } := ⟨by rw [e1, e2]; exact (ha.mono g4.le).t, by rw [e3]; exact ⟨q, _, rfl, hq, (ha.mono g4.le).d⟩⟩
        obtain ⟨rfl, g⟩ := putA_rel h6 ha2 undef_rel
        exact hK ρ2 _ w2 g g3 g4
    | call y args =>
      rw [hoc] at h3
      obtain ⟨oy, az, ts, ho, rfl, rfl⟩ := call_form hoc
      obtain ⟨vs, s3, h5, h6⟩ := M.bind_ok.1 h3
      obtain ⟨rfl, r1⟩ := rds_rel ha.t h5
      obtain ⟨fv, s4, h7, h8⟩ := M.bind_ok.1 h6
      obtain ⟨rfl, r2⟩ := rd_rel h7 ha.t
      obtain ⟨v, h9, rfl⟩ := value_ok h8
      have hsem : o.semAt F.round act.eval = execOp act.eval o := Oper.semAt_eq _ _ _ (fun c hc => by rw [ho] at hc; cases hc)
      have hrun : (execOp act.eval o).run P w = (do let d ← Deferred.ofValue (act.eval oy) (az.map act.eval); invoke d.target d.args : Sem Next).run P w := by
        unfold execOp
        rw [ho]
        rfl
      rw [hsem, hrun]
      rcases callV_ok hev hl (us := az.map act.eval) h9 r2 hw hf2 (by rw [Array.toList_map]; exact r1) with ⟨g, xs, e1, e2⟩ | ⟨l, g, tmps, as', bd, e1, e2⟩
      · rw [e1, Oper.uponIn_enter]
        refine ⟨hF.depth, CallsIn.mono (hF.wide (e2 _)) ?_⟩
        rintro e w2 ⟨ρ2, u, rfl, hv, hw2, hs2⟩
        exact fin rfl hv hw2 hs2
      · rw [e1, Oper.uponIn_round]
        refine ⟨hF.depth, RoundIn.mono (hF.wideRound (e2 _)) ?_⟩
        rintro e w2 ⟨ρ2, u, rfl, hv, hw2, hs2⟩
        exact fin rfl hv hw2 hs2
    | meth y m args =>
      rw [hoc] at h3
      obtain ⟨oy, az, ts, ho, rfl, rfl⟩ := meth_form hoc
      obtain ⟨vs, s3, h5, h6⟩ := M.bind_ok.1 h3
      obtain ⟨rfl, r1⟩ := rds_rel ha.t h5
      obtain ⟨fv, s4, h7, h8⟩ := M.bind_ok.1 h6
      obtain ⟨rfl, r2⟩ := rd_rel h7 ha.t
      obtain ⟨q, s5, h9, h10⟩ := M.bind_ok.1 h8
      obtain ⟨hq, rfl⟩ := M.of_ok.1 h9
      obtain ⟨g, s6, h11, h12⟩ := M.bind_ok.1 h10
      obtain ⟨hg, rfl⟩ := M.of_ok.1 h11
      obtain ⟨v, h13, rfl⟩ := value_ok h12
      obtain ⟨e1, e2⟩ := hev.call _ _ _ _ _ h13
      have hsem : o.semAt F.round act.eval = execOp act.eval o := Oper.semAt_eq _ _ _ (fun c hc => by rw [ho] at hc; cases hc)
      cases fv <;> simp only [ifaceA, Option.some.injEq, reduceCtorEq] at hq
      rename_i ti vi
      subst hq
      obtain ⟨u, hu, hur⟩ := r2
      have hrun : (execOp act.eval o).run P w = .ok (.enter g (#[u] ++ az.map act.eval)) w := by
        unfold execOp
        rw [ho]
        simp only [resolve, Sem.run_bind, Sem.run_pure, Result.andThen_ok, invoke, hu]
        have e3 : (#[Value.iface ti u] ++ az.map act.eval)[0]? = some (Value.iface ti u) := by rw [Array.getElem?_append_left (Nat.zero_lt_one : 0 < (#[Value.iface ti u] : Array Value).size)]; rfl
        have e4 : (#[Value.iface ti u] ++ az.map act.eval).extract 1 (#[Value.iface ti u] ++ az.map act.eval).size = az.map act.eval := by
          apply Array.ext'
          simp only [Array.toList_extract, Array.toList_append, Array.size_append, List.extract_eq_take_drop]
          simp [List.take_of_length_le]
        simp only [e3, e4]
        exact findMeth_run hE hg u _ e1 w
      rw [hsem, hrun, Oper.uponIn_enter]
      refine ⟨hF.depth, CallsIn.mono (hF.wide (e2 ρ w _ _ hw hf2 ?_)) ?_⟩
      · rw [Array.toList_append, Array.toList_map]
        exact LRel.cons_iff.2 ⟨u, _, rfl, hur, r1⟩
      · rintro e w2 ⟨ρ2, u, rfl, hv, hw2, hs2⟩
        exact fin rfl hv hw2 hs2
end
end Go.Proofs.YtdbgppknggaooaaGreatDoor.Vm
namespace Go.Proofs.YtdbgppknggaooaaGreatDoor.Vm
open Go
section
variable {s s' : St} {T T' : Tr AV}
def Sees (T T' : Tr AV) (x : Operand) : Prop := ∀ t, x = .tmp t → slotA T t = slotA T' t
theorem rd_sees {x : Operand} (h : Sees T T' x) : rd T (opd x) = rd T' (opd x) := by
  funext s
  cases x with
  | tmp t =>
    show Rs.ok (slotA T t) s = Rs.ok (slotA T' t) s
    rw [h t rfl]
  | const c =>
    simp only [opd]
    cases constA c <;> rfl
  | global g => rfl
  | func f => rfl
theorem rds_sees : ∀ {l : List Operand}, (∀ x ∈ l, Sees T T' x) → rds T (opds l) = rds T' (opds l)
  | [], _ => rfl
  | x :: r, h => by
    unfold opds rds
    rw [rd_sees (h x List.mem_cons_self), rds_sees (fun y hy => h y (List.mem_cons_of_mem _ hy))]
theorem rdsP_sees : ∀ {l : List (Nat × Operand)}, (∀ x ∈ l, Sees T T' x.2) → rdsP T (opdsP l) = rdsP T' (opdsP l)
  | [], _ => rfl
  | x :: r, h => by
    unfold opdsP rdsP
    rw [rd_sees (h x List.mem_cons_self), rdsP_sees (fun y hy => h y (List.mem_cons_of_mem _ hy))]
theorem rdOpt_sees {x : Option Operand} (h : ∀ y, x = some y → Sees T T' y) : rdOpt T (optO x) = rdOpt T' (optO x) := by
  cases x with
  | none => rfl
  | some x =>
    simp only [optO, rdOpt]
    rw [rd_sees (h x rfl)]
theorem simp_sees {E : Env} {o : Op} {f : Tr AV → M ANext} (ho : opC E o = .simp f) (h : ∀ x ∈ o.operands, Sees T T' x) : f T = f T' := by
  cases o <;> simp only [opC] at ho
  case move y => obtain rfl := (OpC.inj ho).symm; simp only; rw [rd_sees (h y (by simp [Op.operands]))]
  case assign y => obtain rfl := (OpC.inj ho).symm; simp only; rw [rd_sees (h y (by simp [Op.operands]))]
  case pick c y z =>
    obtain rfl := (OpC.inj ho).symm
    simp only
    have e1 := rd_sees (h y (by simp [Op.operands]))
    have e2 := rd_sees (h z (by simp [Op.operands]))
    have e3 : ∀ t, rd T (bif t then opd y else opd z) = rd T' (bif t then opd y else opd z) := fun t => by cases t <;> assumption
    rw [rd_sees (h c (by simp [Op.operands]))]
    simp only [e3]
  case alloc e => obtain rfl := (OpC.inj ho).symm; rfl
  case box e y => obtain rfl := (OpC.inj ho).symm; simp only; rw [rd_sees (h y (by simp [Op.operands]))]
  case build ty ps => obtain rfl := (OpC.inj ho).symm; simp only; rw [rdsP_sees (fun x hx => h x.2 (by simp only [Op.operands, List.mem_toArray, List.mem_map]; exact ⟨x, hx, rfl⟩))]
  case buildSlice ty len ps => obtain rfl := (OpC.inj ho).symm; simp only; rw [rdsP_sees (fun x hx => h x.2 (by simp only [Op.operands, List.mem_toArray, List.mem_map]; exact ⟨x, hx, rfl⟩))]
  case load ty y => obtain rfl := (OpC.inj ho).symm; simp only; rw [rd_sees (h y (by simp [Op.operands]))]
  case store ty y z => obtain rfl := (OpC.inj ho).symm; simp only; rw [rd_sees (h y (by simp [Op.operands])), rd_sees (h z (by simp [Op.operands]))]
  case nilCheck y => obtain rfl := (OpC.inj ho).symm; simp only; rw [rd_sees (h y (by simp [Op.operands]))]
  case binOp op ty y z ty2 => obtain rfl := (OpC.inj ho).symm; simp only; rw [rd_sees (h y (by simp [Op.operands])), rd_sees (h z (by simp [Op.operands]))]
  case unOp op ty y => obtain rfl := (OpC.inj ho).symm; simp only; rw [rd_sees (h y (by simp [Op.operands]))]
  case convert a b y => obtain rfl := (OpC.inj ho).symm; simp only; rw [rd_sees (h y (by simp [Op.operands]))]
  case makeInterface ty y => obtain rfl := (OpC.inj ho).symm; simp only; rw [rd_sees (h y (by simp [Op.operands]))]
  case makeFunc fn y z =>
    unfold funC at ho
    cases fn <;> simp only at ho <;> obtain rfl := (OpC.inj ho).symm <;> first | rfl | skip
    simp only
    rw [rds_sees (fun x hx => h x (by simp only [Op.operands, Array.mem_append]; exact .inl (by simpa using hx))), rds_sees (l := z.toList) (fun x hx => h x (by simp only [Op.operands, Array.mem_append]; exact .inr (by simpa using hx)))]
  case makeMap ty r =>
    unfold mapC at ho
    cases r with
    | none => simp only at ho; obtain rfl := (OpC.inj ho).symm; rfl
    | some r => simp only at ho; obtain rfl := (OpC.inj ho).symm; simp only; rw [rd_sees (h r (by simp [Op.operands]))]
  case makeSlice ty y z => obtain rfl := (OpC.inj ho).symm; simp only; rw [rd_sees (h y (by simp [Op.operands])), rd_sees (h z (by simp [Op.operands]))]
  case slice ty y lo hi mx =>
    obtain rfl := (OpC.inj ho).symm
    simp only
    rw [rd_sees (h y (by simp [Op.operands])), rdOpt_sees (x := lo) (fun q hq => h q (by simp [Op.operands, hq])), rdOpt_sees (x := hi) (fun q hq => h q (by simp [Op.operands, hq])), rdOpt_sees (x := mx) (fun q hq => h q (by simp [Op.operands, hq]))]
  case fieldAddr ty y k => obtain rfl := (OpC.inj ho).symm; simp only; rw [rd_sees (h y (by simp [Op.operands]))]
  case field ty y k => obtain rfl := (OpC.inj ho).symm; simp only; rw [rd_sees (h y (by simp [Op.operands]))]
  case indexAddr ty y z => obtain rfl := (OpC.inj ho).symm; simp only; rw [rd_sees (h y (by simp [Op.operands])), rd_sees (h z (by simp [Op.operands]))]
  case index ty y z => obtain rfl := (OpC.inj ho).symm; simp only; rw [rd_sees (h y (by simp [Op.operands])), rd_sees (h z (by simp [Op.operands]))]
  case lookup ty y z b => obtain rfl := (OpC.inj ho).symm; simp only; rw [rd_sees (h y (by simp [Op.operands])), rd_sees (h z (by simp [Op.operands]))]
  case mapUpdate ty m y z => obtain rfl := (OpC.inj ho).symm; simp only; rw [rd_sees (h m (by simp [Op.operands])), rd_sees (h y (by simp [Op.operands])), rd_sees (h z (by simp [Op.operands]))]
  case insert ty m y z => obtain rfl := (OpC.inj ho).symm; simp only; rw [rd_sees (h m (by simp [Op.operands])), rd_sees (h y (by simp [Op.operands])), rd_sees (h z (by simp [Op.operands]))]
  case range ty y => obtain rfl := (OpC.inj ho).symm; simp only; rw [rd_sees (h y (by simp [Op.operands]))]
  case next y b =>
    unfold nextC at ho
    cases b <;> simp only at ho <;> obtain rfl := (OpC.inj ho).symm
    · simp only; rw [rd_sees (h y (by simp [Op.operands]))]
    · simp only; rw [rd_sees (h y (by simp [Op.operands]))]
  case entry y => obtain rfl := (OpC.inj ho).symm; simp only; rw [rd_sees (h y (by simp [Op.operands]))]
  case extract y k => obtain rfl := (OpC.inj ho).symm; simp only; rw [rd_sees (h y (by simp [Op.operands]))]
  case call c =>
    obtain ⟨callee, args, argTypes⟩ := c
    unfold callC at ho
    cases callee with
    | builtin b =>
      obtain rfl := (OpC.inj ho).symm
      simp only
      rw [rds_sees (fun x hx => h x (by simp only [Op.operands, Call.operands, Array.mem_append]; exact .inr (by simpa using hx)))]
    | value y => cases ho
    | invoke y m => cases ho
  case defer c =>
    obtain ⟨callee, args, argTypes⟩ := c
    unfold deferC at ho
    cases callee with
    | value y =>
      obtain rfl := (OpC.inj ho).symm
      simp only
      rw [rds_sees (fun x hx => h x (by simp only [Op.operands, Call.operands, Array.mem_append]; exact .inr (by simpa using hx))), rd_sees (h y (by simp [Op.operands, Call.operands]))]
    | builtin b => obtain rfl := (OpC.inj ho).symm; rfl
    | invoke y m => obtain rfl := (OpC.inj ho).symm; rfl
  all_goals
    obtain rfl := (OpC.inj ho).symm
    rfl
theorem runC_sees {E : Env} {ev : Ev} {o : Op} (h : ∀ x ∈ o.operands, Sees T T' x) : runC E ev T (opC E o) = runC E ev T' (opC E o) := by
  cases hc : opC E o with
  | simp f => exact simp_sees hc h
  | call x args =>
    obtain ⟨y, az, ts, ho, rfl, rfl⟩ := call_form hc
    subst ho
    simp only [runC]
    rw [rds_sees (fun x hx => h x (by simp only [Op.operands, Call.operands, Array.mem_append]; exact .inr (by simpa using hx))), rd_sees (h y (by simp [Op.operands, Call.operands]))]
  | meth x m args =>
    obtain ⟨y, az, ts, ho, rfl, rfl⟩ := meth_form hc
    subst ho
    simp only [runC]
    rw [rds_sees (fun x hx => h x (by simp only [Op.operands, Call.operands, Array.mem_append]; exact .inr (by simpa using hx))), rd_sees (h y (by simp [Op.operands, Call.operands]))]
theorem not_defer {E : Env} {ev : Ev} {o : Op} {x : ANext} (hd : isDefer o = false) (h : runC E ev T (opC E o) s = .ok x s') : ∀ d, x ≠ .defer d := by
  intro d e
  subst e
  cases o <;> first | (cases hd; done) | skip
  all_goals simp only [opC] at h
  case makeFunc fn y z => unfold funC at h; cases fn <;> simp [opFn, opFail, runC, M.bind_ok, M.pure_ok, M.fail_ok] at h
  case makeMap ty r => unfold mapC at h; cases r <;> simp [opMapNew, opMapNewR, runC, M.bind_ok, M.pure_ok, withTy_ok] at h
  case next y b => unfold nextC at h; cases b <;> simp [op1, runC, value, M.bind_ok, M.pure_ok] at h
  case call c =>
    obtain ⟨callee, args, argTypes⟩ := c
    unfold callC at h
    cases callee <;> simp [opBuiltin, runC, value, M.bind_ok, M.pure_ok] at h
  all_goals
    simp [op1, opTy1, opTy2, opFail, opAlloc, opBox, opBuild, opBuildSlice, opStore, opPick, opSlice, opUpdate, opExtract, opBin, runC, value, skip, M.bind_ok, M.pure_ok, M.fail_ok, withTy_ok] at h
end
end Go.Proofs.YtdbgppknggaooaaGreatDoor.Vm
namespace Go.Proofs.YtdbgppknggaooaaGreatDoor.Vm
open Go
section
variable {α : Type}
open Classical in
noncomputable def gval (f : Nat → α) (S Tch : Nat → Prop) : Nat → α
  | 0 => f 0
  | k + 1 => if S k ∧ Tch k then f (k + 1) else gval f S Tch k
variable {f : Nat → α} {S S' Tch : Nat → Prop}
theorem gval_low : ∀ (K : Nat), (∀ i, i < K → Tch i → S i) → (∀ i, i < K → ¬ Tch i → f (i + 1) = f i) → gval f S Tch K = f K
  | 0, _, _ => rfl
  | k + 1, h1, h2 => by
    unfold gval
    by_cases ht : Tch k
    · rw [if_pos ⟨h1 k (Nat.lt_succ_self _) ht, ht⟩]
    · rw [if_neg (fun e => ht e.2), gval_low k (fun i hi => h1 i (by omega)) (fun i hi => h2 i (by omega)), h2 k (Nat.lt_succ_self _) ht]
theorem gval_high (K : Nat) : ∀ (L : Nat), K ≤ L → (∀ j, K ≤ j → j < L → ¬ (S j ∧ Tch j)) → gval f S Tch L = gval f S Tch K
  | 0, h, _ => by rw [Nat.le_zero.1 h]
  | l + 1, h, h1 => by
    rcases Nat.lt_or_ge K (l + 1) with g | g
    · rw [show gval f S Tch (l + 1) = gval f S Tch l by
        conv => lhs; unfold gval
        exact if_neg (h1 l (by omega) (Nat.lt_succ_self _))]
      exact gval_high K l (by omega) (fun j a b => h1 j a (by omega))
    · rw [Nat.le_antisymm h g]
theorem gval_congr (h : ∀ j, S' j ∧ Tch j ↔ S j ∧ Tch j) : ∀ (L : Nat), gval f S' Tch L = gval f S Tch L
  | 0 => rfl
  | l + 1 => by
    unfold gval
    by_cases hc : S l ∧ Tch l
    · rw [if_pos hc, if_pos ((h l).2 hc)]
    · rw [if_neg hc, if_neg (fun e => hc ((h l).1 e)), gval_congr h l]
theorem gval_add {k L : Nat} (hk : k < L) (hS : ∀ j, S' j ↔ S j ∨ j = k) (ht : Tch k) (hj : ∀ j, k < j → j < L → ¬ (S j ∧ Tch j)) : gval f S' Tch L = f (k + 1) := by
  rw [gval_high (k + 1) L hk (fun j h1 h2 e => hj j h1 h2 ⟨((hS j).1 e.1).resolve_right (by omega), e.2⟩)]
  unfold gval
  exact if_pos ⟨(hS k).2 (.inr rfl), ht⟩
end
section
variable {E : Env} {ev : Ev} {rnd : Option Nat} {ops : List Oper} {x0 : AAct × Tr AObj × Nat}
noncomputable def stepS (E : Env) (ev : Ev) (rnd : Option Nat) (ops : List Oper) (k : Nat) (x : AAct × Tr AObj × Nat) : (AAct × Tr AObj × Nat) × TS × TS :=
  match ops[k]? with
  | none => (x, [], [])
  | some o =>
    match operM E ev rnd ops o x.1 (.mk x.2.1 x.2.2 [] []) with
    | .ok a (.mk h c r w) => ((a, h, c), r, w)
    | .err _ => (x, [], [])
noncomputable def seqS (E : Env) (ev : Ev) (rnd : Option Nat) (ops : List Oper) (x0 : AAct × Tr AObj × Nat) : Nat → AAct × Tr AObj × Nat
  | 0 => x0
  | k + 1 => (stepS E ev rnd ops k (seqS E ev rnd ops x0 k)).1
noncomputable def rS (E : Env) (ev : Ev) (rnd : Option Nat) (ops : List Oper) (x0 : AAct × Tr AObj × Nat) (k : Nat) : TS := (stepS E ev rnd ops k (seqS E ev rnd ops x0 k)).2.1
noncomputable def wS (E : Env) (ev : Ev) (rnd : Option Nat) (ops : List Oper) (x0 : AAct × Tr AObj × Nat) (k : Nat) : TS := (stepS E ev rnd ops k (seqS E ev rnd ops x0 k)).2.2
def RunAt (E : Env) (ev : Ev) (rnd : Option Nat) (ops : List Oper) (x0 : AAct × Tr AObj × Nat) (k : Nat) : Prop :=
  ∃ o, ops[k]? = some o ∧ operM E ev rnd ops o (seqS E ev rnd ops x0 k).1 (.mk (seqS E ev rnd ops x0 k).2.1 (seqS E ev rnd ops x0 k).2.2 [] []) =
    .ok (seqS E ev rnd ops x0 (k + 1)).1 (.mk (seqS E ev rnd ops x0 (k + 1)).2.1 (seqS E ev rnd ops x0 (k + 1)).2.2 (rS E ev rnd ops x0 k) (wS E ev rnd ops x0 k))
theorem seqS_step {k : Nat} {o : Oper} {a : AAct} {h : Tr AObj} {c : Nat} {r w : TS} (ho : ops[k]? = some o) (hr : operM E ev rnd ops o (seqS E ev rnd ops x0 k).1 (.mk (seqS E ev rnd ops x0 k).2.1 (seqS E ev rnd ops x0 k).2.2 [] []) = .ok a (.mk h c r w)) :
    seqS E ev rnd ops x0 (k + 1) = (a, h, c) ∧ rS E ev rnd ops x0 k = r ∧ wS E ev rnd ops x0 k = w := by
  have : stepS E ev rnd ops k (seqS E ev rnd ops x0 k) = ((a, h, c), r, w) := by
    unfold stepS
    rw [ho]
    simp only [hr]
  refine ⟨?_, ?_, ?_⟩
  · rw [seqS, this]
  · rw [rS, this]
  · rw [wS, this]
def Apart (ri wi rj wj : TS) : Prop := (∀ n, wi.has n → ¬ rj.has n ∧ ¬ wj.has n) ∧ ∀ n, wj.has n → ¬ ri.has n
theorem apartF_ok : ∀ {fp : FP} {bef : Nat} {r w : TS} {x : Nat × TS × TS}, apartF bef r w fp = true → x ∈ fp → bef.testBit x.1 = true ∨ Apart r w x.2.1 x.2.2
  | [], _, _, _, _, _, h => by cases h
  | y :: l, bef, r, w, x, h, hx => by
    unfold apartF at h
    rw [Bool.and_eq_true] at h
    rcases List.mem_cons.1 hx with e | e
    · subst e
      have h1 := h.1
      rw [Bool.or_eq_true] at h1
      rcases h1 with h1 | h1
      · exact .inl h1
      · rw [Bool.not_eq_true', Bool.or_eq_false_iff, Bool.or_eq_false_iff] at h1
        exact .inr ⟨fun n hn => ⟨fun e => meets_no h1.1.1 hn e, fun e => meets_no h1.1.2 hn e⟩, fun n hn e => meets_no h1.2 hn e⟩
    · exact apartF_ok h.2 e
theorem has_nil (n : Nat) : ¬ TS.has [] n := fun ⟨_, h, _⟩ => by cases h
theorem addF_mem {k : Nat} {r w : TS} {fp : FP} {x : Nat × TS × TS} (h : x ∈ fp) : x ∈ addF k r w fp := by
  unfold addF
  cases r with
  | nil => cases w with
    | nil => exact h
    | cons _ _ => exact List.mem_cons_of_mem _ h
  | cons _ _ => exact List.mem_cons_of_mem _ h
theorem addF_new {k : Nat} {r w : TS} {fp : FP} : (k, r, w) ∈ addF k r w fp ∨ (r = [] ∧ w = []) := by
  unfold addF
  cases r with
  | nil => cases w with
    | nil => exact .inr ⟨rfl, rfl⟩
    | cons _ _ => exact .inl List.mem_cons_self
  | cons _ _ => exact .inl List.mem_cons_self
theorem draw_run {bs0 : List Nat} : ∀ (l : List Oper) (bs : List Nat) (k : Nat) (fp : FP) (r w : TS) (a' : AAct) (s' : St), l = ops.drop k → bs = bs0.drop k →
    drawM E ev rnd ops l bs k fp (seqS E ev rnd ops x0 k).1 (.mk (seqS E ev rnd ops x0 k).2.1 (seqS E ev rnd ops x0 k).2.2 r w) = .ok a' s' →
    (∀ j, j < k → (j, rS E ev rnd ops x0 j, wS E ev rnd ops x0 j) ∈ fp ∨ (rS E ev rnd ops x0 j = [] ∧ wS E ev rnd ops x0 j = [])) → k ≤ ops.length →
    (∀ i, k ≤ i → i < ops.length → RunAt E ev rnd ops x0 i ∧ ∀ j, j < i → ((bs0[i]?).getD 0).testBit j = true ∨ Apart (rS E ev rnd ops x0 i) (wS E ev rnd ops x0 i) (rS E ev rnd ops x0 j) (wS E ev rnd ops x0 j)) ∧
    a' = (seqS E ev rnd ops x0 ops.length).1 ∧ s'.h = (seqS E ev rnd ops x0 ops.length).2.1 ∧ s'.c = (seqS E ev rnd ops x0 ops.length).2.2
  | [], bs, k, fp, r, w, a', s', hl, hb, h, hfp, hk => by
    have hkn : ops.length = k := by
      have := congrArg List.length hl
      rw [List.length_drop, List.length_nil] at this
      omega
    unfold drawM at h
    obtain ⟨rfl, rfl⟩ := M.pure_ok.1 h
    refine ⟨fun i h1 h2 => by omega, by rw [hkn], by rw [hkn]; rfl, by rw [hkn]; rfl⟩
  | o :: l, [], k, fp, r, w, a', s', hl, hb, h, hfp, hk => by
    unfold drawM at h
    exact (M.fail_ok.1 h).elim
  | o :: l, b :: bs, k, fp, r, w, a', s', hl, hb, h, hfp, hk => by
    have hok : ops[k]? = some o := by
      have := congrArg (fun l => l[0]?) hl
      simpa using this.symm
    have hl' : l = ops.drop (k + 1) := by
      have := congrArg List.tail hl
      simpa using this
    have hbk : bs0[k]? = some b := by
      have := congrArg (fun l => l[0]?) hb
      simpa using this.symm
    have hb' : bs = bs0.drop (k + 1) := by
      have := congrArg List.tail hb
      simpa using this
    unfold drawM at h
    obtain ⟨q, s1, h1, h2⟩ := M.bind_ok.1 h
    obtain ⟨h1', c1, r1, w1⟩ := s1
    obtain ⟨g1, g2, g3⟩ := touched_ok h1
    obtain ⟨e1, e2, e3⟩ := seqS_step (x0 := x0) hok g1
    have hrun : RunAt E ev rnd ops x0 k := ⟨o, hok, by rw [e1, e2, e3]; exact g1⟩
    cases hap : apartF b q.2.1 q.2.2 fp with
    | false => rw [bif_false _ _ hap] at h2; exact (M.fail_ok.1 h2).elim
    | true =>
      rw [bif_true _ _ hap] at h2
      have hlt : k < ops.length := (List.getElem?_eq_some_iff.1 hok).1
      have hq : q.1 = (seqS E ev rnd ops x0 (k + 1)).1 := by rw [e1]
      have hh : h1' = (seqS E ev rnd ops x0 (k + 1)).2.1 := by rw [e1]
      have hc : c1 = (seqS E ev rnd ops x0 (k + 1)).2.2 := by rw [e1]
      rw [hq, hh, hc, ← e2, ← e3] at h2
      obtain ⟨f1, f2⟩ := draw_run l bs (k + 1) _ r1 w1 a' s' hl' hb' h2 (fun j hj => by
        rcases Nat.lt_or_ge j k with g | g
        · exact (hfp j g).imp addF_mem id
        · obtain rfl : j = k := by omega
          exact addF_new) hlt
      refine ⟨fun i h3 h4 => ?_, f2⟩
      rcases Nat.lt_or_ge k i with g | g
      · exact f1 i g h4
      · obtain rfl : i = k := by omega
        refine ⟨hrun, fun j hj => ?_⟩
        rw [hbk, e2, e3]
        rcases hfp j hj with g | ⟨g4, g5⟩
        · exact apartF_ok hap g
        · rw [g4, g5]
          exact .inr ⟨fun n _ => ⟨has_nil n, has_nil n⟩, fun n hn => absurd hn (has_nil n)⟩
end
end Go.Proofs.YtdbgppknggaooaaGreatDoor.Vm
namespace Go.Proofs.YtdbgppknggaooaaGreatDoor.Vm
open Go
section
variable {E : Env} {ev : Ev} {rnd : Option Nat} {ops : List Oper} {s s' : St}
noncomputable def putT (T : Tr AV) (n : Nat) (ds : List ADef) (dst : Option Tmp) (v : AV) : AAct :=
  match dst with
  | none => .mk T n ds
  | some d => .mk (T.put d (some v)) n ds
theorem shift_bit (k j : Nat) : (Nat.shiftLeft 1 k).testBit j = true ↔ j = k := bit_one k j
theorem dstBit_iff {o : Oper} {x : Nat} : (dstBit o).testBit x = true ↔ o.dst = some x := by
  unfold dstBit
  cases o.dst with
  | none => simp
  | some d => rw [shift_bit]; exact ⟨fun e => by rw [e], fun e => by injection e with e; exact e.symm⟩
theorem slotsOf_bit : ∀ {l : List Operand} {t : Tmp}, Operand.tmp t ∈ l → (slotsOf l).testBit t = true
  | [], _, h => by cases h
  | x :: r, t, h => by
    unfold slotsOf
    rw [show Nat.lor (slotBit x) (slotsOf r) = slotBit x ||| slotsOf r from rfl, Nat.testBit_or, Bool.or_eq_true]
    rcases List.mem_cons.1 h with e | e
    · subst e
      exact .inl ((shift_bit t t).2 rfl)
    · exact .inr (slotsOf_bit e)
theorem used_operand {o : Oper} {t : Tmp} (h : Operand.tmp t ∈ o.op.operands) : (usedBits ops o).testBit t = true := by
  unfold usedBits
  rw [show Nat.lor (slotsOf o.op.operands.toList) (guardBit ops o) = slotsOf o.op.operands.toList ||| guardBit ops o from rfl, Nat.testBit_or, slotsOf_bit (by simpa using h), Bool.true_or]
theorem used_guard {o p : Oper} {g : Nat × Bool} {d : Tmp} (hg : o.guard = some g) (hp : ops[g.1]? = some p) (hd : p.dst = some d) : (usedBits ops o).testBit d = true := by
  unfold usedBits guardBit
  rw [show ∀ a b, Nat.lor a b = a ||| b from fun _ _ => rfl, Nat.testBit_or, hg]
  simp only [hp]
  rw [dstBit_iff.2 hd, Bool.or_true]
theorem land_zero {a b x : Nat} (h : Nat.beq (Nat.land a b) 0 = true) (ha : a.testBit x = true) (hb : b.testBit x = true) : False := by
  have h1 := beq_true.1 h
  have h2 : (Nat.land a b).testBit x = true := by
    rw [show Nat.land a b = a &&& b from rfl, Nat.testBit_and, ha, hb]
    rfl
  rw [h1, Nat.zero_testBit] at h2
  cases h2
theorem wanted_sees {T T2 : Tr AV} {o : Oper} (h : ∀ t, (usedBits ops o).testBit t = true → slotA T t = slotA T2 t) : wantedA (guardC ops o) T = wantedA (guardC ops o) T2 := by
  unfold guardC
  cases hg : o.guard with
  | none => rfl
  | some g =>
    simp only
    cases hp : ops[g.1]? with
    | none => rfl
    | some p =>
      simp only
      cases hd : p.dst with
      | none => rfl
      | some d =>
        simp only [wantedA]
        rw [h d (used_guard hg hp hd)]
theorem putA_put {T : Tr AV} {n : Nat} {ds : List ADef} {dst : Option Tmp} {v : AV} {a' : AAct} (h : putA (.mk T n ds) dst v s = .ok a' s') : s' = s ∧ a' = putT T n ds dst v ∧ ∀ T2 ds2 s2, putA (.mk T2 n ds2) dst v s2 = .ok (putT T2 n ds2 dst v) s2 := by
  unfold putA at h ⊢
  cases dst with
  | none =>
    obtain ⟨rfl, rfl⟩ := M.pure_ok.1 h
    exact ⟨rfl, rfl, fun _ _ _ => rfl⟩
  | some d =>
    simp only at h ⊢
    cases hb : Nat.blt d n with
    | false => rw [bif_false _ _ hb] at h; exact (M.fail_ok.1 h).elim
    | true =>
      rw [bif_true _ _ hb] at h
      obtain ⟨rfl, rfl⟩ := M.pure_ok.1 h
      exact ⟨rfl, rfl, fun _ _ _ => rfl⟩
theorem oper_sees {o : Oper} {T : Tr AV} {n : Nat} {ds : List ADef} {a' : AAct} (h : operM E ev rnd ops o (.mk T n ds) s = .ok a' s') :
    ∃ v D, (isDefer o.op = false → D = []) ∧ a' = putT T n (D ++ ds) o.dst v ∧ ∀ T2 ds2, (∀ t, (usedBits ops o).testBit t = true → slotA T t = slotA T2 t) → operM E ev rnd ops o (.mk T2 n ds2) s = .ok (putT T2 n (D ++ ds2) o.dst v) s' := by
  unfold operM at h ⊢
  simp only [AAct.t] at h ⊢
  obtain ⟨wt, s1, h1, h2⟩ := M.bind_ok.1 h
  cases wt with
  | false =>
    rw [bif_false _ _ rfl] at h2
    obtain ⟨rfl, rfl, g⟩ := putA_put h2
    refine ⟨_, [], fun _ => rfl, rfl, fun T2 ds2 hs => M.bind_ok.2 ⟨false, _, by rw [← wanted_sees hs]; exact h1, ?_⟩⟩
    rw [bif_false _ _ rfl]
    exact g T2 ds2 _
  | true =>
    rw [bif_true _ _ rfl] at h2
    obtain ⟨x, s2, h3, h4⟩ := M.bind_ok.1 h2
    have hnd := fun hd => not_defer hd h3
    have hrun : ∀ T2, (∀ t, (usedBits ops o).testBit t = true → slotA T t = slotA T2 t) → runC E ev T2 (opC E o.op) s1 = .ok x s2 := fun T2 hs => by
      rw [← runC_sees (T := T) (fun y hy t ht => hs t (used_operand (by rw [← ht]; exact hy)))]
      exact h3
    cases x with
    | value v =>
      obtain ⟨rfl, rfl, g⟩ := putA_put h4
      refine ⟨v, [], fun _ => rfl, rfl, fun T2 ds2 hs => M.bind_ok.2 ⟨true, _, by rw [← wanted_sees hs]; exact h1, ?_⟩⟩
      rw [bif_true _ _ rfl]
      exact M.bind_ok.2 ⟨_, _, hrun T2 hs, g T2 ds2 _⟩
    | skip =>
      obtain ⟨rfl, rfl, g⟩ := putA_put h4
      refine ⟨undefA, [], fun _ => rfl, rfl, fun T2 ds2 hs => M.bind_ok.2 ⟨true, _, by rw [← wanted_sees hs]; exact h1, ?_⟩⟩
      rw [bif_true _ _ rfl]
      exact M.bind_ok.2 ⟨_, _, hrun T2 hs, g T2 ds2 _⟩
    | defer d =>
      obtain ⟨a2, s3, h5, h6⟩ := M.bind_ok.1 h4
      cases rnd with
      | some l => exact ((M.fail_ok (s := s2)).1 h5).elim
      | none =>
        obtain ⟨rfl, rfl⟩ := M.pure_ok.1 h5
        obtain ⟨rfl, rfl, g⟩ := putA_put h6
        refine ⟨undefA, [d], fun hd => absurd rfl (hnd hd d), rfl, fun T2 ds2 hs => M.bind_ok.2 ⟨true, _, by rw [← wanted_sees hs]; exact h1, ?_⟩⟩
        rw [bif_true _ _ rfl]
        exact M.bind_ok.2 ⟨_, _, hrun T2 hs, M.bind_ok.2 ⟨_, _, rfl, g T2 _ _⟩⟩
theorem befs_len : ∀ (l : List Oper) (acc : List Nat), (befs l acc).length = acc.length + l.length
  | [], acc => rfl
  | o :: r, acc => by
    unfold befs
    rw [befs_len r, List.length_append, List.length_cons, List.length_cons, List.length_nil]
    omega
theorem befs_old : ∀ (l : List Oper) (acc : List Nat) (j : Nat), j < acc.length → (befs l acc)[j]? = acc[j]?
  | [], acc, j, _ => rfl
  | o :: r, acc, j, h => by
    unfold befs
    rw [befs_old r _ j (by rw [List.length_append]; omega), List.getElem?_append_left h]
theorem befs_at : ∀ (l : List Oper) (acc : List Nat) (i : Nat) (o : Oper), l[i]? = some o → (befs l acc)[acc.length + i]? = some (befOf ((befs l acc).take (acc.length + i)) o.after.toList)
  | [], acc, i, o, h => by simp at h
  | p :: r, acc, 0, o, h => by
    obtain rfl : p = o := by simpa using h
    unfold befs
    rw [Nat.add_zero, befs_old r _ _ (by simp), List.getElem?_append_right (Nat.le_refl _), Nat.sub_self]
    have : (befs r (acc ++ [befOf acc p.after.toList])).take acc.length = acc := by
      apply List.ext_getElem?
      intro j
      rw [List.getElem?_take]
      split
      · rename_i hj
        rw [befs_old r _ j (by rw [List.length_append]; omega), List.getElem?_append_left hj]
      · rename_i hj
        rw [List.getElem?_eq_none (by omega)]
    rw [this]
    rfl
  | p :: r, acc, i + 1, o, h => by
    unfold befs
    have := befs_at r (acc ++ [befOf acc p.after.toList]) i o (by simpa using h)
    rw [List.length_append, List.length_cons, List.length_nil] at this
    rw [show acc.length + (i + 1) = acc.length + (0 + 1) + i by omega]
    exact this
theorem befOf_bit : ∀ {l : List Edge} {acc : List Nat} {i : Nat}, (befOf acc l).testBit i = true → ∃ e ∈ l, Region.binds .any e = true ∧ (i = e.on ∨ ((acc[e.on]?).getD 0).testBit i = true)
  | [], acc, i, h => by
    unfold befOf at h
    rw [Nat.zero_testBit] at h
    cases h
  | e :: l, acc, i, h => by
    unfold befOf at h
    rw [show ∀ a b, Nat.lor a b = a ||| b from fun _ _ => rfl, Nat.testBit_or, Bool.or_eq_true] at h
    rcases h with h | h
    · cases hb : Region.binds .any e with
      | false => rw [bif_false _ _ hb, Nat.zero_testBit] at h; cases h
      | true =>
        rw [bif_true _ _ hb, show ∀ a b, Nat.lor a b = a ||| b from fun _ _ => rfl, Nat.testBit_or, Bool.or_eq_true] at h
        exact ⟨e, List.mem_cons_self, hb, h.imp (fun g => (shift_bit _ _).1 g) id⟩
    · obtain ⟨e', h1, h2⟩ := befOf_bit h
      exact ⟨e', List.mem_cons_of_mem _ h1, h2⟩
theorem edges_ok {k : Nat} : ∀ {l : List Edge} {e : Edge}, edgesBelow k l = true → e ∈ l → Region.binds .any e = true → e.on < k
  | [], _, _, h, _ => by cases h
  | x :: r, e, h, he, hb => by
    unfold edgesBelow at h
    rw [Bool.and_eq_true] at h
    rcases List.mem_cons.1 he with e1 | e1
    · subst e1
      have := h.1
      rw [hb, Bool.not_true, Bool.false_or] at this
      exact blt_true.1 this
    · exact edges_ok h.2 e1 hb
theorem slotApart_ok {bef u d k : Nat} : ∀ (l : List Oper) (j i : Nat) (p : Oper), slotApart ops bef u d l j k = true → l[i]? = some p → j + i < k →
    bef.testBit (j + i) = true ∨ (Nat.beq (Nat.land u (dstBit p)) 0 = true ∧ Nat.beq (Nat.land d (Nat.lor (dstBit p) (usedBits ops p))) 0 = true)
  | [], _, _, _, _, h, _ => by simp at h
  | o :: r, j, i, p, h, hp, hlt => by
    unfold slotApart at h
    have hkj : Nat.ble k j = false := by
      cases hb : Nat.ble k j with
      | false => rfl
      | true => have := ble_true.1 hb; omega
    rw [hkj, Bool.false_or, Bool.and_eq_true] at h
    cases i with
    | zero =>
      obtain rfl : o = p := by simpa using hp
      have h1 := h.1
      rw [Bool.or_eq_true, Bool.and_eq_true] at h1
      exact h1
    | succ i =>
      have := slotApart_ok r (j + 1) i p h.2 (by simpa using hp) (by omega)
      rwa [show j + 1 + i = j + (i + 1) by omega] at this
theorem slotsOk_at : ∀ (l : List Oper) (bs : List Nat) (k i : Nat) (o : Oper), slotsOk ops l bs k = true → l[i]? = some o →
    (isDefer o.op = true → k + i = defAt ops 0) ∧ edgesBelow (k + i) o.after.toList = true ∧ ∃ b, bs[i]? = some b ∧ slotApart ops b (usedBits ops o) (dstBit o) ops 0 (k + i) = true
  | [], _, _, _, _, _, h => by simp at h
  | p :: r, [], _, _, _, h, _ => by cases h
  | p :: r, b :: bs, k, i, o, h, ho => by
    unfold slotsOk at h
    rw [Bool.and_eq_true, Bool.and_eq_true, Bool.and_eq_true] at h
    cases i with
    | zero =>
      obtain rfl : p = o := by simpa using ho
      have hd : isDefer p.op = true → k + 0 = defAt ops 0 := fun hd => by
        have := h.1.1.1
        rw [hd] at this
        exact beq_true.1 this
      exact ⟨hd, h.1.1.2, b, rfl, h.1.2⟩
    | succ i =>
      have := slotsOk_at r bs (k + 1) i o h.2 (by simpa using ho)
      rw [show k + 1 + i = k + (i + 1) by omega] at this
      obtain ⟨g1, g2, b', g3, g4⟩ := this
      exact ⟨g1, g2, b', by simpa using g3, g4⟩
end
end Go.Proofs.YtdbgppknggaooaaGreatDoor.Vm
namespace Go.Proofs.YtdbgppknggaooaaGreatDoor.Vm
open Go
section
variable {P : Program} {E : Env} {ev : Ev} {rnd : Option Nat} {ρ ρ' ρ0 : Ren} {w w' w0 : World} {F : Fence} {n : Nat} {s s' s0 : St}
theorem WRel.ext {h h' : Tr AObj} (hw : WRel ρ h w) (he : ∀ m, h'.get m = h.get m) : WRel ρ h' w :=
  ⟨fun m o ho => hw.at_ m o (by rw [← he]; exact ho), fun a b p q h1 h2 => hw.inj a b p q (by rw [← he]; exact h1) (by rw [← he]; exact h2)⟩
theorem Own.ext {h h' : Tr AObj} (he : ∀ m, h'.get m = h.get m) {q : Nat} (ho : Own h' ρ q) : Own h ρ q := by
  obtain ⟨m, p, h1, h2, h3⟩ := ho
  exact ⟨m, p, by rw [← he]; exact h1, h2, h3⟩
theorem Stp.within {sA sB sC sD : St} (h : Stp s0 sA ρ0 ρ w0 w) (h' : Stp sB sC ρ ρ' w w') (hAB : sB.h = sA.h) (hD : sD.h = sC.h) (hDc : sD.c = sA.c) (h1 : s0.c ≤ sB.c) (h2 : sC.c ≤ sA.c) : Stp s0 sD ρ0 ρ' w0 w' := by
  refine ⟨fun m hm => ?_, Ren.le_trans h.le h'.le, h'.os.trans h.os, h'.tape.trans h.tape, h'.output.trans h.output, Nat.le_trans h.size h'.size, fun q hq ho => ?_, fun q hq => ?_⟩
  · rw [h'.ext m (by omega), h.ext m (by omega)]
  · rw [h'.block q (Nat.lt_of_lt_of_le hq h.size) (fun e => ?_), h.block q hq ho]
    rw [hAB] at e
    rcases h.own q e with e | e
    · exact ho e
    · omega
  · rw [hD] at hq
    rcases h'.own q hq with e | e
    · rw [hAB] at e
      exact h.own q e
    · exact .inr (Nat.le_trans h.size e)
structure Seq (E : Env) (ev : Ev) (rnd : Option Nat) (ops : Array Oper) (T0 : Tr AV) (nt : Nat) (ds : List ADef) (A : Nat → Tr AV) (H : Nat → Tr AObj) (C : Nat → Nat) (R W : Nat → TS) (B : Nat → Nat) (V : Nat → AV) (DS : Nat → List ADef) (kd : Nat) (D : List ADef) : Prop where
  run : ∀ (i : Nat) (o : Oper), ops[i]? = some o → operM E ev rnd ops.toList o (.mk (A i) nt (DS i)) (.mk (H i) (C i) [] []) = .ok (putT (A i) nt (DS (i + 1)) o.dst (V i)) (.mk (H (i + 1)) (C (i + 1)) (R i) (W i)) ∧ .mk (A (i + 1)) nt (DS (i + 1)) = putT (A i) nt (DS (i + 1)) o.dst (V i)
  dn : ∀ i, i < ops.size → i ≠ kd → DS (i + 1) = DS i
  dk : kd < ops.size → DS (kd + 1) = D ++ DS kd
  d0 : DS 0 = ds
  apart : ∀ i, i < ops.size → ∀ j, j < i → (B i).testBit j = true ∨ Apart (R i) (W i) (R j) (W j)
  slots : ∀ (i : Nat) (o : Oper) (j : Nat) (p : Oper), ops[i]? = some o → ops[j]? = some p → j < i → (B i).testBit j = true ∨ (Nat.beq (Nat.land (usedBits ops.toList o) (dstBit p)) 0 = true ∧ Nat.beq (Nat.land (dstBit o) (Nat.lor (dstBit p) (usedBits ops.toList p))) 0 = true)
  bef : ∀ (i : Nat) (o : Oper), ops[i]? = some o → ∀ j, (B i).testBit j = true → ∃ e ∈ o.after, Region.binds .any e = true ∧ (j = e.on ∨ (B e.on).testBit j = true)
  edge : ∀ (i : Nat) (o : Oper), ops[i]? = some o → ∀ e ∈ o.after, Region.binds .any e = true → e.on < i
variable {ops : Array Oper} {T0 : Tr AV} {nt : Nat} {ds : List ADef} {A : Nat → Tr AV} {H : Nat → Tr AObj} {C : Nat → Nat} {R W : Nat → TS} {B : Nat → Nat} {V : Nat → AV} {DS : Nat → List ADef} {kd : Nat} {D : List ADef}
def dstAt (ops : Array Oper) (i x : Nat) : Prop := ∃ o, ops[i]? = some o ∧ o.dst = some x
structure Inv (ops : Array Oper) (nt : Nat) (ds : List ADef) (A : Nat → Tr AV) (H : Nat → Tr AObj) (C : Nat → Nat) (W : Nat → TS) (kd : Nat) (D : List ADef) (s0 : St) (ρ0 : Ren) (w0 : World) (S : Nat → Prop) (act : Act) (w : World) : Prop where
  ex : ∃ (hS : Tr AObj) (TS : Tr AV) (ρ : Ren) (dS : List ADef), ((S kd → dS = D ++ ds) ∧ (¬ S kd → dS = ds)) ∧ (∀ m, hS.get m = gval (fun i => (H i).get m) S (fun i => (W i).has m) ops.size) ∧ (∀ x, slotA TS x = gval (fun i => slotA (A i) x) S (fun i => dstAt ops i x) ops.size) ∧
    ActR ρ (.mk TS nt dS) act ∧ WRel ρ hS w ∧ Stp s0 (.mk hS (C ops.size) [] []) ρ0 ρ w0 w ∧ ∀ k, k < ops.size → ¬ S k → ∀ m, C k ≤ m → m < C (k + 1) → ρ m = none
theorem slot_put (T : Tr AV) (dst : Option Tmp) (v : AV) (x : Nat) : slotA (putT T nt ds dst v).t x = if dst = some x then v else slotA T x := by
  cases dst with
  | none => simp [putT, AAct.t]
  | some d =>
    simp only [putT, AAct.t, slotA_put, Option.some.injEq]
    by_cases h : x = d
    · rw [if_pos h, if_pos h.symm]
    · rw [if_neg h, if_neg (fun e => h e.symm)]
theorem putT_mk (T : Tr AV) (dst : Option Tmp) (v : AV) : putT T nt ds dst v = .mk (putT T nt ds dst v).t nt ds := by cases dst <;> rfl
theorem putT_d (T : Tr AV) (dst : Option Tmp) (v : AV) : (putT T nt ds dst v).d = ds := by cases dst <;> rfl
theorem Seq.mono (hs : Seq E ev rnd ops T0 nt ds A H C R W B V DS kd D) (hl : LocEv ev) : ∀ {i j : Nat}, i ≤ j → j ≤ ops.size → C i ≤ C j := by
  intro i j hij
  induction hij with
  | refl => exact fun _ => Nat.le_refl _
  | step h ih =>
    rename_i m
    intro hj
    refine Nat.le_trans (ih (by omega)) ?_
    obtain ⟨o, ho⟩ : ∃ o, ops[m]? = some o := ⟨_, Array.getElem?_eq_getElem (by omega)⟩
    exact (Loc.operM hl _ _ _ _ _ _ _ _ _ _ _ _ _ (hs.run m o ho).1).grow
theorem inv_step (hE : EnvAll E P) (hev : EvOK P ev) (hl : LocEv ev) (hs : Seq E ev rnd ops T0 nt ds A H C R W B V DS kd D) (hF : FOf ρ0 rnd F) (h0 : s0.c = C 0) {S : Nat → Prop} {i : Nat} {o : Oper} (hi : ops[i]? = some o) (hnS : ¬ S i)
    (hB : ∀ j, (B i).testBit j = true → S j) (hcl : ∀ j, S j → ∀ k, (B j).testBit k = true → S k) (hSN : ∀ j, S j → j < ops.size) {act : Act} (hI : Inv ops nt ds A H C W kd D s0 ρ0 w0 S act w) {K : Act → World → Prop} {Q : Exit → Act → World → Prop}
    (hK : ∀ act' w', Inv ops nt ds A H C W kd D s0 ρ0 w0 (fun j => S j ∨ j = i) act' w' → K act' w') : wpOpIn F n P ops Q i K act w := by
  have hiN : i < ops.size := (Array.getElem?_eq_some_iff.1 hi).1
  obtain ⟨hS, TS, ρ, dS, i0, i1, i2, i3, i4, i5, i6⟩ := hI.ex
  obtain ⟨r1, r2⟩ := hs.run i o hi
  have at_ : ∀ j, j < ops.size → ∃ p, ops[j]? = some p := fun j hj => ⟨_, Array.getElem?_eq_getElem hj⟩
  have keepH : ∀ j, j < ops.size → ∀ m, ¬ (W j).has m → (H (j + 1)).get m = (H j).get m := fun j hj m hm => by
    obtain ⟨p, hp⟩ := at_ j hj
    exact (Loc.operM hl _ _ _ _ _ _ _ _ _ _ _ _ _ (hs.run j p hp).1).keep m hm
  have keepT : ∀ j, j < ops.size → ∀ x, ¬ dstAt ops j x → slotA (A (j + 1)) x = slotA (A j) x := fun j hj x hx => by
    obtain ⟨p, hp⟩ := at_ j hj
    have h1 := (hs.run j p hp).2
    have : A (j + 1) = (putT (A j) nt (DS (j + 1)) p.dst (V j)).t := by rw [← h1]; rfl
    rw [this, slot_put, if_neg (fun e => hx ⟨p, hp, e⟩)]
  have later : ∀ j, i < j → S j → ∀ m, (R i).has m ∨ (W i).has m → ¬ (W j).has m := fun j hj hSj m hm hw => by
    rcases hs.apart j (hSN j hSj) i hj with g | g
    · exact hnS (hcl j hSj i g)
    · obtain ⟨g1, g2⟩ := g.1 m hw
      rcases hm with hm | hm
      · exact g1 hm
      · exact g2 hm
  have laterT : ∀ j, i < j → S j → ∀ x, (usedBits ops.toList o).testBit x = true ∨ o.dst = some x → ¬ dstAt ops j x := fun j hj hSj x hx ⟨p, hp, hd⟩ => by
    rcases hs.slots j p i o hp hi hj with g | ⟨_, g⟩
    · exact hnS (hcl j hSj i g)
    · refine land_zero g (dstBit_iff.2 hd) ?_
      rw [show ∀ a b, Nat.lor a b = a ||| b from fun _ _ => rfl, Nat.testBit_or, Bool.or_eq_true]
      rcases hx with hx | hx
      · exact .inr hx
      · exact .inl (dstBit_iff.2 hx)
  have agree : ∀ m, m < C i → (R i).has m ∨ (W i).has m → hS.get m = (H i).get m := fun m _ hm => by
    rw [i1, gval_high i ops.size (Nat.le_of_lt hiN) (fun j h1 h2 h3 => ?_), gval_low i (fun j hj hw => ?_) (fun j hj hw => keepH j (by omega) m hw)]
    · rcases hs.apart i hiN j hj with g | g
      · exact hB j g
      · rcases hm with hm | hm
        · exact absurd hm (g.2 m hw)
        · exact absurd hw (g.1 m hm).2
    · rcases Nat.lt_or_ge i j with g | g
      · exact later j g h3.1 m hm h3.2
      · rw [Nat.le_antisymm g h1] at h3
        exact hnS h3.1
  have agreeT : ∀ x, (usedBits ops.toList o).testBit x = true → slotA (A i) x = slotA TS x := fun x hx => by
    rw [i2, gval_high i ops.size (Nat.le_of_lt hiN) (fun j h1 h2 h3 => ?_), gval_low i (fun j hj hw => ?_) (fun j hj hw => keepT j (by omega) x hw)]
    · obtain ⟨p, hp, hd⟩ := hw
      rcases hs.slots i o j p hi hp hj with g | ⟨g, _⟩
      · exact hB j g
      · exact (land_zero g hx (dstBit_iff.2 hd)).elim
    · rcases Nat.lt_or_ge i j with g | g
      · exact laterT j g h3.1 x (.inl hx) h3.2
      · rw [Nat.le_antisymm g h1] at h3
        exact hnS h3.1
  have lc := Loc.operM hl _ _ _ _ _ _ _ _ _ _ _ _ _ r1
  obtain ⟨h2', r2', w2', k1, _, k3, k4⟩ := lc.again hS [] [] agree
  obtain ⟨v, D', _, e1, e2⟩ := oper_sees k1
  have hrun := e2 TS dS agreeT
  have hD1 : DS (i + 1) = D' ++ DS i := by have := congrArg AAct.d e1; rwa [putT_d, putT_d] at this
  have hDi : (i = kd → D' = D) ∧ (i ≠ kd → D' = []) := by
    refine ⟨fun e => ?_, fun e => ?_⟩
    · subst e
      rw [hs.dk hiN] at hD1
      exact (List.append_cancel_right hD1).symm
    · rw [hs.dn i hiN e] at hD1
      exact List.append_cancel_right (hD1.symm.trans (List.nil_append _).symm)
  have hmono := fun {a b} h1 h2 => hs.mono (i := a) (j := b) hl h1 h2
  have hv : ∀ x, o.dst = some x → slotA (A (i + 1)) x = v := fun x hx => by
    have : A (i + 1) = (putT (A i) nt (DS (i + 1)) o.dst (V i)).t := by rw [← r2]; rfl
    rw [this, e1, slot_put, if_pos hx]
  refine oper_ok hE hev hl hi hrun (hF.mono i5.le) i4 (fun m h1 h2 => i6 i hiN hnS m h1 h2) i3 (fun ρ' act' w' ha hw hst => hK act' w' ⟨h2', (putT TS nt (D' ++ dS) o.dst v).t, ρ', D' ++ dS, ⟨fun hkd => ?_, fun hkd => ?_⟩, fun m => ?_, fun x => ?_, by rw [← putT_mk]; exact ha, hw, ?_, fun k hk hnk m h1 h2 => ?_⟩)
  · by_cases e : i = kd
    · subst e
      rw [hDi.1 rfl, i0.2 hnS]
    · rw [hDi.2 e, List.nil_append]
      exact i0.1 (hkd.resolve_right (fun h => e h.symm))
  · have e : i ≠ kd := fun h => hkd (.inr h.symm)
    rw [hDi.2 e, List.nil_append]
    exact i0.2 (fun h => hkd (.inl h))
  · by_cases hm : (W i).has m
    · rw [gval_add hiN (fun j => Iff.rfl) hm (fun j h1 h2 h3 => later j h1 h3.1 m (.inr hm) h3.2)]
      exact k3 m (by rcases lc.wlt m hm with g | g <;> first | exact absurd g (has_nil m) | exact g) hm
    · rw [k4 m hm, i1]
      refine (gval_congr (fun j => ?_) _).symm
      constructor
      · rintro ⟨g1 | rfl, g2⟩
        · exact ⟨g1, g2⟩
        · exact absurd g2 hm
      · rintro ⟨g1, g2⟩
        exact ⟨.inl g1, g2⟩
  · rw [slot_put]
    by_cases hx : o.dst = some x
    · rw [if_pos hx, gval_add hiN (fun j => Iff.rfl) ⟨o, hi, hx⟩ (fun j h1 h2 h3 => laterT j h1 h3.1 x (.inr hx) h3.2)]
      exact (hv x hx).symm
    · rw [if_neg hx, i2]
      refine (gval_congr (fun j => ?_) _).symm
      constructor
      · rintro ⟨g1 | rfl, g2⟩
        · exact ⟨g1, g2⟩
        · obtain ⟨p, hp, hd⟩ := g2
          rw [hi] at hp
          injection hp with hp
          subst hp
          exact absurd hd hx
      · rintro ⟨g1, g2⟩
        exact ⟨.inl g1, g2⟩
  · exact Stp.within i5 hst rfl rfl rfl (by rw [h0]; exact hmono (Nat.zero_le _) (Nat.le_of_lt hiN)) (hmono hiN (Nat.le_refl _))
  · have hki : k ≠ i := fun e => hnk (.inr e)
    rw [hst.ext m (fun hh => ?_)]
    · exact i6 k hk (fun e => hnk (.inl e)) m h1 h2
    · have hh1 : C i ≤ m := hh.1
      have hh2 : m < C (i + 1) := hh.2
      rcases Nat.lt_or_ge k i with g | g
      · have := hmono (a := k + 1) (b := i) g (Nat.le_of_lt hiN)
        omega
      · have := hmono (a := i + 1) (b := k) (by omega) (Nat.le_of_lt hk)
        omega
end
end Go.Proofs.YtdbgppknggaooaaGreatDoor.Vm
