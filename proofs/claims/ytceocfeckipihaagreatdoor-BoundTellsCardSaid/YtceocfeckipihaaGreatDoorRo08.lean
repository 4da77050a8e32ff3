/-
  Texts of this claim, joined: VR, VS.
-/
import Derived.Test.YtceocfeckipihaaGreatDoorRo07
set_option maxHeartbeats 6400000
set_option maxRecDepth 100000
namespace Go.Proofs.YtceocfeckipihaaGreatDoor.Vm
open Go
def NRel (ρ : Ren) : ANext → Next → Prop
  | .value v, r => ∃ u, r = .value u ∧ VRel ρ v u
  | .skip, r => r = .skip
  | .defer d, r => ∃ q, r = .defer q ∧ DRel1 ρ d q
section
variable {P : Program} {s s' s1 : St} {ρ ρ' : Ren} {w w' : World} {t e : TypeId} {i j : TyI}
theorem value_ok {m : M AV} {x : ANext} (h : value m s = .ok x s') : ∃ v, m s = .ok v s' ∧ x = .value v := by
  obtain ⟨v, s1, h1, h2⟩ := M.bind_ok.1 h
  obtain ⟨rfl, rfl⟩ := M.pure_ok.1 h2
  exact ⟨v, h1, rfl⟩
theorem skip_ok {m : M Unit} {x : ANext} (h : skip m s = .ok x s') : m s = .ok () s' ∧ x = .skip := by
  obtain ⟨v, s1, h1, h2⟩ := M.bind_ok.1 h
  obtain ⟨rfl, rfl⟩ := M.pure_ok.1 h2
  exact ⟨h1, rfl⟩
theorem Does.value {v : AV} {sem : Sem Value} (h : Does P s s' ρ w sem (fun ρ r => VRel ρ v r)) : Does P s s' ρ w (do pure (Next.value (← sem))) (fun ρ r => NRel ρ (.value v) r) := fun hf => by
  obtain ⟨ρ', w', u, h1, h2, h3, h4⟩ := h hf
  exact ⟨ρ', w', .value u, by rw [Sem.run_bind, h1]; rfl, ⟨u, rfl, h2⟩, h3, h4⟩
theorem Does.skip {sem : Sem Unit} {R : Ren → Unit → Prop} (h : Does P s s' ρ w sem R) : Does P s s' ρ w (do sem; pure Next.skip) (fun ρ r => NRel ρ .skip r) := fun hf => by
  obtain ⟨ρ', w', u, h1, h2, h3, h4⟩ := h hf
  exact ⟨ρ', w', .skip, by rw [Sem.run_bind, h1]; rfl, rfl, h3, h4⟩
theorem Does.just {sem : Sem Value} {v : AV} {u : Value} (hw : WRel ρ s.h w) (h : sem.run P w = .ok u w) (hv : VRel ρ v u) : Does P s s ρ w sem (fun ρ r => VRel ρ v r) := Does.read (Alike.refl _) hw h hv
theorem rdOpt_rel {T : Tr AV} {n : Nat} {x : Option Operand} {v : Option AV} {a : Act} (h : rdOpt T (optO x) s = .ok v s') (hT : TRel ρ T n a.tmps) : s' = s ∧ ORelO ρ v (x.map a.eval) := by
  cases x with
  | none =>
    obtain ⟨rfl, rfl⟩ := M.pure_ok.1 h
    exact ⟨rfl, trivial⟩
  | some x =>
    simp only [optO, rdOpt] at h
    obtain ⟨y, s1, h1, h2⟩ := M.bind_ok.1 h
    obtain ⟨rfl, rfl⟩ := M.pure_ok.1 h2
    obtain ⟨rfl, g⟩ := rd_rel h1 hT
    exact ⟨rfl, g⟩
theorem argT_ok {ts : List TypeId} {k : Nat} {f : TypeId → List AV → M AV} {vs : List AV} {v : AV} (h : argT ts k f vs s = .ok v s') : ∃ t, ts[k]? = some t ∧ f t vs s = .ok v s' := by
  unfold argT at h
  cases ht : ts[k]? with
  | none => rw [ht] at h; exact (M.fail_ok.1 h).elim
  | some t => rw [ht] at h; exact ⟨t, rfl, h⟩
theorem two_ok {f : AV → AV → M AV} {vs : List AV} {v : AV} (h : two f vs s = .ok v s') : ∃ a b, vs = [a, b] ∧ f a b s = .ok v s' := by
  unfold two at h
  rcases vs with _ | ⟨a, _ | ⟨b, _ | ⟨c, r⟩⟩⟩ <;> first | exact (M.fail_ok.1 h).elim | exact ⟨a, b, rfl, h⟩
theorem one_ok {f : AV → M AV} {vs : List AV} {v : AV} (h : one f vs s = .ok v s') : ∃ a, vs = [a] ∧ f a s = .ok v s' := by
  unfold one at h
  rcases vs with _ | ⟨a, _ | ⟨c, r⟩⟩ <;> first | exact (M.fail_ok.1 h).elim | exact ⟨a, rfl, h⟩
theorem LRel.one {a : AV} {us : Array Value} (h : LRel ρ [a] us.toList) : ∃ u, us = #[u] ∧ VRel ρ a u := by
  obtain ⟨u, l, h1, h2, h3⟩ := LRel.cons_iff.1 h
  rw [LRel.nil_iff.1 h3] at h1
  exact ⟨u, Array.ext' h1, h2⟩
theorem LRel.two {a b : AV} {us : Array Value} (h : LRel ρ [a, b] us.toList) : ∃ u x, us = #[u, x] ∧ VRel ρ a u ∧ VRel ρ b x := by
  obtain ⟨u, l, h1, h2, h3⟩ := LRel.cons_iff.1 h
  obtain ⟨x, l', h4, h5, h6⟩ := LRel.cons_iff.1 h3
  rw [LRel.nil_iff.1 h6] at h4
  rw [h4] at h1
  exact ⟨u, x, Array.ext' h1, h2, h5⟩
theorem builtin_does {E : Env} (hE : EnvOK E P) {b : Builtin} {ts : Array TypeId} {ty : TypeId} {cs : Array Bool} {vs : List AV} {us : Array Value} {v : AV} (h : builtinF E b ts.toList vs s = .ok v s') (hv : LRel ρ vs us.toList) (hw : WRel ρ s.h w) :
    Does P s s' ρ w (builtin b ts ty cs us) (fun ρ r => NRel ρ (.value v) r) := by
  cases b <;> simp only [builtinF] at h
  case append =>
    obtain ⟨t, ht, h⟩ := argT_ok h
    obtain ⟨tx, htx, h⟩ := argT_ok h
    obtain ⟨a, b, rfl, h⟩ := two_ok h
    obtain ⟨u, x, rfl, h1, h2⟩ := hv.two
    rw [Array.getElem?_toList] at ht htx
    exact Does.value (append_does hE ht htx h h1 h2 hw)
  case len =>
    obtain ⟨t, ht, h⟩ := argT_ok h
    obtain ⟨a, rfl, h⟩ := one_ok h
    obtain ⟨u, rfl, h1⟩ := hv.one
    rw [Array.getElem?_toList] at ht
    exact Does.value (len_does hE ht h h1 hw)
  case copy =>
    obtain ⟨t, ht, h⟩ := argT_ok h
    obtain ⟨a, b, rfl, h⟩ := two_ok h
    obtain ⟨u, x, rfl, h1, h2⟩ := hv.two
    rw [Array.getElem?_toList] at ht
    exact Does.value (copy_does hE ht h h1 h2 hw)
  case clear =>
    obtain ⟨t, ht, h⟩ := argT_ok h
    obtain ⟨a, rfl, h⟩ := one_ok h
    obtain ⟨u, rfl, h1⟩ := hv.one
    rw [Array.getElem?_toList] at ht
    exact Does.value (clear_does hE ht h h1 hw)
  case delete =>
    obtain ⟨t, ht, h⟩ := argT_ok h
    obtain ⟨a, b, rfl, h⟩ := two_ok h
    obtain ⟨u, x, rfl, h1, h2⟩ := hv.two
    rw [Array.getElem?_toList] at ht
    obtain ⟨i, hi, h⟩ := withTy_ok.1 h
    exact Does.value (delete_does hE ht (hE.ty _ _ hi) h h1 h2 hw)
  case cap =>
    obtain ⟨t, ht, h⟩ := argT_ok h
    obtain ⟨a, rfl, h⟩ := one_ok h
    obtain ⟨u, rfl, h1⟩ := hv.one
    rw [Array.getElem?_toList] at ht
    obtain ⟨i, hi, h⟩ := withTy_ok.1 h
    exact Does.value (cap_does ht (hE.ty _ _ hi) h h1 hw)
  case min =>
    obtain ⟨a, b, rfl, h⟩ := two_ok h
    obtain ⟨u, x, rfl, h1, h2⟩ := hv.two
    exact Does.value (min_does h h1 h2 hw)
  case max =>
    obtain ⟨a, b, rfl, h⟩ := two_ok h
    obtain ⟨u, x, rfl, h1, h2⟩ := hv.two
    exact Does.value (max_does h h1 h2 hw)
  all_goals exact (M.fail_ok.1 h).elim
theorem mapnew_does {n : Nat} (h : newM (.map [] 0) s = .ok n s') (hw : WRel ρ s.h w) : Does P s s' ρ w (newObj (.map #[] 0)) (fun ρ r => VRel ρ (.map n) (.map (some r))) := by
  obtain ⟨rfl, hs'⟩ := newM_ok.1 h
  intro hf
  have hf0 := hf.at (by rw [hs']; exact Nat.lt_succ_self _)
  have := new_rel (s' := s') (o := .map [] 0) (ob := .map #[] 0) (κ := 0) hw hf0 (by rw [hs']; rfl) (by rw [hs']; rfl) ⟨#[], rfl, rfl⟩
  exact ⟨_, _, w.heap.size, by simp [newObj, Sem.run, World.alloc_eq], ⟨_, Ren.put_same _ _ _, rfl⟩, this.1, this.2⟩
theorem fnOnly_rel {x : AV} {q : FuncId × List AV × List AV} {u : Value} (h : fnOnly x = some q) (hu : VRel ρ x u) : ∃ y z : Array Value, u = .func (.func q.1) y z ∧ LRel ρ q.2.1 y.toList ∧ LRel ρ q.2.2 z.toList := by
  cases x <;> simp only [fnOnly, Option.some.injEq, reduceCtorEq] at h
  subst h
  exact hu
theorem op_does {E : Env} (hE : EnvOK E P) {o : Oper} {f : Tr AV → M ANext} {T : Tr AV} {n : Nat} {a : Act} {x : ANext} (ho : opC E o.op = .simp f) (h : f T s = .ok x s') (hT : TRel ρ T n a.tmps) (hw : WRel ρ s.h w) :
    Does P s s' ρ w (execOp a.eval o) (fun ρ r => NRel ρ x r) := by
  obtain ⟨dst, op, type, pos, after, guard⟩ := o
  cases op <;> simp only [opC] at ho
  case move y =>
    injection ho with ho; subst ho
    obtain ⟨v, s1, h1, h2⟩ := M.bind_ok.1 h
    obtain ⟨rfl, g1⟩ := rd_rel h1 hT
    obtain ⟨v', h3, rfl⟩ := value_ok h2
    obtain ⟨rfl, rfl⟩ := M.pure_ok.1 h3
    exact Does.read (Alike.refl _) hw (u := .value (a.eval y)) rfl ⟨_, rfl, g1⟩
  case assign y =>
    injection ho with ho; subst ho
    obtain ⟨v, s1, h1, h2⟩ := M.bind_ok.1 h
    obtain ⟨rfl, g1⟩ := rd_rel h1 hT
    obtain ⟨v', h3, rfl⟩ := value_ok h2
    obtain ⟨rfl, rfl⟩ := M.pure_ok.1 h3
    exact Does.read (Alike.refl _) hw (u := .value (a.eval y)) rfl ⟨_, rfl, g1⟩
  case pick c y z =>
    injection ho with ho; subst ho
    obtain ⟨v, s1, h1, h2⟩ := M.bind_ok.1 h
    obtain ⟨rfl, g1⟩ := rd_rel h1 hT
    obtain ⟨b, s2, h3, h4⟩ := M.bind_ok.1 h2
    obtain ⟨hb, rfl⟩ := M.of_ok.1 h3
    obtain ⟨v', h5, rfl⟩ := value_ok h4
    have hc := boolA_rel hb g1
    cases b with
    | true =>
      obtain ⟨rfl, g2⟩ := rd_rel (x := y) h5 hT
      exact Does.read (Alike.refl _) hw (u := .value (a.eval y)) (by simp [execOp, hc, asBool]) ⟨_, rfl, g2⟩
    | false =>
      obtain ⟨rfl, g2⟩ := rd_rel (x := z) h5 hT
      exact Does.read (Alike.refl _) hw (u := .value (a.eval z)) (by simp [execOp, hc, asBool]) ⟨_, rfl, g2⟩
  case alloc el =>
    injection ho with ho; subst ho
    obtain ⟨i, hi, h2⟩ := withTy_ok.1 h
    obtain ⟨m, s1, h3, h4⟩ := M.bind_ok.1 h2
    obtain ⟨rfl, rfl⟩ := M.pure_ok.1 h4
    exact Does.value (alloc_does (hE.ty _ _ hi) h3 hw)
  case box el y =>
    injection ho with ho; subst ho
    obtain ⟨v, s1, h1, h2⟩ := M.bind_ok.1 h
    obtain ⟨rfl, g1⟩ := rd_rel h1 hT
    obtain ⟨cs, s2, h3, h4⟩ := M.bind_ok.1 h2
    obtain ⟨hc, rfl⟩ := M.of_ok.1 h3
    obtain ⟨m, s3, h5, h6⟩ := M.bind_ok.1 h4
    obtain ⟨rfl, rfl⟩ := M.pure_ok.1 h6
    exact Does.value (box_does hc h5 g1 hw)
  case build ty ps =>
    injection ho with ho; subst ho
    obtain ⟨i, hi, h2⟩ := withTy_ok.1 h
    obtain ⟨vs, s1, h3, h4⟩ := M.bind_ok.1 h2
    obtain ⟨rfl, g1⟩ := rdsP_rel hT h3
    obtain ⟨v', h5, rfl⟩ := value_ok h4
    exact Does.value (build_does hE (hE.ty _ _ hi) h5 (by simpa using g1) hw)
  case buildSlice ty len ps =>
    injection ho with ho; subst ho
    obtain ⟨i, hi, h2⟩ := withTy_ok.1 h
    obtain ⟨vs, s1, h3, h4⟩ := M.bind_ok.1 h2
    obtain ⟨rfl, g1⟩ := rdsP_rel hT h3
    obtain ⟨v', h5, rfl⟩ := value_ok h4
    exact Does.value (buildSlice_does hE (hE.ty _ _ hi) h5 (by simpa using g1) hw)
  case load ty y =>
    injection ho with ho; subst ho
    obtain ⟨i, hi, h2⟩ := withTy_ok.1 h
    obtain ⟨v, s1, h3, h4⟩ := M.bind_ok.1 h2
    obtain ⟨rfl, g1⟩ := rd_rel h3 hT
    obtain ⟨v', h5, rfl⟩ := value_ok h4
    exact Does.value (loadM_does (hE.ty _ _ hi) h5 g1 hw)
  case store ty y z =>
    injection ho with ho; subst ho
    obtain ⟨i, hi, h2⟩ := withTy_ok.1 h
    obtain ⟨v, s1, h3, h4⟩ := M.bind_ok.1 h2
    obtain ⟨rfl, g1⟩ := rd_rel h3 hT
    obtain ⟨v2, s2, h5, h6⟩ := M.bind_ok.1 h4
    obtain ⟨rfl, g2⟩ := rd_rel h5 hT
    obtain ⟨h7, rfl⟩ := skip_ok h6
    exact Does.skip (storeM_does (hE.ty _ _ hi) h7 g1 g2 hw)
  case nilCheck y =>
    injection ho with ho; subst ho
    obtain ⟨v, s1, h1, h2⟩ := M.bind_ok.1 h
    obtain ⟨rfl, g1⟩ := rd_rel h1 hT
    obtain ⟨v', h3, rfl⟩ := value_ok h2
    unfold notNil at h3
    cases hl : liveA v with
    | false => rw [bif_false _ _ hl] at h3; exact (M.fail_ok.1 h3).elim
    | true =>
      rw [bif_true _ _ hl] at h3
      obtain ⟨rfl, rfl⟩ := M.pure_ok.1 h3
      refine Does.read (Alike.refl _) hw (u := .value (a.eval y)) ?_ ⟨_, rfl, g1⟩
      rcases live_rel hl g1 with ⟨p, e⟩ | ⟨m, e⟩ | ⟨f, x, z, e⟩ | ⟨l, x, z, e⟩ | ⟨t, z, e⟩ <;> simp [execOp, e]
  case binOp op ty y z ty2 =>
    injection ho with ho; subst ho
    obtain ⟨v, s1, h3, h4⟩ := M.bind_ok.1 h
    obtain ⟨rfl, g1⟩ := rd_rel h3 hT
    obtain ⟨v2, s2, h5, h6⟩ := M.bind_ok.1 h4
    obtain ⟨rfl, g2⟩ := rd_rel h5 hT
    obtain ⟨v', h7, rfl⟩ := value_ok h6
    exact Does.value (bin_does hE rfl h7 g1 g2 hw)
  case unOp op ty y =>
    injection ho with ho; subst ho
    obtain ⟨v, s1, h3, h4⟩ := M.bind_ok.1 h
    obtain ⟨rfl, g1⟩ := rd_rel h3 hT
    obtain ⟨v', h7, rfl⟩ := value_ok h4
    exact Does.value (un_does h7 g1 hw)
  case convert src dst y =>
    injection ho with ho; subst ho
    obtain ⟨v, s1, h3, h4⟩ := M.bind_ok.1 h
    obtain ⟨rfl, g1⟩ := rd_rel h3 hT
    obtain ⟨v', h7, rfl⟩ := value_ok h4
    exact Does.value (conv_does hE h7 g1 hw)
  case makeInterface ty y =>
    injection ho with ho; subst ho
    obtain ⟨i, hi, h2⟩ := withTy_ok.1 h
    obtain ⟨v, s1, h3, h4⟩ := M.bind_ok.1 h2
    obtain ⟨rfl, g1⟩ := rd_rel h3 hT
    obtain ⟨v', h7, rfl⟩ := value_ok h4
    cases hc : concreteD i.desc with
    | false => simp only [hc, cond_false] at h7; exact (M.fail_ok.1 h7).elim
    | true =>
      simp only [hc, cond_true] at h7
      obtain ⟨rfl, rfl⟩ := M.pure_ok.1 h7
      obtain ⟨d, hd, hdr⟩ := (hE.ty _ _ hi).desc
      refine Does.value (Does.just hw (u := .iface ty (a.eval y)) ?_ ⟨_, rfl, g1⟩)
      cases hds : i.desc <;> rw [hds] at hdr hc <;> first | (cases hc; done) | skip
      all_goals first
        | (obtain rfl := hdr; simp [Instr.makeInterface, run_underlying hd]; done)
        | (obtain ⟨_, rfl, _⟩ := hdr; simp [Instr.makeInterface, run_underlying hd]; done)
        | (obtain ⟨_, _, _, rfl⟩ := hdr; simp [Instr.makeInterface, run_underlying hd]; done)
  case makeFunc fn y z =>
    unfold funC at ho
    cases fn <;> simp only at ho
    case func g =>
      injection ho with ho; subst ho
      obtain ⟨vs, s1, h3, h4⟩ := M.bind_ok.1 h
      obtain ⟨rfl, g1⟩ := rds_rel hT h3
      obtain ⟨us, s2, h5, h6⟩ := M.bind_ok.1 h4
      obtain ⟨rfl, g2⟩ := rds_rel hT h5
      obtain ⟨rfl, rfl⟩ := M.pure_ok.1 h6
      exact Does.value (Does.just hw (u := .func (.func g) (y.map a.eval) (z.map a.eval)) rfl ⟨_, _, rfl, by simpa using g1, by simpa using g2⟩)
    all_goals
      injection ho with ho; subst ho
      exact (M.fail_ok.1 h).elim
  case makeMap ty r =>
    unfold mapC at ho
    cases r with
    | none =>
      injection ho with ho; subst ho
      obtain ⟨m, s1, h3, h4⟩ := M.bind_ok.1 h
      obtain ⟨rfl, rfl⟩ := M.pure_ok.1 h4
      intro hf
      obtain ⟨ρ', w', u, k1, k2, k3, k4⟩ := mapnew_does (P := P) h3 hw hf
      refine ⟨ρ', w', .value (.map (some u)), ?_, ⟨_, rfl, k2⟩, k3, k4⟩
      simp only [execOp, Instr.makeMap]
      generalize newObj (.map #[] 0) = no at k1 ⊢
      simp [k1]
    | some r =>
      injection ho with ho; subst ho
      obtain ⟨i, hi, h2⟩ := withTy_ok.1 h
      obtain ⟨v, s1, h3, h4⟩ := M.bind_ok.1 h2
      obtain ⟨rfl, g1⟩ := rd_rel h3 hT
      obtain ⟨q, s2, h5, h6⟩ := M.bind_ok.1 h4
      obtain ⟨hq, rfl⟩ := M.of_ok.1 h5
      obtain ⟨q2, s3, h7, h8⟩ := M.bind_ok.1 h6
      obtain ⟨hq2, rfl⟩ := M.of_ok.1 h7
      obtain ⟨m, s1, h9, h10⟩ := M.bind_ok.1 h8
      obtain ⟨rfl, rfl⟩ := M.pure_ok.1 h10
      have hin := intA_rel hq g1
      intro hf
      obtain ⟨ρ', w', u, k1, k2, k3, k4⟩ := mapnew_does (P := P) h9 hw hf
      refine ⟨ρ', w', .value (.map (some u)), ?_, ⟨_, rfl, k2⟩, k3, k4⟩
      simp only [execOp, Instr.makeMap]
      generalize newObj (.map #[] 0) = no at k1 ⊢
      simp [hin, run_underlying ((hE.ty _ _ hi).map hq2), asInt, asIntOf, k1]
  case makeSlice ty l c =>
    injection ho with ho; subst ho
    obtain ⟨i, hi, h2⟩ := withTy_ok.1 h
    obtain ⟨v, s1, h3, h4⟩ := M.bind_ok.1 h2
    obtain ⟨rfl, g1⟩ := rd_rel h3 hT
    obtain ⟨v2, s2, h5, h6⟩ := M.bind_ok.1 h4
    obtain ⟨rfl, g2⟩ := rd_rel h5 hT
    obtain ⟨v', h7, rfl⟩ := value_ok h6
    exact Does.value (makeSlice_does hE (hE.ty _ _ hi) h7 g1 g2 hw)
  case slice ty y lo hi' mx =>
    injection ho with ho; subst ho
    obtain ⟨i, hi, h2⟩ := withTy_ok.1 h
    obtain ⟨v, s1, h3, h4⟩ := M.bind_ok.1 h2
    obtain ⟨rfl, g1⟩ := rd_rel h3 hT
    obtain ⟨v2, s2, h5, h6⟩ := M.bind_ok.1 h4
    obtain ⟨rfl, g2⟩ := rdOpt_rel h5 hT
    obtain ⟨v3, s3, h7, h8⟩ := M.bind_ok.1 h6
    obtain ⟨rfl, g3⟩ := rdOpt_rel h7 hT
    obtain ⟨v4, s4, h9, h10⟩ := M.bind_ok.1 h8
    obtain ⟨rfl, g4⟩ := rdOpt_rel h9 hT
    obtain ⟨v', h11, rfl⟩ := value_ok h10
    exact Does.value (slice_does hE (hE.ty _ _ hi) h11 g1 g2 g3 g4 hw)
  case fieldAddr ty y k =>
    injection ho with ho; subst ho
    obtain ⟨i, hi, h2⟩ := withTy_ok.1 h
    obtain ⟨v, s1, h3, h4⟩ := M.bind_ok.1 h2
    obtain ⟨rfl, g1⟩ := rd_rel h3 hT
    obtain ⟨v', h7, rfl⟩ := value_ok h4
    exact Does.value (fieldAddr_does hE (hE.ty _ _ hi) h7 g1 hw)
  case field ty y k =>
    injection ho with ho; subst ho
    obtain ⟨i, hi, h2⟩ := withTy_ok.1 h
    obtain ⟨v, s1, h3, h4⟩ := M.bind_ok.1 h2
    obtain ⟨rfl, g1⟩ := rd_rel h3 hT
    obtain ⟨v', h7, rfl⟩ := value_ok h4
    exact Does.value (field_does hE (hE.ty _ _ hi) h7 g1 hw)
  case indexAddr ty y z =>
    injection ho with ho; subst ho
    obtain ⟨i, hi, h2⟩ := withTy_ok.1 h
    obtain ⟨v, s1, h3, h4⟩ := M.bind_ok.1 h2
    obtain ⟨rfl, g1⟩ := rd_rel h3 hT
    obtain ⟨v2, s2, h5, h6⟩ := M.bind_ok.1 h4
    obtain ⟨rfl, g2⟩ := rd_rel h5 hT
    obtain ⟨v', h7, rfl⟩ := value_ok h6
    exact Does.value (indexAddr_does hE (hE.ty _ _ hi) h7 g1 g2 hw)
  case index ty y z =>
    injection ho with ho; subst ho
    obtain ⟨i, hi, h2⟩ := withTy_ok.1 h
    obtain ⟨v, s1, h3, h4⟩ := M.bind_ok.1 h2
    obtain ⟨rfl, g1⟩ := rd_rel h3 hT
    obtain ⟨v2, s2, h5, h6⟩ := M.bind_ok.1 h4
    obtain ⟨rfl, g2⟩ := rd_rel h5 hT
    obtain ⟨v', h7, rfl⟩ := value_ok h6
    exact Does.value (index_does hE (hE.ty _ _ hi) h7 g1 g2 hw)
  case lookup ty y z ok =>
    injection ho with ho; subst ho
    obtain ⟨i, hi, h2⟩ := withTy_ok.1 h
    obtain ⟨v, s1, h3, h4⟩ := M.bind_ok.1 h2
    obtain ⟨rfl, g1⟩ := rd_rel h3 hT
    obtain ⟨v2, s2, h5, h6⟩ := M.bind_ok.1 h4
    obtain ⟨rfl, g2⟩ := rd_rel h5 hT
    obtain ⟨v', h7, rfl⟩ := value_ok h6
    exact Does.value (lookup_does hE (hE.ty _ _ hi) h7 g1 g2 hw)
  case mapUpdate ty m y z =>
    injection ho with ho; subst ho
    obtain ⟨i, hi, h2⟩ := withTy_ok.1 h
    obtain ⟨v, s1, h3, h4⟩ := M.bind_ok.1 h2
    obtain ⟨rfl, g1⟩ := rd_rel h3 hT
    obtain ⟨v2, s2, h5, h6⟩ := M.bind_ok.1 h4
    obtain ⟨rfl, g2⟩ := rd_rel h5 hT
    obtain ⟨v3, s3, h7, h8⟩ := M.bind_ok.1 h6
    obtain ⟨rfl, g3⟩ := rd_rel h7 hT
    obtain ⟨h9, rfl⟩ := skip_ok h8
    exact Does.skip (update_does hE (hE.ty _ _ hi) h9 g1 g2 g3 hw)
  case insert ty m y z =>
    injection ho with ho; subst ho
    obtain ⟨i, hi, h2⟩ := withTy_ok.1 h
    obtain ⟨v, s1, h3, h4⟩ := M.bind_ok.1 h2
    obtain ⟨rfl, g1⟩ := rd_rel h3 hT
    obtain ⟨v2, s2, h5, h6⟩ := M.bind_ok.1 h4
    obtain ⟨rfl, g2⟩ := rd_rel h5 hT
    obtain ⟨v3, s3, h7, h8⟩ := M.bind_ok.1 h6
    obtain ⟨rfl, g3⟩ := rd_rel h7 hT
    obtain ⟨h9, rfl⟩ := skip_ok h8
    exact Does.skip (update_does hE (hE.ty _ _ hi) h9 g1 g2 g3 hw)
  case range ty y =>
    injection ho with ho; subst ho
    obtain ⟨i, hi, h2⟩ := withTy_ok.1 h
    obtain ⟨v, s1, h3, h4⟩ := M.bind_ok.1 h2
    obtain ⟨rfl, g1⟩ := rd_rel h3 hT
    obtain ⟨v', h7, rfl⟩ := value_ok h4
    exact Does.value (range_does (hE.ty _ _ hi) h7 g1 hw)
  case next y b =>
    cases b with
    | true =>
      injection ho with ho; subst ho
      obtain ⟨v, s1, h3, h4⟩ := M.bind_ok.1 h
      obtain ⟨rfl, g1⟩ := rd_rel h3 hT
      obtain ⟨v', h7, rfl⟩ := value_ok h4
      exact Does.value (nextS_does h7 g1 hw)
    | false =>
      injection ho with ho; subst ho
      obtain ⟨v, s1, h3, h4⟩ := M.bind_ok.1 h
      obtain ⟨rfl, g1⟩ := rd_rel h3 hT
      obtain ⟨v', h7, rfl⟩ := value_ok h4
      exact Does.value (next_does h7 g1 hw)
  case entry y =>
    injection ho with ho; subst ho
    obtain ⟨v, s1, h3, h4⟩ := M.bind_ok.1 h
    obtain ⟨rfl, g1⟩ := rd_rel h3 hT
    obtain ⟨v', h7, rfl⟩ := value_ok h4
    exact Does.value (entry_does h7 g1 hw)
  case extract y k =>
    injection ho with ho; subst ho
    obtain ⟨v, s1, h3, h4⟩ := M.bind_ok.1 h
    obtain ⟨rfl, g1⟩ := rd_rel h3 hT
    obtain ⟨vs, s2, h5, h6⟩ := M.bind_ok.1 h4
    obtain ⟨hv, rfl⟩ := M.of_ok.1 h5
    obtain ⟨v', h7, rfl⟩ := value_ok h6
    obtain ⟨hk, rfl⟩ := M.of_ok.1 h7
    exact Does.value (extract_does hv hk g1 hw)
  case call c =>
    obtain ⟨callee, args, argTypes⟩ := c
    unfold callC at ho
    cases callee with
    | builtin b =>
      injection ho with ho; subst ho
      obtain ⟨vs, s1, h3, h4⟩ := M.bind_ok.1 h
      obtain ⟨rfl, g1⟩ := rds_rel hT h3
      obtain ⟨v', h7, rfl⟩ := value_ok h4
      have hb := builtin_does (ty := type) (cs := args.map fun | .const _ => true | _ => false) (us := args.map a.eval) hE h7 (by simpa using g1) hw
      intro hf
      obtain ⟨ρ', w', u, k1, k2, k3, k4⟩ := hb hf
      exact ⟨ρ', w', u, by simp only [execOp, resolve, Sem.run_bind, Sem.run_pure, Result.andThen_ok, invoke]; exact k1, k2, k3, k4⟩
    | value y => cases ho
    | invoke y m => cases ho
  case defer c =>
    obtain ⟨callee, args, argTypes⟩ := c
    unfold deferC at ho
    cases callee with
    | value y =>
      injection ho with ho; subst ho
      obtain ⟨vs, s1, h3, h4⟩ := M.bind_ok.1 h
      obtain ⟨rfl, g1⟩ := rds_rel hT h3
      obtain ⟨v, s2, h5, h6⟩ := M.bind_ok.1 h4
      obtain ⟨rfl, g2⟩ := rd_rel h5 hT
      obtain ⟨q, s3, h7, h8⟩ := M.bind_ok.1 h6
      obtain ⟨hq, rfl⟩ := M.of_ok.1 h7
      obtain ⟨rfl, rfl⟩ := M.pure_ok.1 h8
      obtain ⟨x1, x2, e1, e2, e3⟩ := fnOnly_rel hq g2
      refine Does.read (Alike.refl _) hw (u := .defer { target := .fn (.func q.1) x2, args := x1 ++ args.map a.eval }) ?_ ⟨_, rfl, x2, x1 ++ args.map a.eval, rfl, ?_, e3⟩
      · simp [execOp, resolve, e1, Deferred.ofValue]
      · simpa using LRel.append e2 g1
    | builtin b =>
      injection ho with ho; subst ho
      exact (M.fail_ok.1 h).elim
    | invoke y m =>
      injection ho with ho; subst ho
      exact (M.fail_ok.1 h).elim
  all_goals
    injection ho with ho; subst ho
    exact (M.fail_ok.1 h).elim
end
end Go.Proofs.YtceocfeckipihaaGreatDoor.Vm
namespace Go.Proofs.YtceocfeckipihaaGreatDoor.Vm
open Go
def TS.has (t : TS) (n : Nat) : Prop := ∃ m, (n / 256, m) ∈ t ∧ m.testBit (n % 256) = true
theorem addT_has : ∀ (t : TS) (c b n : Nat), TS.has (addT t c b) n ↔ TS.has t n ∨ (n / 256 = c ∧ b.testBit (n % 256) = true)
  | [], c, b, n => by
    simp only [addT, TS.has, List.mem_singleton, List.not_mem_nil, false_and, exists_false, false_or, Prod.mk.injEq]
    exact ⟨fun ⟨m, ⟨h1, h2⟩, h3⟩ => ⟨h1, by rw [← h2]; exact h3⟩, fun ⟨h1, h2⟩ => ⟨b, ⟨h1, rfl⟩, h2⟩⟩
  | (c', m) :: r, c, b, n => by
    unfold addT
    simp only [forceN_eq]
    cases hb : Nat.beq c c' with
    | true =>
      have hc := beq_true.1 hb
      subst hc
      simp only [cond_true, TS.has, List.mem_cons, Prod.mk.injEq]
      constructor
      · rintro ⟨k, ⟨h1, h2⟩ | h1, h3⟩
        · subst h2
          rw [show (Nat.lor m b) = m ||| b from rfl, Nat.testBit_or, Bool.or_eq_true] at h3
          rcases h3 with h3 | h3
          · exact .inl ⟨m, .inl ⟨h1, rfl⟩, h3⟩
          · exact .inr ⟨h1, h3⟩
        · exact .inl ⟨k, .inr h1, h3⟩
      · rintro (⟨k, ⟨h1, h2⟩ | h1, h3⟩ | ⟨h1, h3⟩)
        · subst h2
          exact ⟨_, .inl ⟨h1, rfl⟩, by rw [show (Nat.lor k b) = k ||| b from rfl, Nat.testBit_or, h3, Bool.true_or]⟩
        · exact ⟨k, .inr h1, h3⟩
        · exact ⟨_, .inl ⟨h1, rfl⟩, by rw [show (Nat.lor m b) = m ||| b from rfl, Nat.testBit_or, h3, Bool.or_true]⟩
    | false =>
      have ih := addT_has r c b n
      simp only [cond_false, TS.has, List.mem_cons, Prod.mk.injEq] at ih ⊢
      constructor
      · rintro ⟨k, h1 | h1, h3⟩
        · exact .inl ⟨k, .inl h1, h3⟩
        · rcases ih.1 ⟨k, h1, h3⟩ with ⟨k, h1, h3⟩ | h
          · exact .inl ⟨k, .inr h1, h3⟩
          · exact .inr h
      · rintro (⟨k, h1 | h1, h3⟩ | h)
        · exact ⟨k, .inl h1, h3⟩
        · obtain ⟨k, h1, h3⟩ := ih.2 (.inl ⟨k, h1, h3⟩)
          exact ⟨k, .inr h1, h3⟩
        · obtain ⟨k, h1, h3⟩ := ih.2 (.inr h)
          exact ⟨k, .inr h1, h3⟩
theorem bit_one (k j : Nat) : (Nat.shiftLeft 1 k).testBit j = true ↔ j = k := by
  rw [show Nat.shiftLeft 1 k = 1 <<< k from rfl, Nat.testBit_shiftLeft]
  constructor
  · intro h
    rw [Bool.and_eq_true] at h
    have h1 := of_decide_eq_true h.1
    have h2 := h.2
    rw [Nat.testBit_one_eq_true_iff_self_eq_zero] at h2
    omega
  · rintro rfl
    simp
theorem add_has (t : TS) (n m : Nat) : (t.add n).has m ↔ t.has m ∨ m = n := by
  unfold TS.add
  rw [addT_has, show Nat.mod n 256 = n % 256 from rfl, show Nat.div n 256 = n / 256 from rfl, bit_one]
  constructor
  · rintro (h | ⟨h1, h2⟩)
    · exact .inl h
    · exact .inr (by omega)
  · rintro (h | rfl)
    · exact .inl h
    · exact .inr ⟨rfl, rfl⟩
theorem or_has : ∀ (a b : TS) (n : Nat), (TS.or a b).has n ↔ a.has n ∨ b.has n
  | [], b, n => by simp [TS.or, TS.has]
  | (c, m) :: r, b, n => by
    unfold TS.or
    simp only [addT_has, or_has r b n]
    simp only [TS.has, List.mem_cons, Prod.mk.injEq]
    constructor
    · rintro ((⟨k, h1, h2⟩ | h) | ⟨h1, h2⟩)
      · exact .inl ⟨k, .inr h1, h2⟩
      · exact .inr h
      · exact .inl ⟨m, .inl ⟨h1, rfl⟩, h2⟩
    · rintro (⟨k, ⟨h1, rfl⟩ | h1, h2⟩ | h)
      · exact .inr ⟨h1, h2⟩
      · exact .inl (.inl ⟨k, h1, h2⟩)
      · exact .inl (.inr h)
theorem meets1_no : ∀ {t : TS} {c m m' : Nat}, meets1 c m t = false → (c, m') ∈ t → Nat.land m m' = 0
  | [], _, _, _, _, h => by cases h
  | (c', k) :: r, c, m, m', h, hm => by
    unfold meets1 at h
    simp only at h
    cases hb : Nat.beq c c' with
    | true =>
      rw [bif_true _ _ hb, Bool.or_eq_false_iff] at h
      rcases List.mem_cons.1 hm with e | e
      · injection e with _ e2
        subst e2
        have := h.1
        cases hz : Nat.beq (Nat.land m m') 0 with
        | true => exact beq_true.1 hz
        | false => rw [hz] at this; cases this
      · exact meets1_no h.2 e
    | false =>
      rw [bif_false _ _ hb] at h
      rcases List.mem_cons.1 hm with e | e
      · injection e with e1 _
        rw [beq_true.2 e1] at hb
        cases hb
      · exact meets1_no h e
theorem meets_no : ∀ {a b : TS} {n : Nat}, meets a b = false → a.has n → b.has n → False
  | [], _, _, _, ⟨_, h, _⟩, _ => by cases h
  | (c, m) :: r, b, n, h, ⟨k, h1, h2⟩, ⟨k', h3, h4⟩ => by
    unfold meets at h
    rw [Bool.or_eq_false_iff] at h
    rcases List.mem_cons.1 h1 with e | e
    · injection e with e1 e2
      subst e2
      rw [← e1] at h
      have h5 := meets1_no h.1 h3
      have h6 : (Nat.land k k').testBit (n % 256) = true := by
        rw [show Nat.land k k' = k &&& k' from rfl, Nat.testBit_and, h2, h4]
        rfl
      rw [h5, Nat.zero_testBit] at h6
      cases h6
    · exact meets_no h.2 ⟨k, e, h2⟩ ⟨k', h3, h4⟩
structure LocAt {α : Type} (m : M α) (h : Tr AObj) (c : Nat) (r w : TS) (a : α) (h' : Tr AObj) (c' : Nat) (r' w' : TS) : Prop where
  grow : c ≤ c'
  rsub : ∀ n, r.has n → r'.has n
  wsub : ∀ n, w.has n → w'.has n
  fresh : ∀ n, c ≤ n → n < c' → w'.has n
  keep : ∀ n, ¬ w'.has n → h'.get n = h.get n
  wlt : ∀ n, w'.has n → w.has n ∨ n < c'
  again : ∀ (h2 : Tr AObj) (r2 w2 : TS), (∀ n, n < c → r'.has n ∨ w'.has n → h2.get n = h.get n) → ∃ h2' r2' w2', m (.mk h2 c r2 w2) = .ok a (.mk h2' c' r2' w2') ∧ (r2 = r → w2 = w → r2' = r' ∧ w2' = w') ∧
    (∀ n, n < c' → w'.has n → h2'.get n = h'.get n) ∧ ∀ n, ¬ w'.has n → h2'.get n = h2.get n
def Loc {α : Type} (m : M α) : Prop := ∀ h c r w a h' c' r' w', m (.mk h c r w) = .ok a (.mk h' c' r' w') → LocAt m h c r w a h' c' r' w'
section
variable {α β : Type}
theorem Loc.same {m : M α} (hm : ∀ s a s', m s = .ok a s' → s' = s ∧ ∀ s2, m s2 = .ok a s2) : Loc m := by
  intro h c r w a h' c' r' w' hr
  obtain ⟨h1, h2⟩ := hm _ _ _ hr
  injection h1 with e1 e2 e3 e4
  subst e1 e2 e3 e4
  exact ⟨Nat.le_refl _, fun _ h => h, fun _ h => h, fun n h1 h2 => by omega, fun _ _ => rfl, fun _ h => .inl h, fun g2 r2 w2 ha => ⟨g2, r2, w2, h2 _, fun e1 e2 => ⟨e1, e2⟩, fun n h1 h2 => ha n h1 (.inr h2), fun _ _ => rfl⟩⟩
theorem Loc.pure (a : α) : Loc (M.pure a) := Loc.same fun s b s' h => by
  obtain ⟨rfl, rfl⟩ := M.pure_ok.1 h
  exact ⟨rfl, fun _ => rfl⟩
theorem Loc.fail (e : String) : Loc (M.fail e : M α) := fun _ _ _ _ _ _ _ _ _ h => (M.fail_ok.1 h).elim
theorem Loc.of (o : Option α) (e : String) : Loc (M.of o e) := Loc.same fun s b s' h => by
  obtain ⟨rfl, rfl⟩ := M.of_ok.1 h
  exact ⟨rfl, fun _ => rfl⟩
theorem Loc.bind {m : M α} {k : α → M β} (hm : Loc m) (hk : ∀ a, Loc (k a)) : Loc (M.bind m k) := by
  intro h c r w b h' c' r' w' hr
  obtain ⟨a, ⟨h1, c1, r1, w1⟩, e1, e2⟩ := M.bind_ok.1 hr
  have l1 := hm _ _ _ _ _ _ _ _ _ e1
  have l2 := hk a _ _ _ _ _ _ _ _ _ e2
  refine ⟨Nat.le_trans l1.grow l2.grow, fun n hn => l2.rsub n (l1.rsub n hn), fun n hn => l2.wsub n (l1.wsub n hn), fun n g1 g2 => ?_, fun n hn => ?_, fun n hn => ?_, fun h2 r2 w2 ha => ?_⟩
  · rcases Nat.lt_or_ge n c1 with g | g
    · exact l2.wsub n (l1.fresh n g1 g)
    · exact l2.fresh n g g2
  · rw [l2.keep n hn, l1.keep n (fun e => hn (l2.wsub n e))]
  · rcases l2.wlt n hn with g | g
    · exact (l1.wlt n g).imp id (fun g => Nat.lt_of_lt_of_le g l2.grow)
    · exact .inr g
  · obtain ⟨h2', r2', w2', f1, f2, f3, f4⟩ := l1.again h2 r2 w2 (fun n hn hh => ha n hn (hh.imp (l2.rsub n) (l2.wsub n)))
    obtain ⟨h3, r3, w3, k1, k2, k3, k4⟩ := l2.again h2' r2' w2' (fun n hn hh => by
      by_cases hw : w1.has n
      · exact f3 n hn hw
      · have hnc : n < c := Nat.lt_of_not_le fun g => hw (l1.fresh n g hn)
        rw [f4 n hw, l1.keep n hw]
        exact ha n hnc hh)
    refine ⟨h3, r3, w3, M.bind_ok.2 ⟨a, _, f1, k1⟩, fun e1 e2 => ?_, k3, fun n hn => ?_⟩
    · obtain ⟨g1, g2⟩ := f2 e1 e2
      exact k2 g1 g2
    · rw [k4 n hn, f4 n (fun e => hn (l2.wsub n e))]
theorem Loc.getM (n : Nat) : Loc (getM n) := by
  intro h c r w a h' c' r' w' hr
  obtain ⟨g1, g2, g3⟩ := getM_ok.1 hr
  injection g3 with e1 e2 e3 e4
  simp only [St.h, St.c, St.r, St.w] at *
  subst e1 e2 e3 e4
  refine ⟨Nat.le_refl _, fun m hm => (add_has r n m).2 (.inl hm), fun _ h => h, fun n h1 h2 => by omega, fun _ _ => rfl, fun _ h => .inl h, fun h2 r2 w2 ha => ⟨h2, r2.add n, w2, ?_, fun e1 e2 => ⟨by rw [e1], e2⟩, fun m h1 h2 => ha m h1 (.inr h2), fun _ _ => rfl⟩⟩
  exact getM_ok.2 ⟨g1, by rw [← g2]; exact ha n g1 (.inl ((add_has r n n).2 (.inr rfl))), rfl⟩
theorem Loc.setM (n : Nat) (o : Option AObj) : Loc (setM n o) := by
  intro h c r w a h' c' r' w' hr
  obtain ⟨g1, g3⟩ := setM_ok.1 hr
  injection g3 with e1 e2 e3 e4
  simp only [St.h, St.c, St.r, St.w] at *
  subst e1 e2 e3 e4
  refine ⟨Nat.le_refl _, fun _ h => h, fun m hm => (add_has w n m).2 (.inl hm), fun n h1 h2 => by omega, fun m hm => ?_, fun m hm => ((add_has w n m).1 hm).imp id (fun e => by rw [e]; exact g1), fun h2 r2 w2 ha => ⟨h2.put n o, r2, w2.add n, setM_ok.2 ⟨g1, rfl⟩, fun e1 e2 => ⟨e1, by rw [e2]⟩, fun m h1 hw => ?_, fun m hm => ?_⟩⟩
  · rw [Tr.get_put, if_neg (fun e => hm ((add_has w n m).2 (.inr e)))]
  · rw [Tr.get_put, Tr.get_put]
    by_cases e : m = n
    · rw [if_pos e, if_pos e]
    · rw [if_neg e, if_neg e]
      exact ha m h1 (.inr hw)
  · rw [Tr.get_put, if_neg (fun e => hm ((add_has w n m).2 (.inr e)))]
theorem Loc.newM (o : AObj) : Loc (newM o) := by
  intro h c r w a h' c' r' w' hr
  obtain ⟨g1, g3⟩ := newM_ok.1 hr
  injection g3 with e1 e2 e3 e4
  simp only [St.h, St.c, St.r, St.w] at *
  subst g1 e1 e2 e3 e4
  refine ⟨Nat.le_succ _, fun _ h => h, fun m hm => (add_has w a m).2 (.inl hm), fun m h1 h2 => (add_has w a m).2 (.inr (by omega)), fun m hm => ?_, fun m hm => ((add_has w a m).1 hm).imp id (fun e => by omega), fun h2 r2 w2 ha => ⟨h2.put a (some o), r2, w2.add a, newM_ok.2 ⟨rfl, rfl⟩, fun e1 e2 => ⟨e1, by rw [e2]⟩, fun m h1 hw => ?_, fun m hm => ?_⟩⟩
  · rw [Tr.get_put, if_neg (fun e => hm ((add_has w a m).2 (.inr e)))]
  · rw [Tr.get_put, Tr.get_put]
    by_cases e : m = a
    · rw [if_pos e, if_pos e]
    · rw [if_neg e, if_neg e]
      exact ha m (by omega) (.inr hw)
  · rw [Tr.get_put, if_neg (fun e => hm ((add_has w a m).2 (.inr e)))]
theorem touched_ok {m : M α} {h h' : Tr AObj} {c c' : Nat} {r w r' w' : TS} {q : α × TS × TS} (hr : touched m (.mk h c r w) = .ok q (.mk h' c' r' w')) : m (.mk h c [] []) = .ok q.1 (.mk h' c' q.2.1 q.2.2) ∧ r' = TS.or q.2.1 r ∧ w' = TS.or q.2.2 w := by
  unfold touched at hr
  simp only at hr
  cases hm : m (.mk h c [] []) with
  | err e => rw [hm] at hr; cases hr
  | ok a s' =>
    obtain ⟨h1, c1, r1, w1⟩ := s'
    rw [hm] at hr
    injection hr with e1 e2
    subst e1
    injection e2 with f1 f2 f3 f4
    subst f1 f2 f3 f4
    exact ⟨rfl, rfl, rfl⟩
theorem Loc.touched {m : M α} (hm : Loc m) : Loc (touched m) := by
  intro h c r w q h' c' r' w' hr
  obtain ⟨a, ra, wa⟩ := q
  obtain ⟨g1, g2, g3⟩ := touched_ok hr
  simp only at g1 g2 g3
  subst g2 g3
  have l := hm _ _ _ _ _ _ _ _ _ g1
  refine ⟨l.grow, fun n hn => (or_has _ _ n).2 (.inr hn), fun n hn => (or_has _ _ n).2 (.inr hn), fun n h1 h2 => (or_has _ _ n).2 (.inl (l.fresh n h1 h2)), fun n hn => l.keep n (fun e => hn ((or_has _ _ n).2 (.inl e))), fun n hn => ?_, fun h2 r2 w2 ha => ?_⟩
  · rcases (or_has _ _ n).1 hn with g | g
    · rcases l.wlt n g with ⟨_, g, _⟩ | g
      · cases g
      · exact .inr g
    · exact .inl g
  obtain ⟨h2', r2', w2', f1, f2, f3, f4⟩ := l.again h2 [] [] (fun n hn hh => ha n hn (hh.imp (fun e => (or_has _ _ n).2 (.inl e)) (fun e => (or_has _ _ n).2 (.inl e))))
  obtain ⟨e1, e2⟩ := f2 rfl rfl
  subst e1 e2
  refine ⟨h2', TS.or r2' r2, TS.or w2' w2, by unfold Go.Proofs.YtceocfeckipihaaGreatDoor.Vm.touched; simp only [f1], fun e1 e2 => ⟨by rw [e1], by rw [e2]⟩, fun n h1 hw => ?_, fun n hn => f4 n (fun e => hn ((or_has _ _ n).2 (.inl e)))⟩
  by_cases e : w2'.has n
  · exact f3 n h1 e
  · have hnc : n < c := Nat.lt_of_not_le fun g => e (l.fresh n g h1)
    rw [f4 n e, l.keep n e]
    exact ha n hnc (.inr hw)
theorem Loc.congr {m m' : M α} (h : Loc m) (e : m' = m) : Loc m' := e ▸ h
end
end Go.Proofs.YtceocfeckipihaaGreatDoor.Vm
