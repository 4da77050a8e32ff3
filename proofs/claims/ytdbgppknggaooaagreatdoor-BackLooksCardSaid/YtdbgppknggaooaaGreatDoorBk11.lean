/-
  Texts of this claim, joined: YC, YD, YE, YF, YG, YH, YI, KA, KB.
-/
import Derived.Scope
import Derived.Below
import Derived.Test.YtdbgppknggaooaaGreatDoorBk02
import Derived.Test.YtdbgppknggaooaaGreatDoorBk10
set_option maxHeartbeats 6400000
set_option maxRecDepth 100000
namespace Go.Proofs.YtdbgppknggaooaaGreatDoor.Vm
open Go
section
variable {P : Program} {E : Env} {ev : Ev} {rnd : Option Nat} {ρ ρ' ρ0 : Ren} {w w' w0 : World} {F : Fence} {n : Nat} {s s' s0 : St}
variable {ops : Array Oper} {T0 : Tr AV} {nt : Nat} {ds : List ADef} {A : Nat → Tr AV} {H : Nat → Tr AObj} {C : Nat → Nat} {R W : Nat → TS} {B : Nat → Nat} {V : Nat → AV} {DS : Nat → List ADef} {kd : Nat} {D : List ADef}
theorem any_ok (hE : EnvAll E P) (hev : EvOK P ev) (hl : LocEv ev) (hs : Seq E ev rnd ops T0 nt ds A H C R W B V DS kd D) (hF : FOf ρ0 rnd F) (h0 : s0.c = C 0) {Q : Exit → Act → World → Prop}
    (hQ : ∀ act w S, (∀ i, i < ops.size → S i) → (∀ i, S i → i < ops.size) → Inv ops nt ds A H C W kd D s0 ρ0 w0 S act w → Q .normal act w) :
    ∀ (fuel : Nat) (listed : Array Bool) (act : Act) (w : World) (u : List Nat) (S : Nat → Prop), listed.size = ops.size → u.Nodup → u.length = fuel → (∀ i, i ∈ u ↔ (i < ops.size ∧ listed.getD i true = false)) →
      (∀ i, S i ↔ (i < ops.size ∧ listed.getD i true = true)) → (∀ j, S j → ∀ k, (B j).testBit k = true → S k) → Inv ops nt ds A H C W kd D s0 ρ0 w0 S act w → wpAnyIn F n P .any ops Q fuel listed act w := by
  have conv : ∀ {listed : Array Bool} {i : Nat}, i < listed.size → listed.getD i false = listed.getD i true := fun {listed i} h => by simp [Array.getD, h]
  intro fuel
  induction fuel with
  | zero =>
    intro listed act w u S hz hn hl' hu hSl hcl hI
    obtain rfl := List.eq_nil_of_length_eq_zero hl'
    refine ⟨?_, hQ act w S (fun i hi => (hSl i).2 ⟨hi, ?_⟩) (fun i hi => ((hSl i).1 hi).1) hI⟩
    · rw [List.eq_nil_iff_forall_not_mem]
      intro i hi
      obtain ⟨h1, o, ho, _⟩ := mem_ready.1 hi
      have := (hu i).2 ⟨(Array.getElem?_eq_some_iff.1 ho).1, h1⟩
      cases this
    · cases hb' : listed.getD i true with
      | true => rfl
      | false => exact absurd ((hu i).2 ⟨hi, hb'⟩) (by simp)
  | succ fuel ih =>
    intro listed act w u S hz hn hl' hu hSl hcl hI
    refine ⟨fun hnil => ?_, fun i hi => ?_⟩
    · exfalso
      have hex : ∃ i, i < ops.size ∧ listed.getD i true = false := by
        cases u with
        | nil => simp at hl'
        | cons x r => exact ⟨x, (hu x).1 List.mem_cons_self⟩
      have key : ∀ m, ∀ i, i < m → i < ops.size → listed.getD i true = false → False := by
        intro m
        induction m with
        | zero => intro i hi; omega
        | succ m ihm =>
          intro i hi hil hun
          obtain ⟨o, ho⟩ : ∃ o, ops[i]? = some o := ⟨_, Array.getElem?_eq_getElem hil⟩
          have : i ∈ Region.ready .any ops listed := by
            refine mem_ready.2 ⟨hun, o, ho, fun e he hb => ?_⟩
            have hlt := hs.edge i o ho e he hb
            cases hb' : listed.getD e.on false with
            | true => rfl
            | false =>
              exfalso
              exact ihm e.on (by omega) (by omega) (by rw [← conv (by omega)]; exact hb')
          rw [hnil] at this
          cases this
      obtain ⟨i, h1, h2⟩ := hex
      exact key (i + 1) i (by omega) h1 h2
    · obtain ⟨hun, o, ho, hall⟩ := mem_ready.1 hi
      have hil : i < ops.size := (Array.getElem?_eq_some_iff.1 ho).1
      have hnS : ¬ S i := fun e => by rw [((hSl i).1 e).2] at hun; cases hun
      have hon : ∀ e ∈ o.after, Region.binds .any e = true → S e.on := fun e he hb => by
        have hlt := hs.edge i o ho e he hb
        have := hall e he hb
        rw [conv (by omega)] at this
        exact (hSl e.on).2 ⟨by omega, this⟩
      have hB : ∀ j, (B i).testBit j = true → S j := fun j hj => by
        obtain ⟨e, he, hb, rfl | hj⟩ := hs.bef i o ho j hj
        · exact hon e he hb
        · exact hcl e.on (hon e he hb) j hj
      refine inv_step hE hev hl hs hF h0 ho hnS hB hcl (fun j hj => ((hSl j).1 hj).1) hI (fun act' w' hI' => ?_)
      refine ih _ _ _ (u.erase i) _ (by simpa using hz) (hn.erase _) (by rw [List.length_erase_of_mem ((hu i).2 ⟨hil, hun⟩)]; omega) (fun j => ?_) (fun j => ?_) (fun j hj k hk => ?_) hI'
      · rw [hn.mem_erase_iff, hu j]
        constructor
        · rintro ⟨h1, h2, h3⟩
          exact ⟨h2, by rw [getD_set_ne true (Ne.symm h1)]; exact h3⟩
        · rintro ⟨h2, h3⟩
          have hne : j ≠ i := by
            rintro rfl
            have hin : j < listed.size := by omega
            simp [Array.getD, hin] at h3
          exact ⟨hne, h2, by rwa [getD_set_ne true (Ne.symm hne)] at h3⟩
      · by_cases hji : j = i
        · subst hji
          have hin : j < listed.size := by omega
          exact ⟨fun _ => ⟨hil, by simp [Array.getD, hin]⟩, fun _ => .inr rfl⟩
        · rw [getD_set_ne true (Ne.symm hji), ← hSl j]
          exact ⟨fun h => h.resolve_right hji, .inl⟩
      · rcases hj with hj | rfl
        · exact .inl (hcl j hj k hk)
        · exact .inl (hB k hk)
theorem draw_ok (hE : EnvAll E P) (hev : EvOK P ev) (hl : LocEv ev) {a a' : AAct} {act : Act} {r w1 : TS} {h1 : Tr AObj} {c1 : Nat} (hso : slotsOk ops.toList ops.toList (befs ops.toList []) 0 = true)
    (h : drawM E ev rnd ops.toList ops.toList (befs ops.toList []) 0 [] a (.mk h1 c1 r w1) = .ok a' s') (hF : FOf ρ rnd F) (hw : WRel ρ h1 w) (hf : FreshN ρ c1 s'.c) (ha : ActR ρ a act) :
    wpAnyIn F n P .any ops (Left (.mk h1 c1 r w1) s' ρ w (.normal, a')) ops.size (Array.replicate ops.size false) act w.drew := by
  obtain ⟨T0, nt, ds⟩ := a
  obtain ⟨d1, d2, d3, d4⟩ := draw_run (E := E) (ev := ev) (rnd := rnd) (ops := ops.toList) (x0 := (.mk T0 nt ds, h1, c1)) (bs0 := befs ops.toList []) ops.toList (befs ops.toList []) 0 [] r w1 a' s' rfl rfl h (fun j hj => by omega) (Nat.zero_le _)
  generalize hX : seqS E ev rnd ops.toList (.mk T0 nt ds, h1, c1) = X at *
  generalize hR : rS E ev rnd ops.toList (.mk T0 nt ds, h1, c1) = R at *
  generalize hW : wS E ev rnd ops.toList (.mk T0 nt ds, h1, c1) = W at *
  have hX0 : X 0 = (.mk T0 nt ds, h1, c1) := by rw [← hX]; rfl
  have hsl : ∀ i o, ops[i]? = some o → ops.toList[i]? = some o := fun i o h => by rw [Array.getElem?_toList]; exact h
  have hrun : ∀ i o, ops[i]? = some o → operM E ev rnd ops.toList o (X i).1 (.mk (X i).2.1 (X i).2.2 [] []) = .ok (X (i + 1)).1 (.mk (X (i + 1)).2.1 (X (i + 1)).2.2 (R i) (W i)) := fun i o ho => by
    obtain ⟨o', e1, e2⟩ := (d1 i (Nat.zero_le _) (by rw [Array.length_toList]; exact (Array.getElem?_eq_some_iff.1 ho).1)).1
    rw [hsl i o ho] at e1
    injection e1 with e1
    subst e1
    rw [hX, hR, hW] at e2
    exact e2
  have hok := fun i o (ho : ops[i]? = some o) => slotsOk_at (ops := ops.toList) ops.toList (befs ops.toList []) 0 i o hso (hsl i o ho)
  have hform : ∀ k, k ≤ ops.size → (X k).1 = .mk (X k).1.t nt (X k).1.d := by
    intro k
    induction k with
    | zero => intro _; rw [hX0]; rfl
    | succ k ih =>
      intro hk
      obtain ⟨o, ho⟩ : ∃ o, ops[k]? = some o := ⟨_, Array.getElem?_eq_getElem (by omega)⟩
      have h2 := hrun k o ho
      rw [ih (by omega)] at h2
      obtain ⟨v, D', _, e1, _⟩ := oper_sees h2
      rw [e1, putT_d]
      exact putT_mk _ _ _
  have hstep : ∀ k o, ops[k]? = some o → ∃ D', (isDefer o.op = false → D' = []) ∧ (X (k + 1)).1.d = D' ++ (X k).1.d := fun k o ho => by
    have h2 := hrun k o ho
    rw [hform k (Nat.le_of_lt (Array.getElem?_eq_some_iff.1 ho).1)] at h2
    obtain ⟨v, D', h4, e1, _⟩ := oper_sees h2
    exact ⟨D', h4, by rw [e1, putT_d]⟩
  obtain ⟨D, hD⟩ : ∃ D, defAt ops.toList 0 < ops.size → (X (defAt ops.toList 0 + 1)).1.d = D ++ (X (defAt ops.toList 0)).1.d := by
    by_cases hlt : defAt ops.toList 0 < ops.size
    · obtain ⟨D', _, e⟩ := hstep _ _ (Array.getElem?_eq_getElem hlt)
      exact ⟨D', fun _ => e⟩
    · exact ⟨[], fun h => absurd h hlt⟩
  have hDn : ∀ k, k < ops.size → k ≠ defAt ops.toList 0 → (X (k + 1)).1.d = (X k).1.d := fun k hk hne => by
    obtain ⟨o, ho⟩ : ∃ o, ops[k]? = some o := ⟨_, Array.getElem?_eq_getElem hk⟩
    obtain ⟨D', h4, e⟩ := hstep k o ho
    have hnd : isDefer o.op = false := by
      cases hd : isDefer o.op with
      | false => rfl
      | true => have := (hok k o ho).1 hd; omega
    rw [e, h4 hnd, List.nil_append]
  have hDall : (X ops.size).1.d = if defAt ops.toList 0 < ops.size then D ++ ds else ds := by
    have low : ∀ k, k ≤ ops.size → k ≤ defAt ops.toList 0 → (X k).1.d = ds := by
      intro k
      induction k with
      | zero => intro _ _; rw [hX0]; rfl
      | succ k ih => intro h3 h4; rw [hDn k (by omega) (by omega)]; exact ih (by omega) (by omega)
    by_cases hlt : defAt ops.toList 0 < ops.size
    · rw [if_pos hlt]
      have high : ∀ j, defAt ops.toList 0 + 1 + j ≤ ops.size → (X (defAt ops.toList 0 + 1 + j)).1.d = D ++ ds := by
        intro j
        induction j with
        | zero => intro _; rw [Nat.add_zero, hD hlt, low _ (Nat.le_of_lt hlt) (Nat.le_refl _)]
        | succ j ih => intro h3; rw [← Nat.add_assoc, hDn _ (by omega) (by omega)]; exact ih (by omega)
      have := high (ops.size - (defAt ops.toList 0 + 1)) (by omega)
      rwa [show defAt ops.toList 0 + 1 + (ops.size - (defAt ops.toList 0 + 1)) = ops.size by omega] at this
    · rw [if_neg hlt]
      exact low _ (Nat.le_refl _) (by omega)
  have hV : ∀ k, ∃ v, ∀ o, ops[k]? = some o → (X (k + 1)).1 = putT (X k).1.t nt (X (k + 1)).1.d o.dst v := by
    intro k
    cases ho : ops[k]? with
    | none => exact ⟨undefA, fun o h => by cases h⟩
    | some o =>
      have hk := (Array.getElem?_eq_some_iff.1 ho).1
      have h2 := hrun k o ho
      rw [hform k (by omega)] at h2
      obtain ⟨v, D', _, e1, _⟩ := oper_sees h2
      exact ⟨v, fun o' h' => by injection h' with h'; subst h'; rw [e1, putT_d]⟩
  have hlen : (befs ops.toList []).length = ops.size := by rw [befs_len]; simp
  have hs : Seq E ev rnd ops T0 nt ds (fun k => (X k).1.t) (fun k => (X k).2.1) (fun k => (X k).2.2) R W (fun k => ((befs ops.toList [])[k]?).getD 0) (fun k => (hV k).choose) (fun k => (X k).1.d) (defAt ops.toList 0) D := by
    refine ⟨fun i o ho => ?_, hDn, hD, by simp only [hX0]; rfl, fun i hi j hj => ?_, fun i o j p ho hp hj => ?_, fun i o ho j hj => ?_, fun i o ho e he hb => ?_⟩
    · have hk := (Array.getElem?_eq_some_iff.1 ho).1
      have h2 := hrun i o ho
      have h3 := (hV i).choose_spec o ho
      rw [← h3]
      rw [hform i (by omega)] at h2
      exact ⟨h2, (hform (i + 1) hk).symm⟩
    · have := (d1 i (Nat.zero_le _) (by rw [Array.length_toList]; exact hi)).2 j hj
      exact this
    · obtain ⟨_, _, b, e1, e2⟩ := hok i o ho
      rw [Nat.zero_add] at e2
      have := slotApart_ok ops.toList 0 j p e2 (hsl j p hp) (by omega)
      rw [Nat.zero_add] at this
      simp only [e1, Option.getD_some]
      exact this
    · have h3 := befs_at ops.toList [] i o (hsl i o ho)
      rw [List.length_nil, Nat.zero_add] at h3
      simp only [h3, Option.getD_some] at hj
      obtain ⟨e, he, hb, hh⟩ := befOf_bit hj
      refine ⟨e, by simpa using he, hb, hh.imp id (fun g => ?_)⟩
      have hlt := edges_ok (hok i o ho).2.1 he hb
      rw [List.getElem?_take, if_pos (by omega)] at g
      exact g
    · have := edges_ok (hok i o ho).2.1 (by simpa using he) hb
      omega
  have hN : ops.toList.length = ops.size := by simp
  rw [hN] at d2 d3 d4
  refine any_ok (w0 := w) (ρ0 := ρ) (s0 := .mk h1 c1 r w1) hE hev hl hs hF (by simp only [hX0]; rfl) ?_ ops.size _ act w.drew (List.range ops.size) (fun _ => False) (by simp) List.nodup_range (by simp) (fun i => ?_) (fun i => ?_) (fun j hj => hj.elim) ?_
  · intro act2 w2 S hS hlt2 hI
    obtain ⟨hS2, TS, ρ2, dS, i0, i1, i2, i3, i4, i5, _⟩ := hI.ex
    have e1 : ∀ m, s'.h.get m = hS2.get m := fun m => by
      rw [i1, gval_low ops.size (fun i hi _ => hS i hi) (fun j hj hm => ?_), d3]
      obtain ⟨p, hp⟩ : ∃ p, ops[j]? = some p := ⟨_, Array.getElem?_eq_getElem hj⟩
      exact (Loc.operM hl _ _ _ _ _ _ _ _ _ _ _ _ _ (hs.run j p hp).1).keep m hm
    have e2 : ∀ x, slotA a'.t x = slotA TS x := fun x => by
      rw [i2, gval_low ops.size (fun i hi _ => hS i hi) (fun j hj hx => ?_), d2]
      obtain ⟨p, hp⟩ : ∃ p, ops[j]? = some p := ⟨_, Array.getElem?_eq_getElem hj⟩
      have h1 := (hs.run j p hp).2
      have : (X (j + 1)).1.t = (putT (X j).1.t nt (X (j + 1)).1.d p.dst (hV j).choose).t := by rw [← h1]; rfl
      rw [this, slot_put, if_neg (fun e => hx ⟨p, hp, e⟩)]
    have e3 : a' = .mk a'.t nt a'.d := by rw [d2]; exact hform _ (Nat.le_refl _)
    have e4 : a'.d = dS := by
      rw [d2, hDall]
      by_cases hlt : defAt ops.toList 0 < ops.size
      · rw [if_pos hlt]
        exact (i0.1 (hS _ hlt)).symm
      · rw [if_neg hlt]
        exact (i0.2 (fun h => hlt (hlt2 _ h))).symm
    refine ⟨ρ2, .normal, ?_, i4.ext e1, ?_⟩
    · rw [e3, e4]
      exact ⟨⟨i3.t.1, fun x => by show VRel ρ2 (slotA a'.t x) _; rw [e2]; exact i3.t.2 x⟩, i3.d⟩
    · refine ⟨fun m hm => i5.ext m (fun hh => hm ⟨hh.1, by rw [d4]; exact hh.2⟩), i5.le, i5.os, i5.tape, i5.output, i5.size, i5.block, fun q hq => i5.own q (Own.ext (h := hS2) e1 hq)⟩
  · rw [List.mem_range]
    constructor
    · intro h
      exact ⟨h, by simp [Array.getD, h]⟩
    · exact fun h => h.1
  · constructor
    · exact fun h => h.elim
    · rintro ⟨h1, h2⟩
      simp [Array.getD, h1] at h2
  · refine ⟨h1, T0, ρ, ds, ⟨fun h => h.elim, fun _ => rfl⟩, fun m => ?_, fun x => ?_, ha, hw.heap (s := .mk h1 c1 r w1) rfl, ?_, fun k hk _ m g1 g2 => ?_⟩
    · rw [gval_high 0 ops.size (Nat.zero_le _) (fun j _ _ hh => hh.1)]
      show h1.get m = (X 0).2.1.get m
      rw [hX0]
    · rw [gval_high 0 ops.size (Nat.zero_le _) (fun j _ _ hh => hh.1)]
      show slotA T0 x = slotA (X 0).1.t x
      rw [hX0]
      rfl
    · exact ⟨fun _ _ => rfl, Ren.le_refl _, rfl, rfl, rfl, Nat.le_refl _, fun _ _ _ => rfl, fun q hq => .inl hq⟩
    · have m1 := hs.mono hl (Nat.zero_le k) (Nat.le_of_lt hk)
      have m2 := hs.mono hl (show k + 1 ≤ ops.size from hk) (Nat.le_refl _)
      simp only [hX0] at m1
      refine hf m (Nat.le_trans m1 g1) ?_
      rw [d4]
      exact Nat.lt_of_lt_of_le g2 m2
end
end Go.Proofs.YtdbgppknggaooaaGreatDoor.Vm
namespace Go.Proofs.YtdbgppknggaooaaGreatDoor.Vm
open Go
section
variable {P : Program} {E : Env} {ev : Ev} {rnd : Option Nat} {ρ ρ' ρ0 : Ren} {w w' w0 : World} {F : Fence} {n : Nat} {s s' s0 : St}
theorem stepR_scope {b : Frame} {a : Act} {k : List Item} {cs : List Frame} {c : Code} : step P (lone (b.atR a (.code (.scope c) :: k)) cs w) = .next (lone (b.atR a (.code c :: .inScope c :: k)) cs w) :=
  step_lone_go (by simp [stepG, stepG.exec, Frame.atR])
theorem stepR_inScope {b : Frame} {a : Act} {k : List Item} {cs : List Frame} {c : Code} : step P (lone (b.atR a (.inScope c :: k)) cs w) = .next (lone (b.atR a k) cs w) :=
  step_lone_go (by simp [stepG, stepG.exec, Frame.atR])
theorem wpIn_scope {c : Code} {Q : Exit → Act → World → Prop} {a : Act} (h : c.wpIn F n P (Exit.noGoto Q) a w) : (Code.scope c).wpIn F n P Q a w := by
  intro b k cs hro hb hr
  have h0 : (lone (b.atR a (.code (.scope c) :: k)) cs w).fenced P F := fenced_calm hb hr rfl
  obtain ⟨e, a₁, w₁, hq, harr⟩ := h b (.inScope c :: k) cs hro hb hr
  have hx : ∀ id, exitTo id (.inScope c :: k) = exitTo id k := fun id => by simp [exitTo]
  cases e with
  | normal => exact ⟨.normal, a₁, w₁, hq, .head h0 stepR_scope (StepsIn.trans harr (.one (fenced_calm hb hr rfl) stepR_inScope))⟩
  | exit id => exact ⟨.exit id, a₁, w₁, hq, fun k' hk => .head h0 stepR_scope (harr.1 k' (by rw [hx]; exact hk)),
      fun hr' hk => let ⟨k₁, h1, h2⟩ := harr.2 hr' (by rw [hx]; exact hk); ⟨k₁, h1, .head h0 stepR_scope h2⟩⟩
  | goto l => exact hq.elim
  | ret => exact ⟨_, a₁, w₁, hq, .of_steps (.one h0 stepR_scope) harr⟩
  | panic ch => exact ⟨_, a₁, w₁, hq, .of_steps (.one h0 stepR_scope) harr⟩
  | outgrown => exact ⟨_, a₁, w₁, hq, .of_steps (.one h0 stepR_scope) harr⟩
theorem ops_ok (hE : EnvAll E P) (hev : EvOK P ev) (hl : LocEv ev) {ops : Array Oper} {Q : Exit → Act → World → Prop} {a' : AAct} :
    ∀ (l : List Oper) (k : Nat) (a : AAct) (s : St) (ρ : Ren) (act : Act) (w : World), l = ops.toList.drop k → opsM E ev rnd ops.toList l a s = .ok a' s' → FOf ρ rnd F → WRel ρ s.h w → FreshN ρ s.c s'.c → ActR ρ a act → Stp s0 s ρ0 ρ w0 w → s0.c ≤ s.c →
      (∀ ρ' act' w', ActR ρ' a' act' → WRel ρ' s'.h w' → Stp s0 s' ρ0 ρ' w0 w' → Q .normal act' w') → wpOpsIn F n P ops Q (List.range' k l.length) act w
  | [], k, a, s, ρ, act, w, hlk, h, hF, hw, hf, ha, hst, hc, hQ => by
    obtain ⟨rfl, rfl⟩ := M.pure_ok.1 h
    exact hQ ρ act w ha hw hst
  | o :: l, k, a, s, ρ, act, w, hlk, h, hF, hw, hf, ha, hst, hc, hQ => by
    have hok : ops[k]? = some o := by
      have := congrArg (fun l => l[0]?) hlk
      simpa using this.symm
    have hl' : l = ops.toList.drop (k + 1) := by
      have := congrArg List.tail hlk
      simpa using this
    obtain ⟨a1, s1, h1, h2⟩ := M.bind_ok.1 h
    have c1 := (Loc.operM hl _ _ _ _).le h1
    have c2 := (Loc.opsM hl _ _ _ _).le h2
    rw [List.length_cons, List.range'_succ, wpOpsIn_cons]
    refine oper_ok hE hev hl hok h1 hF hw (hf.sub (Nat.le_refl _) c2) ha (fun ρ' act' w' g1 g2 g3 => ?_)
    exact ops_ok hE hev hl l (k + 1) a1 s1 ρ' act' w' hl' h2 (hF.mono g3.le) g2 (hf.step g3 c1) g1 (Stp.trans hst g3 hc c1) (Nat.le_trans hc c1) hQ
theorem ExR.normal_of {e : Exit} (h : ExR .normal e) : e = .normal := by cases h; rfl
theorem ExR.other {ae : AExit} {e : Exit} (h : ExR ae e) (hn : isNormal ae = false) {N : Act → World → Prop} {Q : Exit → Act → World → Prop} {act : Act} (hq : Q e act w) : Exit.then N Q e act w := by
  cases h with
  | normal => cases hn
  | exit i => exact hq
  | ret => exact hq
theorem Left.noGoto {q : AExit × AAct} {e : Exit} {act : Act} (h : Left s s' ρ w q e act w') : Exit.noGoto (Left s s' ρ w q) e act w' := by
  obtain ⟨ρ', h1, h2⟩ := h
  cases hq : q.1 <;> rw [hq] at h1 <;> cases h1 <;> exact ⟨ρ', by rw [hq]; constructor, h2⟩
theorem Left.inBlock {q : AExit × AAct} {e : Exit} {act : Act} {id : Nat} (h : Left s s' ρ w q e act w') : Exit.inBlock id (Left s s' ρ w (outOf id q.1, q.2)) e act w' := by
  obtain ⟨ρ', h1, h2⟩ := h
  obtain ⟨qe, qa⟩ := q
  cases h1 with
  | normal => exact ⟨ρ', .normal, h2⟩
  | ret => exact ⟨ρ', .ret, h2⟩
  | exit i =>
    simp only [Exit.inBlock, outOf]
    by_cases hi : i = id
    · rw [if_pos hi, bif_true _ _ (beq_true.2 hi)]
      exact ⟨ρ', .normal, h2⟩
    · rw [if_neg hi, bif_false _ _ (by cases hb : Nat.beq i id with | false => rfl | true => exact absurd (beq_true.1 hb) hi)]
      exact ⟨ρ', .exit i, h2⟩
end
end Go.Proofs.YtdbgppknggaooaaGreatDoor.Vm
namespace Go.Proofs.YtdbgppknggaooaaGreatDoor.Vm
open Go
section
variable {P : Program} {E : Env} {ev : Ev} {rnd : Option Nat} {ρ ρ' ρ0 : Ren} {w w' w0 : World} {F : Fence} {n : Nat} {s s' s0 : St}
theorem FOf.round (h : FOf ρ rnd F) : (rnd = none ∧ F.round = none) ∨ ∃ l p, rnd = some l ∧ ρ l = some p ∧ F.round = some p.1 := by
  unfold FOf at h
  cases rnd with
  | none => exact .inl ⟨rfl, by rw [h]; rfl⟩
  | some l => obtain ⟨p, h1, rfl⟩ := h; exact .inr ⟨l, p, rfl, h1, rfl⟩
theorem pend_ok {pe : Option Code} {e : AExit} (h : pendA pe = some e) {Q : Exit → Act → World → Prop} {act : Act} (hQ : ∀ e', ExR e e' → Q e' act w) :
    (match pe with | none => Q .normal act w | some c => c.wpIn F n P Q act w) := by
  unfold pendA at h
  cases pe with
  | none =>
    simp only [Option.some.injEq] at h
    subst h
    exact hQ _ .normal
  | some c =>
    cases c <;> simp only [Option.some.injEq, reduceCtorEq] at h <;> subst h
    · exact wpIn_exit (hQ _ (.exit _))
    · exact wpIn_ret (hQ _ .ret)
theorem mark_ok {T : Tr AV} {nt : Nat} {ps : Array Tmp} {az bd : Code} {mk : Nat × List ADef} {l : Nat} {s1 s2 : St} (h1 : markM rnd s = .ok mk s1) (h2 : newM (.loop .ready none T nt ps.toList az bd mk.1) s1 = .ok l s2)
    (hF : FOf ρ rnd F) (hw : WRel ρ s.h w) (hf : FreshN ρ s.c s2.c) {tmps : Array Value} (hT : TRel ρ T nt tmps) (fn : FuncId) :
    ∃ ρ2 w2 p mks, (Instr.enterLoop fn tmps ps az bd F.round).run P w = .ok (p, mks) w2 ∧ (∃ k, ρ2 l = some (p, k)) ∧ DRel ρ2 mk.2 mks ∧ WRel ρ2 s2.h w2 ∧ Stp s s2 ρ ρ2 w w2 ∧ s.c ≤ s2.c := by
  obtain ⟨rfl, hs2⟩ := newM_ok.1 h2
  have hc2 : s2.c = s1.c + 1 := by rw [hs2]; rfl
  rcases hF.round with ⟨rfl, hr⟩ | ⟨l0, p0, rfl, hp0, hr⟩
  · unfold markM at h1
    obtain ⟨r, s3, h3, h4⟩ := M.bind_ok.1 h1
    obtain ⟨rfl, rfl⟩ := M.pure_ok.1 h4
    obtain ⟨rfl, hs3⟩ := newM_ok.1 h3
    have hc1 : s1.c = s.c + 1 := by rw [hs3]; rfl
    have n1 := new_rel (s' := s1) (o := .defs (some [])) (ob := .deferred (some [])) (κ := 0) hw (hf.at (by omega)) (by rw [hs3]; rfl) (by rw [hs3]; rfl) ⟨some [], rfl, [], rfl, rfl⟩
    have hfr : (ρ.put s.c (w.heap.size, 0, 0)) s1.c = none := by
      unfold Ren.put
      rw [if_neg (by omega)]
      exact hf s1.c (by omega) (by omega)
    have hT1 : TRel ((ρ.put s.c (w.heap.size, 0, 0)).put s1.c ((w.alloc (.deferred (some []))).heap.size, 0, 0)) T nt tmps := (hT.mono (Ren.put_le (hf.at (by omega)) _)).mono (Ren.put_le hfr _)
    have n2 := new_rel (s' := s2) (o := .loop .ready none T nt ps.toList az bd s.c) (ob := .loop { state := .ready, pending := none, fn, tmps, params := ps, assign := az, body := bd, defers := w.heap.size }) (κ := 0) n1.1 hfr (by rw [hs2]; rfl) (by rw [hs2]; rfl)
      ⟨_, rfl, rfl, rfl, hT1, rfl, rfl, rfl, _, Ren.put_le hfr _ _ _ (Ren.put_same _ _ _), rfl⟩
    refine ⟨_, _, (w.alloc (.deferred (some []))).heap.size, [{ target := .collected w.heap.size, args := #[] }], ?_, ⟨_, Ren.put_same _ _ _⟩, ⟨_, [], rfl, ⟨_, Ren.put_le hfr _ _ _ (Ren.put_same _ _ _), rfl⟩, rfl⟩, n2.1, Stp.trans n1.2 n2.2 (by omega) (by omega), by omega⟩
    rw [hr]
    rfl
  · unfold markM at h1
    obtain ⟨rr, s3, h3, h4⟩ := M.bind_ok.1 h1
    obtain ⟨st, pe, t, m, qs, as0, bd0, dn⟩ := rr
    obtain ⟨rfl, rfl⟩ := M.pure_ok.1 h4
    obtain ⟨g1, g2⟩ := loopM_ok h3
    have hc1 : s1.c = s.c := g2.2
    obtain ⟨r0, k1, k2, k3⟩ := hw.loop (P := P) g1 hp0
    obtain ⟨_, _, _, _, _, _, dq, k4, k5⟩ := k2
    have hfr : ρ s1.c = none := hf s1.c (by omega) (by omega)
    have n2 := new_rel (s' := s2) (o := .loop .ready none T nt ps.toList az bd dn) (ob := .loop { state := .ready, pending := none, fn, tmps, params := ps, assign := az, body := bd, defers := r0.defers }) (κ := 0) (hw.alike g2) hfr (by rw [hs2]; rfl) (by rw [hs2]; rfl)
      ⟨_, rfl, rfl, rfl, hT.mono (Ren.put_le hfr _), rfl, rfl, rfl, dq, Ren.put_le hfr _ _ _ k4, k5⟩
    refine ⟨_, _, w.heap.size, [], ?_, ⟨_, Ren.put_same _ _ _⟩, rfl, n2.1, g2.stp n2.2, by omega⟩
    rw [hr]
    simp only [Instr.enterLoop, Sem.run_bind, k3, Result.andThen_ok, Sem.run_pure]
    rfl
theorem range_ok (hev : EvOK P ev) (hl : LocEv ev) {f : Operand} {ps : Array Tmp} {az bd : Code} {a : AAct} {q : AExit × AAct} (h : rangeC (opd f) ps.toList az bd ev rnd a s = .ok q s') : CodeOK P rnd (.rangeFunc f ps az bd) a s q s' := by
  intro ρ w act F n hF hw hf ha
  obtain ⟨T, nt, ds⟩ := a
  unfold rangeC at h
  simp only at h
  obtain ⟨mk, s1, h1, h2⟩ := M.bind_ok.1 h
  obtain ⟨l, s2, h3, h4⟩ := M.bind_ok.1 h2
  obtain ⟨fv, s3, h5, h6⟩ := M.bind_ok.1 h4
  obtain ⟨fq, s4, h7, h8⟩ := M.bind_ok.1 h6
  obtain ⟨hfq, rfl⟩ := M.of_ok.1 h7
  obtain ⟨v, s5, h9, h10⟩ := M.bind_ok.1 h8
  obtain ⟨e, s6, h11, h12⟩ := M.bind_ok.1 h10
  obtain ⟨rfl, rfl⟩ := M.pure_ok.1 h12
  have c1 := (Loc.markM rnd).le h1
  have c2 := (Loc.newM _).le h3
  have c5 := (hl.call _ _).le h9
  have c6 := (Loc.overM l).le h11
  obtain ⟨rfl, _⟩ := rd_rel (ρ := ρ) h5 ha.t
  refine wpIn_rangeFunc (fun fn _ => ?_)
  obtain ⟨ρ2, w2, p, mks, g1, ⟨k, g2⟩, g3, g4, g5, g6⟩ := mark_ok (P := P) h1 h3 hF hw (hf.sub (Nat.le_refl _) (by omega)) ha.t fn
  obtain ⟨_, hfr⟩ := rd_rel h5 (ha.mono g5.le).t
  obtain ⟨x, y, e1, e2, e3⟩ := fnOnly_rel hfq hfr
  obtain ⟨en, hc⟩ := hev.call _ _ _ _ _ h9
  have hy : VRel ρ2 (.yield l) (.func (.yield p) #[] #[]) := ⟨_, g2, rfl⟩
  have hargs : LRel ρ2 (fq.2.1 ++ [.yield l] ++ fq.2.2) ((x ++ #[Value.func (.yield p) #[] #[]]) ++ y).toList := by
    rw [Array.toList_append, Array.toList_append]
    exact LRel.append (LRel.append e2 (LRel.cons_iff.2 ⟨_, [], rfl, hy, LRel.nil_iff.2 rfl⟩)) e3
  refine ⟨p, mks, w2, { target := .fn (.func fq.1) y, args := x ++ #[Value.func (.yield p) #[] #[]] }, w2, fq.1, (x ++ #[Value.func (.yield p) #[] #[]]) ++ y, w2, g1, ?_, fun f' _ => hF.fn f', en _ _, hF.depth, CallsIn.mono (hF.wide (hc ρ2 w2 _ _ g4 (hf.step g5 g6 |>.sub (Nat.le_refl _) (by omega)) hargs)) ?_⟩
  · have hres : resolve act.eval (rangeCall f p) 0 = Deferred.ofValue (act.eval f) #[Value.func (.yield p) #[] #[]] := by
      simp only [resolve]
      congr 1
      exact Array.ext' (by simp [Act.eval])
    rw [hres, e1]
    rfl
  · rintro e' w3 ⟨ρ3, u, rfl, hv, hw3, hs3⟩
    unfold overM at h11
    obtain ⟨rr, s7, y1, y2⟩ := M.bind_ok.1 h11
    obtain ⟨st, pe, t, m, qs, as0, bd0, dn⟩ := rr
    obtain ⟨y3, y4⟩ := loopM_ok y1
    simp only at y2
    cases hb : isBusy st with
    | true => rw [bif_true _ _ hb] at y2; exact (M.fail_ok.1 y2).elim
    | false =>
      rw [bif_false _ _ hb] at y2
      obtain ⟨_, s8, y5, y6⟩ := M.bind_ok.1 y2
      obtain ⟨hpe, rfl⟩ := M.of_ok.1 y6
      have hp3 := hs3.le _ _ g2
      obtain ⟨r, z1, z2, z3⟩ := hw3.loop (P := P) y3 hp3
      obtain ⟨b1, b2, b3, b4, b5, b6, bq, b7, b8⟩ := z2
      obtain ⟨d1, d2, d3, d4⟩ := loopset_rel (P := P) (r := { r with state := .exhausted }) (hw3.alike y4) (by rw [y4.1]; exact y3) hp3 z1 ⟨rfl, b2, b3, b4, b5, b6, bq, b7, b8⟩ y5
      have hnb : (r.state == .busy) = false := by rw [b1]; cases st <;> first | rfl | cases hb
      refine ⟨pe, { w3 with heap := w3.heap.setIfInBounds p (.loop { r with state := .exhausted }) }, ?_, ?_⟩
      · simp only [Instr.endLoop, Sem.run_bind, z3, Result.andThen_ok, hnb, Bool.false_eq_true, if_false, d1, Sem.run_pure]
        rw [b2]
      · have hst : Stp s s' ρ ρ3 w { w3 with heap := w3.heap.setIfInBounds p (.loop { r with state := .exhausted }) } := Stp.trans (Stp.trans g5 hs3 g6 (by omega)) (y4.stp d3) (by omega) (by omega)
        have hpend := pend_ok (P := P) (F := F) (n := n) (Q := Left s s' ρ w (e, .mk T nt (mk.2 ++ ds))) (act := { act with defers := mks ++ act.defers }) hpe (fun e' he' => ⟨ρ3, he', ⟨(ha.mono hst.le).t, DRel.append (g3.mono hs3.le) (ha.mono hst.le).d⟩, d2, hst⟩)
        cases pe with
        | none => exact hpend
        | some c => exact hpend
theorem draws_ok (hE : EnvAll E P) (hev : EvOK P ev) (hl : LocEv ev) {id : Nat} {ops : Array Oper} {a : AAct} {q : AExit × AAct} (h : drawC E ops.toList ev rnd a s = .ok q s') : CodeOK P rnd (.region id ops true) a s q s' := by
  intro ρ w act F n hF hw hf ha
  unfold drawC at h
  cases hso : slotsOk ops.toList ops.toList (befs ops.toList []) 0 with
  | false => rw [bif_false _ _ hso] at h; exact (M.fail_ok.1 h).elim
  | true =>
    rw [bif_true _ _ hso] at h
    obtain ⟨a', s1, h1, h2⟩ := M.bind_ok.1 h
    obtain ⟨rfl, rfl⟩ := M.pure_ok.1 h2
    obtain ⟨h0, c0, r0, w0⟩ := s
    exact wpIn_region_any hE.mixed (draw_ok hE hev hl hso h1 hF hw hf ha)
theorem loop_ok (hl : LocEv ev) {x : CodeC} {c : Code} (hlx : ∀ a, Loc (x ev rnd a)) (hx : ∀ a s q s', x ev rnd a s = .ok q s' → CodeOK P rnd c a s q s') {Q : Exit → Act → World → Prop} {q : AExit × AAct} (hF0 : FOf ρ0 rnd F)
    (hQ : ∀ e act' w', Left s0 s' ρ0 w0 q e act' w' → Q e act' w') :
    ∀ (m : Nat) (a : AAct) (s : St) (ρ : Ren) (act : Act) (w : World), loopN x ev rnd m a s = .ok q s' → WRel ρ s.h w → FreshN ρ s.c s'.c → ActR ρ a act → Stp s0 s ρ0 ρ w0 w → s0.c ≤ s.c → Code.roundsIn F n P c Q m act w
  | 0, a, s, ρ, act, w, h, _, _, _, _, _ => ((M.fail_ok (s := s)).1 h).elim
  | m + 1, a, s, ρ, act, w, h, hw, hf, ha, hst, hc => by
    obtain ⟨q1, s1, h1, h2⟩ := M.bind_ok.1 h
    have c1 := (hlx a).le h1
    have c2 : s1.c ≤ s'.c := by
      refine Loc.le (m := bif isNormal q1.1 then loopN x ev rnd m q1.2 else M.pure q1) (Loc.cond (Loc.loopN hlx m _) (Loc.pure _)) h2
    rw [roundsIn_succ]
    refine wpIn_mono (hx a s q1 s1 h1 ρ w act F n (hF0.mono hst.le) hw (hf.sub (Nat.le_refl _) c2) ha) (fun e act1 w1 hleft => ?_)
    obtain ⟨ρ1, g1, g2, g3, g4⟩ := hleft
    have hst1 := Stp.trans hst g4 hc c1
    cases hn : isNormal q1.1 with
    | true =>
      rw [bif_true _ _ hn] at h2
      rw [isNormal_iff.1 hn] at g1
      rw [g1.normal_of]
      exact loop_ok hl hlx hx hF0 hQ m q1.2 s1 ρ1 act1 w1 h2 g3 (hf.step g4 c1) g2 hst1 (Nat.le_trans hc c1)
    | false =>
      rw [bif_false _ _ hn] at h2
      obtain ⟨rfl, rfl⟩ := M.pure_ok.1 h2
      exact g1.other hn (hQ e act1 w1 ⟨ρ1, g1, g2, g3, hst1⟩)
theorem code_ok (hE : EnvAll E P) (hev : EvOK P ev) (hl : LocEv ev) (c : Code) : ∀ (rnd : Option Nat) (a : AAct) (s : St) (q : AExit × AAct) (s' : St), codeC E c ev rnd a s = .ok q s' → CodeOK P rnd c a s q s' := by
  induction c with
  | region id ops draw =>
    intro rnd a s q s' h
    cases draw with
    | true => exact draws_ok hE hev hl h
    | false =>
      intro ρ w act F n hF hw hf ha
      obtain ⟨a', s1, h1, h2⟩ := M.bind_ok.1 h
      obtain ⟨rfl, rfl⟩ := M.pure_ok.1 h2
      refine wpIn_region ?_
      rw [List.range_eq_range', ← Array.length_toList]
      exact ops_ok (s0 := s) (ρ0 := ρ) (w0 := w) hE hev hl ops.toList 0 a s ρ act w rfl h1 hF hw hf ha (Stp.alike (Alike.refl _)) (Nat.le_refl _) (fun ρ' act' w' g1 g2 g3 => ⟨ρ', .normal, g1, g2, g3⟩)
  | seq x y hx hy =>
    intro rnd a s q s' h ρ w act F n hF hw hf ha
    obtain ⟨q1, s1, h1, h2⟩ := M.bind_ok.1 h
    have c1 := (Loc.codeC hl x rnd a).le h1
    have c2 : s1.c ≤ s'.c := Loc.le (m := bif isNormal q1.1 then codeC E y ev rnd q1.2 else M.pure q1) (Loc.cond (Loc.codeC hl y rnd _) (Loc.pure _)) h2
    refine wpIn_seq (wpIn_mono (hx rnd a s q1 s1 h1 ρ w act F n hF hw (hf.sub (Nat.le_refl _) c2) ha) (fun e act1 w1 hleft => ?_))
    obtain ⟨ρ1, g1, g2, g3, g4⟩ := hleft
    cases hn : isNormal q1.1 with
    | true =>
      rw [bif_true _ _ hn] at h2
      rw [isNormal_iff.1 hn] at g1
      rw [g1.normal_of]
      exact wpIn_mono (hy rnd q1.2 s1 q s' h2 ρ1 w1 act1 F n (hF.mono g4.le) g3 (hf.step g4 c1) g2) (fun e act2 w2 hl2 => hl2.pre g4 c1 c2)
    | false =>
      rw [bif_false _ _ hn] at h2
      obtain ⟨rfl, rfl⟩ := M.pure_ok.1 h2
      exact g1.other hn ⟨ρ1, g1, g2, g3, g4⟩
  | cond c x y hx hy =>
    intro rnd a s q s' h ρ w act F n hF hw hf ha
    obtain ⟨v, s1, h1, h2⟩ := M.bind_ok.1 h
    obtain ⟨rfl, g1⟩ := rd_rel h1 ha.t
    obtain ⟨b, s2, h3, h4⟩ := M.bind_ok.1 h2
    obtain ⟨hb, rfl⟩ := M.of_ok.1 h3
    refine wpIn_cond (boolA_rel hb g1) ?_
    cases b with
    | true => exact hx rnd a _ q s' h4 ρ w act F n hF hw hf ha
    | false => exact hy rnd a _ q s' h4 ρ w act F n hF hw hf ha
  | block id x hx =>
    intro rnd a s q s' h ρ w act F n hF hw hf ha
    obtain ⟨q1, s1, h1, h2⟩ := M.bind_ok.1 h
    obtain ⟨rfl, rfl⟩ := M.pure_ok.1 h2
    exact wpIn_block (wpIn_mono (hx rnd a s q1 _ h1 ρ w act F n hF hw hf ha) (fun e act1 w1 hleft => hleft.inBlock))
  | loop x hx =>
    intro rnd a s q s' h ρ w act F n hF hw hf ha
    exact wpIn_loop_rounds ev.fuel (loop_ok (s0 := s) (ρ0 := ρ) (w0 := w) hl (fun a => Loc.codeC hl x rnd a) (fun a s q s' => hx rnd a s q s') hF (fun _ _ _ h => h) ev.fuel a s ρ act w h hw hf ha (Stp.alike (Alike.refl _)) (Nat.le_refl _))
  | scope x hx =>
    intro rnd a s q s' h ρ w act F n hF hw hf ha
    exact wpIn_scope (wpIn_mono (hx rnd a s q s' h ρ w act F n hF hw hf ha) (fun e act1 w1 hleft => hleft.noGoto))
  | rangeFunc f ps az bd _ _ => exact fun rnd a s q s' h => range_ok hev hl h
  | exit id =>
    intro rnd a s q s' h ρ w act F n hF hw hf ha
    obtain ⟨rfl, rfl⟩ := M.pure_ok.1 h
    exact wpIn_exit ⟨ρ, .exit id, ha, hw, Stp.alike (Alike.refl _)⟩
  | ret =>
    intro rnd a s q s' h ρ w act F n hF hw hf ha
    obtain ⟨rfl, rfl⟩ := M.pure_ok.1 h
    exact wpIn_ret ⟨ρ, .ret, ha, hw, Stp.alike (Alike.refl _)⟩
  | skip =>
    intro rnd a s q s' h ρ w act F n hF hw hf ha
    obtain ⟨rfl, rfl⟩ := M.pure_ok.1 h
    exact wpIn_skip ⟨ρ, .normal, ha, hw, Stp.alike (Alike.refl _)⟩
  | label l =>
    intro rnd a s q s' h ρ w act F n hF hw hf ha
    obtain ⟨rfl, rfl⟩ := M.pure_ok.1 h
    exact wpIn_label ⟨ρ, .normal, ha, hw, Stp.alike (Alike.refl _)⟩
  | goto l => exact fun rnd a s q s' h => ((M.fail_ok (s := s)).1 h).elim
  | refuse w => exact fun rnd a s q s' h => ((M.fail_ok (s := s)).1 h).elim
end
end Go.Proofs.YtdbgppknggaooaaGreatDoor.Vm
namespace Go.Proofs.YtdbgppknggaooaaGreatDoor.Vm
open Go
section
variable {P : Program} {E : Env} {ev : Ev} {rnd : Option Nat} {ρ ρ' ρ0 : Ren} {w w' w0 : World} {F : Fence} {n : Nat} {s s' s0 : St}
theorem slotA_nil (k : Nat) : slotA .nil k = undefA := rfl
theorem args0_slot : ∀ (l : List AV) (t : Tr AV) (j k : Nat), slotA (args0 t j l) k = if j ≤ k ∧ k < j + l.length then (l[k - j]?).getD undefA else slotA t k
  | [], t, j, k => by
    rw [if_neg (by rw [List.length_nil]; omega)]
    rfl
  | v :: r, t, j, k => by
    unfold args0
    rw [show Nat.succ j = j + 1 from rfl, args0_slot r _ (j + 1) k, slotA_put, List.length_cons]
    by_cases h1 : k = j
    · subst h1
      rw [if_neg (by omega), if_pos rfl, if_pos (by omega), Nat.sub_self]
      rfl
    · rw [if_neg h1]
      by_cases h2 : j + 1 ≤ k ∧ k < j + 1 + r.length
      · rw [if_pos h2, if_pos (by omega), show k - j = (k - (j + 1)) + 1 by omega, List.getElem?_cons_succ]
      · rw [if_neg h2, if_neg (by omega)]
theorem args_rel {args : List AV} {us : Array Value} {m : Nat} (h : LRel ρ args us.toList) (hle : args.length ≤ m) : TRel ρ (args0 .nil 0 args) m (us ++ Array.replicate (m - us.size) undef) := by
  have hl : us.size = args.length := by rw [← Array.length_toList, LRel.length _ h]
  refine ⟨by rw [Array.size_append, Array.size_replicate]; omega, fun k => ?_⟩
  rw [args0_slot, Array.getD_eq_getD_getElem?, Array.getElem?_append]
  by_cases hk : k < us.size
  · rw [if_pos (by omega), if_pos hk, Nat.sub_zero]
    obtain ⟨a, ha⟩ : ∃ a, args[k]? = some a := ⟨_, List.getElem?_eq_getElem (by omega)⟩
    obtain ⟨v, hv, hr⟩ := LRel.get h ha
    rw [Array.getElem?_toList] at hv
    rw [ha, hv]
    exact hr
  · rw [if_neg (by omega), if_neg hk, slotA_nil]
    have : ((Array.replicate (m - us.size) undef)[k - us.size]?).getD undef = undef := by
      rw [Array.getElem?_replicate]
      split <;> rfl
    rw [this]
    exact undef_rel
theorem loadM_run {i : TyI} {t : TypeId} {a v : AV} {u : Value} (hi : TyOK P t i) (h : loadM i a s = .ok v s') (ha : VRel ρ a u) (hw : WRel ρ s.h w) : Alike s s' ∧ ∃ ad r, u = .pointer (some ad) ∧ (loadVar t ad).run P w = .ok r w ∧ VRel ρ v r := by
  unfold loadM loadI at h
  obtain ⟨p, s1, h1, h2⟩ := M.bind_ok.1 h
  obtain ⟨hp, rfl⟩ := M.of_ok.1 h1
  obtain ⟨q, s2, h3, h4⟩ := M.bind_ok.1 h2
  obtain ⟨g1, _, ha2⟩ := rowM_ok h3
  obtain ⟨l, s3, h5, h6⟩ := M.bind_ok.1 h4
  obtain ⟨hl, rfl⟩ := M.of_ok.1 h5
  obtain ⟨x, hx, rfl⟩ := addrA_rel hp ha
  obtain ⟨ob, hb, hr⟩ := hw.row g1 hx
  obtain ⟨rfl, r, hr1, hr2⟩ := part_load hi hb hr hl h6
  exact ⟨ha2, _, r, rfl, hr1, hr2⟩
def resF (tmps : Array Value) : ResultVar → Sem Value
  | .tmp t => pure (tmps.getD t undef)
  | .cell a t => do loadVar t (← asAddr (tmps.getD a undef))
theorem results_eq (fn : Func) (tmps : Array Value) : results fn tmps = (do
    let vs ← fn.results.mapM (resF tmps)
    pure (if h : vs.size = 1 then vs[0] else .tuple vs)) := by
  unfold results
  congr 1
theorem resM_rel (hE : EnvOK E P) {T : Tr AV} {m : Nat} {tmps : Array Value} : ∀ {l : List ResultVar} {vs : List AV} {s s' : St}, resM E T l s = .ok vs s' → TRel ρ T m tmps → WRel ρ s.h w →
    Alike s s' ∧ ∃ us : List Value, (l.mapM (resF tmps)).run P w = .ok us w ∧ LRel ρ vs us
  | [], vs, s, s', h, _, _ => by
    obtain ⟨rfl, rfl⟩ := M.pure_ok.1 h
    exact ⟨Alike.refl _, [], rfl, LRel.nil_iff.2 rfl⟩
  | x :: r, vs, s, s', h, hT, hw => by
    unfold resM at h
    cases x with
    | tmp t =>
      obtain ⟨vs', s1, h1, h2⟩ := M.bind_ok.1 h
      obtain ⟨rfl, rfl⟩ := M.pure_ok.1 h2
      obtain ⟨g1, us, g2, g3⟩ := resM_rel hE h1 hT hw
      refine ⟨g1, tmps.getD t undef :: us, ?_, LRel.cons_iff.2 ⟨_, _, rfl, hT.2 t, g3⟩⟩
      rw [List.mapM_cons, Sem.run_bind, resF, Sem.run_pure, Result.andThen_ok, Sem.run_bind, g2, Result.andThen_ok, Sem.run_pure]
    | cell p t =>
      obtain ⟨i, hi, h1⟩ := withTy_ok.1 h
      obtain ⟨v, s1, h2, h3⟩ := M.bind_ok.1 h1
      obtain ⟨vs', s2, h4, h5⟩ := M.bind_ok.1 h3
      obtain ⟨rfl, rfl⟩ := M.pure_ok.1 h5
      obtain ⟨f1, ad, u, f2, f3, f4⟩ := loadM_run (hE.ty _ _ hi) h2 (hT.2 p) hw
      obtain ⟨g1, us, g2, g3⟩ := resM_rel hE h4 hT (hw.alike f1)
      refine ⟨f1.trans g1, u :: us, ?_, LRel.cons_iff.2 ⟨_, _, rfl, f4, g3⟩⟩
      rw [List.mapM_cons, Sem.run_bind]
      have e1 : (do loadVar t (← asAddr (tmps.getD p undef)) : Sem Value).run P w = .ok u w := by
        rw [f2]
        simp only [asAddr, Sem.run_bind, Sem.run_pure, Result.andThen_ok, f3]
      show Result.andThen ((do loadVar t (← asAddr (tmps.getD p undef)) : Sem Value).run P w) _ = _
      rw [e1, Result.andThen_ok, Sem.run_bind, g2, Result.andThen_ok, Sem.run_pure]
theorem results_rel (hE : EnvOK E P) {T : Tr AV} {m : Nat} {tmps : Array Value} {fn : Func} {vs : List AV} (h : resM E T fn.results.toList s = .ok vs s') (hT : TRel ρ T m tmps) (hw : WRel ρ s.h w) :
    Alike s s' ∧ ∃ u, (results fn tmps).run P w = .ok u w ∧ VRel ρ (tupOf vs) u := by
  obtain ⟨g1, us, g2, g3⟩ := resM_rel (P := P) hE h hT hw
  refine ⟨g1, (if h : us.toArray.size = 1 then us.toArray[0] else .tuple us.toArray), ?_, ?_⟩
  · rw [results_eq, Sem.run_bind, Array.mapM_eq_mapM_toList, Sem.run_map, g2]
    rfl
  · rcases vs with _ | ⟨v, _ | ⟨v2, r⟩⟩
    · rw [LRel.nil_iff.1 g3]
      exact ⟨#[], rfl, LRel.nil_iff.2 rfl⟩
    · obtain ⟨u, l, h1, h2, h3⟩ := LRel.cons_iff.1 g3
      rw [LRel.nil_iff.1 h3] at h1
      subst h1
      exact h2
    · have hl := LRel.length _ g3
      rw [dif_neg (by simp only [List.size_toArray]; rw [hl]; simp)]
      exact ⟨us.toArray, rfl, by simpa using g3⟩
theorem leave_ok (hE : EnvAll E P) (hev : EvOK P ev) (hl : LocEv ev) {fn : Func} {tmps : Array Value} {R : Ending → World → Prop} : ∀ (ds : List ADef) (defers : List Deferred) (s : St) (ρ : Ren) (w : World), leaveM E ev ds s = .ok () s' → DRel ρ ds defers → WRel ρ s.h w → FreshN ρ s.c s'.c →
    Stp s0 s ρ0 ρ w0 w → s0.c ≤ s.c → (∀ ρ' w', ρ.le ρ' → WRel ρ' s'.h w' → Stp s0 s' ρ0 ρ' w0 w' → ∃ v, (results fn tmps).run P w' = .ok v w' ∧ R (.returned v) w') → LeavesInM Fence.wide n P fn tmps R defers .returning w
  | [], defers, s, ρ, w, h, hd, hw, hf, hst, hc, hR => by
    obtain ⟨_, rfl⟩ := M.pure_ok.1 h
    rw [show defers = [] from hd]
    exact hR ρ w (Ren.le_refl _) hw hst
  | d :: ds, defers, s, ρ, w, h, hd, hw, hf, hst, hc, hR => by
    obtain ⟨q, defers', rfl, hq, hds⟩ := hd
    unfold leaveM at h
    refine ⟨by simp, ?_⟩
    cases d with
    | mark r =>
      obtain ⟨p, hp, rfl⟩ := hq
      simp only at h
      obtain ⟨x, s1, h1, h2⟩ := M.bind_ok.1 h
      unfold defsM at h1
      obtain ⟨o, s2, h3, h4⟩ := M.bind_ok.1 h1
      obtain ⟨g1, g2⟩ := getM_alike h3
      obtain ⟨od, s3, h5, h6⟩ := M.bind_ok.1 h4
      obtain ⟨ho, rfl⟩ := M.of_ok.1 h5
      obtain ⟨hx, rfl⟩ := M.of_ok.1 h6
      cases x with
      | cons _ _ => exact ((M.fail_ok (s := s1)).1 h2).elim
      | nil =>
        obtain ⟨_, s4, h7, h8⟩ := M.bind_ok.1 h2
        have ho' : o = .defs (some []) := by
          cases o <;> simp only [defsO, Option.some.injEq, reduceCtorEq] at ho
          rw [ho, hx]
        subst ho'
        obtain ⟨p', ob, e1, e2, dd, rfl, e4⟩ := hw.at_ r _ g1
        rw [hp] at e1
        injection e1 with e1
        subst e1
        obtain ⟨l0, rfl, e5⟩ := e4
        obtain rfl : l0 = [] := e5
        obtain ⟨_, hs'⟩ := setM_ok.1 h7
        have hc4 : s4.c = s1.c := by rw [hs']; rfl
        have hc3 : s1.c = s.c := g2.2
        have hlt := (Array.getElem?_eq_some_iff.1 e2).1
        have hon : Only p.1 w { w with heap := w.heap.setIfInBounds p.1 (.deferred none) } := ⟨rfl, rfl, rfl, by simp, fun q hq => by simp [Ne.symm hq]⟩
        have hset := set_rel (s := s1) (s' := s4) (o := .defs none) (hw.alike g2) (by rw [g2.1, g1]; rfl) hp (by rw [hs']; rfl) hon (ob := .deferred none) (by simp [hlt]) ⟨none, rfl, rfl⟩
        refine .inl ⟨p.1, _, rfl, ?_, leave_ok hE hev hl ds defers' s4 ρ _ h8 hds hset.1 (hf.sub (by omega) (Nat.le_refl _)) (Stp.trans hst (g2.stp hset.2) hc (by omega)) (by omega) hR⟩
        simp [Instr.takeDeferred, getObj, setObj, Sem.run, e2]
    | fn g args cap =>
      obtain ⟨c, az, rfl, ha, hcap⟩ := hq
      simp only at h
      cases hcm : isCalm g E.calm with
      | true =>
        rw [bif_true _ _ hcm] at h
        obtain ⟨en, hcalm⟩ := hE.calm g hcm
        refine .inr ⟨fun e => (by cases e), .func g, c, g, az ++ c, rfl, en _ _, fun _ _ => trivial, CallsDIn.mono (hcalm (az ++ c) w _) ?_⟩
        rintro e u' w2 ⟨⟨v, rfl⟩, rfl, q1, q2, q3, q4⟩
        refine leave_ok hE hev hl ds defers' s ρ w2 h hds (hw.heap q1) hf ?_ hc hR
        exact ⟨hst.ext, hst.le, q2.trans hst.os, q3.trans hst.tape, q4.trans hst.output, by rw [q1]; exact hst.size, fun q h1 h2 => by rw [q1]; exact hst.block q h1 h2, hst.own⟩
      | false =>
        rw [bif_false _ _ hcm] at h
        obtain ⟨v, s1, h1, h2⟩ := M.bind_ok.1 h
        have c1 := (hl.callD _ _).le h1
        have c2 := (Loc.leaveM hl ds).le h2
        obtain ⟨en, hcd⟩ := hev.callD _ _ _ _ _ h1
        refine .inr ⟨fun e => (by cases e), .func g, c, g, az ++ c, rfl, en _ _, fun _ _ => trivial, CallsDIn.mono (hcd ρ w (az ++ c) _ hw (hf.sub (Nat.le_refl _) c2) (by rw [Array.toList_append]; exact LRel.append ha hcap)) ?_⟩
        rintro e u' w2 ⟨rfl, ρ2, u, rfl, hv, hw2, hs2⟩
        exact leave_ok hE hev hl ds defers' s1 ρ2 w2 h2 (hds.mono hs2.le) hw2 (hf.step hs2 c1) (Stp.trans hst hs2 hc c1) (Nat.le_trans hc c1) (fun ρ' w' hle => hR ρ' w' (Ren.le_trans hs2.le hle))
end
end Go.Proofs.YtdbgppknggaooaaGreatDoor.Vm
namespace Go.Proofs.YtdbgppknggaooaaGreatDoor.Vm
open Go Go.RowKit
section
variable {P : Program} {E : Env} {ev : Ev} {ρ ρ' ρ0 : Ren} {w w' w0 : World} {n : Nat} {s s' s0 : St}
theorem bodyC_ok {fn : Func} {c : CodeC} {args : List AV} {q : Tr AV × List ADef} (h : bodyC fn c ev args s = .ok q s') : args.length ≤ fn.ntmps ∧ ∃ e m, isExit e = false ∧ c ev none (.mk (args0 .nil 0 args) fn.ntmps []) s = .ok (e, .mk q.1 m q.2) s' := by
  unfold bodyC at h
  cases hb : Nat.ble args.length fn.ntmps with
  | false => rw [bif_false _ _ hb] at h; exact (M.fail_ok.1 h).elim
  | true =>
    rw [bif_true _ _ hb] at h
    obtain ⟨⟨e, a⟩, s1, h1, h2⟩ := M.bind_ok.1 h
    simp only at h2
    cases he : isExit e with
    | true => rw [bif_true _ _ he] at h2; exact (M.fail_ok.1 h2).elim
    | false =>
      rw [bif_false _ _ he] at h2
      obtain ⟨T, m, ds⟩ := a
      obtain ⟨rfl, rfl⟩ := M.pure_ok.1 h2
      exact ⟨ble_true.1 hb, e, m, he, h1⟩
theorem ent_ok (hE : EnvAll E P) (hev : EvOK P ev) (hl : LocEv ev) {f : FuncId} {fn : Func} {c : Code} {args : List AV} {v : AV} (hf : P.funcs[f]? = some fn) (hb : fn.body = some c) (h : entC E fn (codeC E c) ev args s = .ok v s') : CallOK P f args s v s' := by
  intro ρ w us n hw hfr hu
  obtain ⟨q, s1, h1, h2⟩ := M.bind_ok.1 h
  obtain ⟨_, s2, h3, h4⟩ := M.bind_ok.1 h2
  obtain ⟨vs, s3, h5, h6⟩ := M.bind_ok.1 h4
  obtain ⟨rfl, rfl⟩ := M.pure_ok.1 h6
  obtain ⟨hle, e, m, he, hc⟩ := bodyC_ok h1
  have c1 := (Loc.codeC hl c none _).le hc
  have c2 := (Loc.leaveM hl _).le h3
  have c3 := (Loc.resM E _ _).le h5
  refine callsIn_of_wp_marks hf hb trivial (wpIn_mono (code_ok hE hev hl c none _ s _ s1 hc ρ w _ Fence.wide n rfl hw (hfr.sub (Nat.le_refl _) (by omega)) ⟨args_rel hu hle, rfl⟩) ?_)
  rintro x act w1 ⟨ρ1, g1, g2, g3, g4⟩
  have hleave : LeavesInM Fence.wide n P fn act.tmps (Ret s s' ρ w (tupOf vs)) act.defers .returning w1 := by
    refine leave_ok (s0 := s) (ρ0 := ρ) (w0 := w) hE hev hl q.2 act.defers s1 ρ1 w1 h3 g2.d g3 ((hfr.step g4 c1).sub (Nat.le_refl _) (by omega)) g4 c1 (fun ρ' w' hle' hw' hst' => ?_)
    obtain ⟨al, u, e1, e2⟩ := results_rel (P := P) hE.toEnvOK h5 (g2.t.mono hle') hw'
    exact ⟨u, e1, ρ', u, rfl, e2, hw'.alike al, hst'.thenAlike al⟩
  cases g1 with
  | normal => exact hleave
  | ret => exact hleave
  | exit i => cases he
theorem entD_ok (hE : EnvAll E P) (hev : EvOK P ev) (hl : LocEv ev) {f : FuncId} {fn : Func} {c : Code} {args : List AV} {v : AV} (hf : P.funcs[f]? = some fn) (hb : fn.body = some c) (h : entD E fn (codeC E c) ev args s = .ok v s') : CallDOK P f args s v s' := by
  intro ρ w us n hw hfr hu
  obtain ⟨⟨T, ds⟩, s1, h1, h2⟩ := M.bind_ok.1 h
  cases ds with
  | cons _ _ => exact ((M.fail_ok (s := s1)).1 h2).elim
  | nil =>
    obtain ⟨vs, s3, h5, h6⟩ := M.bind_ok.1 h2
    obtain ⟨rfl, rfl⟩ := M.pure_ok.1 h6
    obtain ⟨hle, e, m, he, hc⟩ := bodyC_ok h1
    have c1 := (Loc.codeC hl c none _).le hc
    have c3 := (Loc.resM E _ _).le h5
    refine callsDIn_of_wp hf hb trivial (wpIn_mono (code_ok hE hev hl c none _ s _ s1 hc ρ w _ Fence.wide n rfl hw (hfr.sub (Nat.le_refl _) (by omega)) ⟨args_rel hu hle, rfl⟩) ?_)
    rintro x act w1 ⟨ρ1, g1, g2, g3, g4⟩
    have hend : act.defers = [] ∧ ∃ v, (results fn act.tmps).run P w1 = .ok v w1 ∧ Ret s s' ρ w (tupOf vs) (.returned v) w1 := by
      obtain ⟨al, u, e1, e2⟩ := results_rel (P := P) hE.toEnvOK h5 g2.t g3
      exact ⟨g2.d, u, e1, ρ1, u, rfl, e2, g3.alike al, g4.thenAlike al⟩
    cases g1 with
    | normal => exact hend
    | ret => exact hend
    | exit i => cases he
theorem evN_ok (hE : EnvAll E P) : ∀ m, EvOK P (evN E m)
  | 0 => ⟨fun f args s v s' h => ((M.fail_ok (s := s)).1 h).elim, fun f args s v s' h => ((M.fail_ok (s := s)).1 h).elim, fun rnd c a s q s' h => ((M.fail_ok (s := s)).1 h).elim⟩
  | m + 1 => by
    have hev := evN_ok hE m
    have hl := locEv hE.orcLoc m
    refine ⟨fun f args s v s' h => ?_, fun f args s v s' h => ?_, fun rnd c a s q s' h => code_ok hE hev hl c rnd a s q s' h⟩
    · have h' : fnC E f (evN E m) args s = .ok v s' := h
      unfold fnC at h'
      cases ho : E.orc.get f with
      | some o =>
        rw [ho] at h'
        obtain ⟨g1, g2⟩ := hE.orc f o ho
        exact ⟨g1, g2 args s v s' h'⟩
      | none =>
        rw [ho] at h'
        cases hfn : E.fn.get f with
        | none => rw [hfn] at h'; exact ((M.fail_ok (s := s)).1 h').elim
        | some fn =>
          rw [hfn] at h'
          simp only at h'
          obtain ⟨g1, g2⟩ := hE.fn f fn hfn
          cases hb : fn.body with
          | none => rw [hb] at h'; exact ((M.fail_ok (s := s)).1 h').elim
          | some c =>
            rw [hb] at h'
            exact ⟨g2, ent_ok hE hev hl g1 hb h'⟩
    · have h' : fnD E f (evN E m) args s = .ok v s' := h
      unfold fnD at h'
      cases hfn : E.fn.get f with
      | none => rw [hfn] at h'; exact ((M.fail_ok (s := s)).1 h').elim
      | some fn =>
        rw [hfn] at h'
        simp only at h'
        obtain ⟨g1, g2⟩ := hE.fn f fn hfn
        cases hb : fn.body with
        | none => rw [hb] at h'; exact ((M.fail_ok (s := s)).1 h').elim
        | some c =>
          rw [hb] at h'
          exact ⟨g2, entD_ok hE hev hl g1 hb h'⟩
def noRen : Ren := fun _ => none
theorem reckoned (hE : EnvAll E P) {m : Nat} {f : FuncId} {args : List AV} {v : AV} (h : (evN E m).call f args (.mk .nil 0 [] []) = .ok v s') {us : Array Value} (hu : LRel noRen args us.toList) (w : World) :
    Calls P f us w (fun e w' => ∃ ρ u, e = .returned u ∧ VRel ρ v u ∧ WRel ρ s'.h w' ∧ Below w.heap.size w w') := by
  have hc := ((evN_ok hE m).call _ _ _ _ _ h).2 noRen w us 0 ⟨fun n o ho => (by cases ho), fun n m p q hn => (by cases hn)⟩ (fun _ _ _ => rfl) hu
  refine Calls.mono (callsIn_wide.1 hc) ?_
  rintro e w' ⟨ρ, u, rfl, h1, h2, h3⟩
  refine ⟨ρ, u, rfl, h1, h2, ⟨h3.os, h3.tape, h3.output, h3.size, fun q hq => h3.block q hq ?_⟩⟩
  rintro ⟨n, p, hn, _⟩
  cases hn
end
end Go.Proofs.YtdbgppknggaooaaGreatDoor.Vm
namespace Go.Proofs.YtdbgppknggaooaaGreatDoor.Vm
open Go
mutual
noncomputable def conV : AV → Value
  | .int k n => .int k n
  | .bool b => .bool b
  | .str s => .string s
  | .nilp => .pointer none
  | .nilslice => .slice none 0 0
  | .nilmap => .map none
  | .nilfunc => .nilFunc
  | .niliface => .nilIface
  | .agg cs => .agg (conC cs).toArray
  | _ => .tuple #[]
noncomputable def conC : List AV → List Value
  | [] => []
  | a :: r => (match isB a with | some p => bytesV p.1 p.2 | none => [conV a]) ++ conC r
end
mutual
def okV : AV → Bool
  | .int _ _ => true
  | .bool _ => true
  | .str _ => true
  | .nilp => true
  | .nilslice => true
  | .nilmap => true
  | .nilfunc => true
  | .niliface => true
  | .agg cs => okC cs
  | _ => false
def okC : List AV → Bool
  | [] => true
  | a :: r => (match isB a with | some p => Nat.blt p.2 (Nat.pow 2 (Nat.mul 8 p.1)) | none => isOne a && okV a) && okC r
end
mutual
theorem conV_rel (ρ : Ren) : ∀ (a : AV), okV a = true → VRel ρ a (conV a)
  | .int _ _, _ => by simp [VRel, conV]
  | .bool _, _ => by simp [VRel, conV]
  | .str _, _ => by simp [VRel, conV]
  | .nilp, _ => by simp [VRel, conV]
  | .nilslice, _ => by simp [VRel, conV]
  | .nilmap, _ => by simp [VRel, conV]
  | .nilfunc, _ => by simp [VRel, conV]
  | .niliface, _ => by simp [VRel, conV]
  | .agg cs, h => by
    rw [okV] at h
    rw [VRel, conV]
    exact ⟨_, rfl, by simpa using conC_rel ρ cs h⟩
  | .ptr _ _, h => by simp [okV] at h
  | .slice _ _ _ _ _, h => by simp [okV] at h
  | .empty, h => by simp [okV] at h
  | .map _, h => by simp [okV] at h
  | .func _ _ _, h => by simp [okV] at h
  | .yield _, h => by simp [okV] at h
  | .iface _ _, h => by simp [okV] at h
  | .tuple _, h => by simp [okV] at h
  | .bytes _ _, h => by simp [okV] at h
  | .any, h => by simp [okV] at h
  | .but _ _, h => by simp [okV] at h
theorem conC_rel (ρ : Ren) : ∀ (l : List AV), okC l = true → CRel ρ l (conC l)
  | [], _ => by simp [CRel, conC]
  | a :: r, h => by
    rw [okC, Bool.and_eq_true] at h
    refine CRel.cons_iff.2 ⟨_, conC r, by rw [conC], ?_, conC_rel ρ r h.2⟩
    have h1 := h.1
    cases hb : isB a with
    | some p =>
      rw [hb] at h1
      exact ⟨rfl, blt_true.1 h1⟩
    | none =>
      rw [hb] at h1
      simp only [Bool.and_eq_true] at h1
      exact ⟨h1.1, _, rfl, conV_rel ρ a h1.2⟩
end
section
variable {P : Program} {E : Env}
theorem tyOK_of {t : TypeId} {i : TyI} {inf : TypeInfo} {d : TypeDesc} (h1 : P.info? t = some inf) (h2 : P.underlying t = some d) (hs : inf.size = i.size) (hb : inf.bytes = i.bytes) (hz : inf.zero = some (conV i.zero)) (hzc : (conV i.zero).cells.toList = conC i.zc)
    (ho : (okV i.zero && okC i.zc) = true) (hd : DescR P i.desc d) (ha : i.agg = d.isRow) (hf : i.flat = true → FlatOK P t (isArrD i.desc) i.size i.zc) (hn : (conV i.zero).cells.size = i.size) : TyOK P t i := by
  rw [Bool.and_eq_true] at ho
  exact ⟨inf, d, conV i.zero, h1, h2, hs, hb, hz, fun ρ => conV_rel ρ _ ho.1, fun ρ => by rw [hzc]; exact conC_rel ρ _ ho.2, hd, ha, hf, hn⟩
def AllT {α : Type} (Q : Nat → α → Prop) : Tr α → Nat → Nat → Prop
  | .nil, _, _ => True
  | .node l v r, a, b => AllT Q l (a + b) (2 * b) ∧ (match v with | some x => Q a x | none => True) ∧ AllT Q r (a + 2 * b) (2 * b)
theorem allT_get {α : Type} {Q : Nat → α → Prop} {x : α} : ∀ (t : Tr α) (a b n : Nat), AllT Q t a b → t.get n = some x → Q (a + b * n) x
  | .nil, _, _, _, _, h => by cases h
  | .node l v r, a, b, n, ⟨h1, h2, h3⟩, h => by
    rw [Tr.get_node] at h
    by_cases h0 : n = 0
    · rw [if_pos h0] at h
      subst h0
      rw [h] at h2
      exact h2
    · rw [if_neg h0] at h
      by_cases h4 : n % 2 = 1
      · rw [if_pos h4] at h
        have := allT_get l _ _ _ h1 h
        have e : a + b + 2 * b * (n / 2) = a + b * n := by
          have : n = 2 * (n / 2) + 1 := by omega
          conv => rhs; rw [this]
          rw [Nat.mul_add, Nat.mul_one, ← Nat.mul_assoc, Nat.mul_comm b 2]
          omega
        rwa [e] at this
      · rw [if_neg h4] at h
        have := allT_get r _ _ _ h3 h
        have e : a + 2 * b + 2 * b * (n / 2 - 1) = a + b * n := by
          have : n = 2 * (n / 2 - 1) + 2 := by omega
          conv => rhs; rw [this]
          rw [Nat.mul_add, ← Nat.mul_assoc, Nat.mul_comm b 2]
          omega
        rwa [e] at this
theorem envOK_of (hT : AllT (TyOK P) E.ty 0 1) (hF : AllT (fun f fn => P.funcs[f]? = some fn ∧ ∀ (args : Array Value) (w : World), (callFunc f args).run P w = .ok (.enter f args) w) E.fn 0 1) (hm : P.follows .mixedOrders = true) : EnvOK E P :=
  ⟨fun t i h => by have := allT_get E.ty 0 1 t hT h; rwa [Nat.one_mul, Nat.zero_add] at this, fun f fn h => by have := allT_get E.fn 0 1 f hF h; rwa [Nat.one_mul, Nat.zero_add] at this, hm⟩
theorem findMeth_mem : ∀ {l : List (TypeId × String × FuncId)} {t : TypeId} {m : String} {g : FuncId}, findMeth l t m = some g → (t, m, g) ∈ l
  | [], _, _, _, h => by cases h
  | x :: r, t, m, g, h => by
    unfold findMeth at h
    cases hb : (Nat.beq x.1 t && x.2.1 == m) with
    | true =>
      rw [bif_true _ _ hb] at h
      rw [Bool.and_eq_true] at hb
      simp only [Option.some.injEq] at h
      have e1 := beq_true.1 hb.1
      have e2 := eq_of_beq hb.2
      obtain ⟨x1, x2, x3⟩ := x
      simp only at e1 e2 h
      rw [e1, e2, h]
      exact List.mem_cons_self
    | false =>
      rw [bif_false _ _ hb] at h
      exact List.mem_cons_of_mem _ (findMeth_mem h)
end
end Go.Proofs.YtdbgppknggaooaaGreatDoor.Vm
namespace Go.Proofs.YtdbgppknggaooaaGreatDoor.Vm
open Go
theorem shape_len {arr : Bool} {n : Nat} {zc a : List AV} (h : shapeB arr n zc a = true) : lenC a = n := by
  unfold shapeB at h
  rw [Bool.and_eq_true] at h
  exact beq_true.1 h.1
theorem shape_eq {arr : Bool} {n : Nat} {zc a : List AV} (h : shapeB arr n zc a = true) : ∃ c, eqFlat arr a zc = some c := by
  unfold shapeB at h
  rw [Bool.and_eq_true] at h
  cases he : eqFlat arr a zc with
  | some c => exact ⟨c, rfl⟩
  | none => rw [he] at h; cases h.2
theorem unpack_inj : ∀ {l n m : Nat}, n < 2 ^ (8 * l) → m < 2 ^ (8 * l) → unpack l n = unpack l m → n = m
  | 0, n, m, h1, h2, _ => by
    have : 2 ^ (8 * 0) = 1 := rfl
    omega
  | l + 1, n, m, h1, h2, h => by
    unfold unpack at h
    injection h with e1 e2
    have hp : 2 ^ (8 * (l + 1)) = 256 * 2 ^ (8 * l) := by rw [show 8 * (l + 1) = 8 * l + 8 by omega, Nat.pow_add, Nat.mul_comm]
    rw [hp] at h1 h2
    have e3 : n % 256 = m % 256 := by
      have := congrArg UInt8.toNat e1
      rw [UInt8.toNat_ofNat', UInt8.toNat_ofNat'] at this
      have h3 : Nat.mod n 256 = n % 256 := rfl
      have h4 : Nat.mod m 256 = m % 256 := rfl
      rw [h3, h4] at this
      omega
    have e4 : n / 256 = m / 256 := unpack_inj (l := l) (by omega) (by omega) e2
    omega
section
variable {ρ : Ren} {P : Program}
theorem unpack_beq {l n m : Nat} (h1 : n < 2 ^ (8 * l)) (h2 : m < 2 ^ (8 * l)) : (unpack l n == unpack l m) = Nat.beq n m := by
  rw [Bool.eq_iff_iff, beq_iff_eq, beq_true]
  exact ⟨unpack_inj h1 h2, fun e => by rw [e]⟩
theorem append_beq {xs ys us vs : List UInt8} (h : xs.length = ys.length) : (xs ++ us == ys ++ vs) = ((xs == ys) && (us == vs)) := by
  rw [Bool.eq_iff_iff, Bool.and_eq_true, beq_iff_eq, beq_iff_eq, beq_iff_eq]
  exact ⟨fun e => List.append_inj e h, fun e => by rw [e.1, e.2]⟩
theorem eqLB_rel : ∀ {a b : List AV} {us vs : List Value} {r : Bool}, eqLB a b = some r → CRel ρ a us → CRel ρ b vs → ∃ xs ys : List UInt8, us = xs.map byteV ∧ vs = ys.map byteV ∧ xs.length = ys.length ∧ r = (xs == ys)
  | [], [], us, vs, r, h, hu, hv => by
    simp only [eqLB, Option.some.injEq] at h
    subst h
    exact ⟨[], [], CRel.nil_iff.1 hu, CRel.nil_iff.1 hv, rfl, rfl⟩
  | [], _ :: _, _, _, _, h, _, _ => by cases h
  | _ :: _, [], _, _, _, h, _, _ => by cases h
  | a :: x, b :: y, us, vs, r, h, hu, hv => by
    obtain ⟨u1, u2, rfl, h1, h2⟩ := CRel.cons_iff.1 hu
    obtain ⟨v1, v2, rfl, h3, h4⟩ := CRel.cons_iff.1 hv
    unfold eqLB at h
    cases ha : isB a with
    | none => rw [ha] at h; cases h
    | some p =>
      cases hb : isB b with
      | none => rw [ha, hb] at h; cases h
      | some q =>
        rw [ha, hb] at h
        rw [ha] at h1
        rw [hb] at h3
        simp only at h
        cases hpq : Nat.beq p.1 q.1 with
        | false => rw [bif_false _ _ hpq] at h; cases h
        | true =>
          rw [bif_true _ _ hpq] at h
          cases hr : eqLB x y with
          | none => rw [hr] at h; cases h
          | some c =>
            rw [hr] at h
            simp only [Option.some.injEq] at h
            subst h
            obtain ⟨xs, ys, rfl, rfl, e1, rfl⟩ := eqLB_rel hr h2 h4
            obtain ⟨rfl, g1⟩ := h1
            obtain ⟨rfl, g2⟩ := h3
            have e2 := beq_true.1 hpq
            refine ⟨unpack p.1 p.2 ++ xs, unpack q.1 q.2 ++ ys, by rw [List.map_append]; rfl, by rw [List.map_append]; rfl, by rw [List.length_append, List.length_append, unpack_length, unpack_length, e1, e2], ?_⟩
            rw [append_beq (by rw [unpack_length, unpack_length, e2]), e2, unpack_beq (by rw [← e2]; exact g1) g2]
end
end Go.Proofs.YtdbgppknggaooaaGreatDoor.Vm
namespace Go.Proofs.YtdbgppknggaooaaGreatDoor
open Go.RowKit
def bitR (v : Nat) : Nat := if v % 2 = 1 then v / 2 ^^^ 2197175160 else v / 2
def bitsR : Nat → Nat → Nat
  | 0, v => v
  | n + 1, v => bitsR n (bitR v)
def stepR (s : Nat) (c : UInt8) : Nat := bitsR 8 (s ^^^ c.toNat)
def moreR (s : Nat) (bs : List UInt8) : Nat := 4294967295 - bs.foldl stepR (4294967295 - s)
theorem bitR_xor (a b : Nat) : bitR (a ^^^ b) = bitR a ^^^ bitR b := by
  have h1 : (a ^^^ b) / 2 = a / 2 ^^^ b / 2 := by have := Nat.xor_div_two_pow (a := a) (b := b) (n := 1); simpa using this
  have h2 : (a ^^^ b) % 2 = (a % 2) ^^^ (b % 2) := by have := Nat.xor_mod_two_pow (a := a) (b := b) (n := 1); simpa using this
  unfold bitR
  rw [h1, h2]
  rcases Nat.mod_two_eq_zero_or_one a with ha | ha <;> rcases Nat.mod_two_eq_zero_or_one b with hb | hb <;> rw [ha, hb]
  · simp
  · simp [Nat.xor_assoc]
  · rw [if_pos (by decide), if_pos rfl, if_neg (by decide), Nat.xor_assoc, Nat.xor_assoc, Nat.xor_comm 2197175160]
  · simp only [Nat.xor_self, if_true]
    rw [if_neg (by decide), Nat.xor_assoc, ← Nat.xor_assoc 2197175160, Nat.xor_comm 2197175160 (b / 2), Nat.xor_assoc (b / 2), Nat.xor_self, Nat.xor_zero]
theorem bitsR_xor : ∀ (n a b : Nat), bitsR n (a ^^^ b) = bitsR n a ^^^ bitsR n b
  | 0, _, _ => rfl
  | n + 1, a, b => by rw [bitsR, bitR_xor, bitsR_xor n]; rfl
theorem bitsR_shift : ∀ (n h : Nat), bitsR n (2 ^ n * h) = h
  | 0, h => by simp [bitsR]
  | n + 1, h => by
    have h1 : 2 ^ (n + 1) * h = 2 * (2 ^ n * h) := by rw [Nat.pow_succ, Nat.mul_comm (2 ^ n) 2, Nat.mul_assoc]
    rw [bitsR, h1]
    have h2 : bitR (2 * (2 ^ n * h)) = 2 ^ n * h := by unfold bitR; rw [if_neg (by omega)]; omega
    rw [h2, bitsR_shift n]
theorem outT_bits : outT 8 = (List.range 256).map (bitsR 8) := by kernel_rfl
theorem split_xor (x : Nat) : x = 2 ^ 8 * (x / 256) ^^^ (x % 256) := by
  apply Nat.eq_of_testBit_eq
  intro i
  have h := Nat.testBit_two_pow_mul_add (x / 256) (i := 8) (b := x % 256) (Nat.mod_lt _ (by omega)) i
  have hx : 2 ^ 8 * (x / 256) + x % 256 = x := by omega
  rw [hx] at h
  rw [h, Nat.testBit_xor, Nat.testBit_two_pow_mul]
  by_cases hi : i < 8
  · rw [if_pos hi]
    have : decide (i ≥ 8) = false := by simp; omega
    simp [this]
  · rw [if_neg hi]
    have h8 : decide (i ≥ 8) = true := by simp; omega
    have hi8 : 8 ≤ i := by omega
    have hlt : x % 256 < 2 ^ i := Nat.lt_of_lt_of_le (Nat.mod_lt x (by decide : 0 < 256)) (Nat.pow_le_pow_right (n := 2) (by decide) hi8)
    rw [Nat.testBit_lt_two_pow hlt, h8]
    simp
theorem crcStep_eq (s : Nat) (c : UInt8) : crcStep s c = stepR s c := by
  have hc : c.toNat < 256 := c.toNat_lt
  have h1 : (s ^^^ c.toNat) / 256 = s / 256 := by
    have := Nat.xor_div_two_pow (a := s) (b := c.toNat) (n := 8)
    rw [show (2 : Nat) ^ 8 = 256 from rfl, Nat.div_eq_of_lt hc, Nat.xor_zero] at this
    exact this
  have h2 : (s ^^^ c.toNat) % 256 = s % 256 ^^^ c.toNat := by
    have := Nat.xor_mod_two_pow (a := s) (b := c.toNat) (n := 8)
    rw [show (2 : Nat) ^ 8 = 256 from rfl, Nat.mod_eq_of_lt hc] at this
    exact this
  have h3 : s % 256 ^^^ c.toNat < 256 := Nat.xor_lt_two_pow (n := 8) (Nat.mod_lt _ (by omega)) hc
  unfold crcStep stepR
  rw [split_xor (s ^^^ c.toNat), bitsR_xor, bitsR_shift, h1, h2, outT_bits, List.getD_eq_getElem?_getD, List.getElem?_map, List.getElem?_range h3]
  rfl
theorem moreD_eq (s : Nat) (bs : List UInt8) : moreD s bs = moreR s bs := by
  unfold moreD moreR
  rw [show crcStep = stepR from funext fun s => funext fun c => crcStep_eq s c]
end Go.Proofs.YtdbgppknggaooaaGreatDoor
namespace Go.Proofs.YtdbgppknggaooaaGreatDoor
open Go.RowKit
def numB (bs : List UInt8) : Nat := bs.foldl (fun u b => 256 * u + b.toNat) 0
theorem numB_snoc (bs : List UInt8) (b : UInt8) : numB (bs ++ [b]) = 256 * numB bs + b.toNat := by simp [numB]
theorem numB_lt (bs : List UInt8) : numB bs < 256 ^ bs.length := by
  have h : ∀ (l : List UInt8) (u : Nat), l.foldl (fun u b => 256 * u + b.toNat) u < (u + 1) * 256 ^ l.length := by
    intro l
    induction l with
    | nil => intro u; simp
    | cons b l ih =>
      intro u
      refine Nat.lt_of_lt_of_le (ih _) ?_
      have hb := b.toNat_lt
      rw [List.length_cons, Nat.pow_succ, Nat.mul_comm (256 ^ l.length) 256, ← Nat.mul_assoc]
      exact Nat.mul_le_mul_right _ (by show 256 * u + b.toNat + 1 ≤ (u + 1) * 256; omega)
  simpa [numB] using h bs 0
def cutB (bs : List UInt8) (at_ width : Nat) : List UInt8 := (bs.drop at_).take width
def numI (bs : List UInt8) : Int := wrap64 (numB bs : Nat)
theorem numB_lt64 (bs : List UInt8) (h : bs.length ≤ 8) : numB bs < 18446744073709551616 :=
  Nat.lt_of_lt_of_le (numB_lt bs) (Nat.le_trans (Nat.pow_le_pow_right (by decide) h) (by decide))
theorem cutB_succ {bs : List UInt8} {at_ k : Nat} {x : UInt8} (h : bs[at_ + k]? = some x) : cutB bs at_ (k + 1) = cutB bs at_ k ++ [x] := by
  unfold cutB
  have h1 : (bs.drop at_)[k]? = some x := by rw [List.getElem?_drop]; exact h
  obtain ⟨hk, e⟩ := List.getElem?_eq_some_iff.1 h1
  rw [List.take_succ_eq_append_getElem hk, e]
theorem bits_or_256 (u y : Nat) (hu : u < 72057594037927936) (hy : y < 256) : bits .or .u64 ((256 * u : Nat) : Int) (y : Int) = ((256 * u + y : Nat) : Int) := by
  have h1 : (BitVec.ofInt 64 ((256 * u : Nat) : Int)).toNat = 256 * u := by
    rw [BitVec.ofInt_natCast, BitVec.toNat_ofNat]; exact Nat.mod_eq_of_lt (by omega)
  have h2 : (BitVec.ofInt 64 (y : Int)).toNat = y := by
    rw [BitVec.ofInt_natCast, BitVec.toNat_ofNat]; exact Nat.mod_eq_of_lt (by omega)
  have h3 : 256 * u ||| y = 256 * u + y := by
    have := Nat.two_pow_add_eq_or_of_lt (i := 8) (b := y) hy u
    rw [show (2 : Nat) ^ 8 = 256 from rfl] at this
    exact this.symm
  show IntKind.u64.wrap ((BitVec.ofInt 64 ((256 * u : Nat) : Int) ||| BitVec.ofInt 64 (y : Int)).toNat : Int) = _
  rw [BitVec.toNat_or, h1, h2, h3, IntKind.wrap_u64]
  omega
theorem num_any (A : Option Addr) (n c : Nat) (bs : List UInt8) (at_ width : Nat) (B : Nat) (w : World) (hm : n ≤ 100000000) (hnc : n ≤ c) (hn : n = bs.length) (hr : Reads w B 1 A n (bs.map byteV)) (h1 : 1 ≤ width) (h8 : width ≤ 8) (hin : at_ + width ≤ n) :
    Calls Tryz.prog 109 #[.slice A n c, .int .i64 (at_ : Nat), .int .i64 (width : Nat)] w fun e w' => e = .returned (.tuple #[.int .i64 (numI (cutB bs at_ width)), .bool true]) ∧ w' = w := by
  obtain ⟨b, o, rfl, hbB, hcell⟩ := hr.plain (by omega) (by omega)
  have HC := hide hcell
  have HN := hide hn
  have HW := hide (wide_any (width : Nat) true (by simp; omega) w)
  have a1 : (at_ : Int) ≤ n := by omega
  have a2 : (0 : Int) ≤ at_ := by omega
  have a3 : (width : Int) ≤ (n : Int) - at_ := by omega
  have a4 : (1 : Int) ≤ width := by omega
  have a5 : (width : Int) ≤ 8 := by omega
  have a6 : (at_ : Int) + width ≤ n := by omega
  have a7 : (at_ : Int) + width ≤ c := by omega
  clear hr hn hcell
  go_enter Tryz.func109, Tryz.ntmps109
  go_upto_region 5 with (go_at_call 170; refine HW.out.mono ?_; rintro e w' ⟨rfl, hw'⟩; obtain rfl := hw'.symm)
  have hww : at_ + width - at_ = width := by omega
  rw [hww]
  go_loopw [8, 42] (fun uv iv wr => wr = w ∧ ∃ k : Nat, k ≤ width ∧ iv = .int .i64 k ∧ uv = .int .u64 (numB (cutB bs at_ k) : Nat)) (fun _ iv _ => width - (intOf iv).toNat)
  case atStart => exact ⟨rfl, 0, Nat.zero_le _, rfl, rfl⟩
  case round =>
    obtain ⟨rfl, k, hk, rfl, rfl⟩ := hrel
    clear hww
    by_cases hlt : (k : Int) < width
    · have hkb : at_ + k < bs.length := by have := HN.out; omega
      obtain ⟨x, hx⟩ : ∃ x, bs[at_ + k]? = some x := ⟨_, List.getElem?_eq_getElem hkb⟩
      have hc : wr.cell? ⟨b, o + at_ + k, none⟩ = some (.int .u8 ((x.toNat : Nat) : Int)) := by
        rw [Nat.add_assoc]
        exact HC.out (at_ + k) (byteV x) (by rw [List.getElem?_map, hx]; rfl)
      have hxl := x.toNat_lt
      have HS := hide (show numB (cutB bs at_ (k + 1)) = 256 * numB (cutB bs at_ k) + x.toNat by rw [cutB_succ hx, numB_snoc])
      have hu : numB (cutB bs at_ k) < 256 ^ 7 := Nat.lt_of_lt_of_le (numB_lt _) (Nat.pow_le_pow_right (by decide) (by unfold cutB; rw [List.length_take]; omega))
      have hu2 : numB (cutB bs at_ k) < 72057594037927936 := hu
      generalize numB (cutB bs at_ k) = u at *
      generalize x.toNat = y at *
      have e1 : bits BinOp.or IntKind.u64 ((u : Int) * 256) (y : Int) = ((256 * u + y : Nat) : Int) := by
        have h9 := bits_or_256 u y hu2 hxl
        rw [show ((256 * u : Nat) : Int) = (u : Int) * 256 by omega] at h9
        exact h9
      have t2 : (0 : Int) ≤ k := by omega
      clear hu hx hkb
      go_wp2
      go_roundw
      case rel => exact ⟨by trivial, k + 1, by omega, by go_num, by rw [HS.out]; go_num⟩
      case measure => simp [intOf]; omega
    · obtain rfl : k = width := by omega
      have hu := numB_lt64 (cutB bs at_ k) (by unfold cutB; rw [List.length_take]; omega)
      have HV := hide (show numI (cutB bs at_ k) = wrap64 ((numB (cutB bs at_ k) : Nat) : Int) from rfl)
      generalize numB (cutB bs at_ k) = u at *
      go_wp2
      go_ret2
      refine ⟨?_, rfl⟩
      rw [HV.out]
      simp
end Go.Proofs.YtdbgppknggaooaaGreatDoor
