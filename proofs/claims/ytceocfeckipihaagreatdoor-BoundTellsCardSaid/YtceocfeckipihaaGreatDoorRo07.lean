/-
  Texts of this claim, joined: VN, VO, VP, VQ.
-/
import Derived.Laws.BytesString
import Derived.Test.YtceocfeckipihaaGreatDoorRo06
set_option maxHeartbeats 6400000
set_option maxRecDepth 100000
namespace Go.Proofs.YtceocfeckipihaaGreatDoor.Vm
open Go
section
variable {P : Program} {s s' s1 : St} {ρ ρ' : Ren} {w w' : World} {t e : TypeId} {i j : TyI}
inductive Sc where
  | i (k : IntKind) (a b : Int)
  | s (a b : ByteArray)
def Sc.lv : Sc → Value
  | .i k a _ => .int k a
  | .s a _ => .string a
def Sc.rv : Sc → Value
  | .i k _ b => .int k b
  | .s _ b => .string b
def Sc.eb : Sc → Bool
  | .i _ a b => a == b
  | .s a b => a == b
theorem eqSc_rel {a b : AV} {u v : Value} {r : Bool} (h : eqSc a b = some r) (hu : VRel ρ a u) (hv : VRel ρ b v) : ∃ x : Sc, u = x.lv ∧ v = x.rv ∧ r = x.eb := by
  unfold eqSc at h
  split at h
  · rename_i p q ha hb
    by_cases hpq : p.1 = q.1
    · rw [if_pos hpq] at h
      injection h with h
      subst h
      exact ⟨.i p.1 p.2 q.2, intA_rel ha hu, by rw [hpq]; exact intA_rel hb hv, rfl⟩
    · rw [if_neg hpq] at h; cases h
  · split at h
    · rename_i p q ha hb
      injection h with h
      subst h
      exact ⟨.s p q, strA_rel ha hu, strA_rel hb hv, rfl⟩
    · cases h
theorem eqSc_one {a b : AV} {r : Bool} (h : eqSc a b = some r) : isB a = none ∧ isB b = none := by
  unfold eqSc at h
  split at h
  · rename_i p q ha hb
    exact ⟨(by cases a <;> first | rfl | cases ha), (by cases b <;> first | rfl | cases hb)⟩
  · split at h
    · rename_i p q ha hb
      exact ⟨(by cases a <;> first | rfl | cases ha), (by cases b <;> first | rfl | cases hb)⟩
    · cases h
theorem eqLI_rel : ∀ {a b : List AV} {us vs : List Value} {r : Bool}, eqLI a b = some r → CRel ρ a us → CRel ρ b vs → ∃ l : List Sc, us = l.map Sc.lv ∧ vs = l.map Sc.rv ∧ r = l.all Sc.eb ∧ l.length = lenC a
  | [], [], us, vs, r, h, hu, hv => by
    simp only [eqLI, Option.some.injEq] at h
    subst h
    exact ⟨[], CRel.nil_iff.1 hu, CRel.nil_iff.1 hv, rfl, rfl⟩
  | [], _ :: _, _, _, _, h, _, _ => by cases h
  | _ :: _, [], _, _, _, h, _, _ => by cases h
  | a :: x, b :: y, us, vs, r, h, hu, hv => by
    obtain ⟨u1, u2, rfl, h1, h2⟩ := CRel.cons_iff.1 hu
    obtain ⟨v1, v2, rfl, h3, h4⟩ := CRel.cons_iff.1 hv
    unfold eqLI at h
    cases hs : eqSc a b with
    | none => rw [hs] at h; cases h
    | some c =>
      rw [hs] at h
      simp only at h
      cases hr : eqLI x y with
      | none => rw [hr] at h; cases h
      | some c2 =>
        rw [hr] at h
        simp only [Option.some.injEq] at h
        subst h
        obtain ⟨l, rfl, rfl, rfl, hl⟩ := eqLI_rel hr h2 h4
        obtain ⟨hia, hib⟩ := eqSc_one hs
        rw [hia] at h1
        rw [hib] at h3
        obtain ⟨_, u, rfl, g1⟩ := h1
        obtain ⟨_, v, rfl, g2⟩ := h3
        obtain ⟨z, rfl, rfl, rfl⟩ := eqSc_rel hs g1 g2
        refine ⟨z :: l, rfl, rfl, rfl, ?_⟩
        rw [List.length_cons, hl, lenC, hia]
        simp only
        omega
theorem bytes_eq {p q : ByteArray} (h : (p == q) = true) : p = q := by
  obtain ⟨p⟩ := p
  obtain ⟨q⟩ := q
  have : (p == q) = true := h
  rw [eq_of_beq this]
theorem Sc.same : ∀ {x : Sc}, x.eb = true → x.lv = x.rv
  | .i k a b, h => by
    have : a = b := eq_of_beq h
    rw [Sc.lv, Sc.rv, this]
  | .s a b, h => by
    have : a = b := bytes_eq h
    rw [Sc.lv, Sc.rv, this]
theorem Sc.bits (n : Nat) : ∀ {x : Sc}, x.eb = true → Instr.sameBits n x.rv x.lv = true
  | .i k a b, h => by
    obtain rfl : a = b := eq_of_beq h
    simp [Sc.lv, Sc.rv, Instr.sameBits]
  | .s a b, h => by
    obtain rfl : a = b := bytes_eq h
    simp only [Sc.lv, Sc.rv, Instr.sameBits]
    exact h
def KeyD (d : TypeDesc) : Prop := (∃ k, d = .int k) ∨ d = .string ∨ d = .bool
def Cmp (P : Program) (t : TypeId) (d : TypeDesc) (sc : Bool) (u v : Value) (b : Bool) : Prop :=
  match sc with
  | true => Instr.sameNow d u v = some b
  | false => Instr.sameNow d u v = none ∧ ∀ w, (Op.equal t u v).run P w = .ok b w
def Fnd (P : Program) (t : TypeId) (d : TypeDesc) (sc : Bool) (u : Value) (l : List MapEntry) (i : Nat) (r : Option (Nat × Value)) : Prop :=
  match sc with
  | true => Instr.findNow d u l i = some r
  | false => (∀ w, (Instr.findAsking t u l i).run P w = .ok r w) ∧ (l = [] ∧ r = none ∨ Instr.findNow d u l i = none)
def KeyR (P : Program) (t : TypeId) (d : TypeDesc) (sc : Bool) (f : KeyC) : Prop := ∀ (ρ : Ren) (a b : AV) (u v : Value) (r : Bool), f a b = some r → VRel ρ a u → VRel ρ b v → Cmp P t d sc u v r ∧ (r = true → Instr.sameBits 10000 v u = true)
def KeyCk (P : Program) (t : TypeId) (k : AV) : Prop := ∀ (ρ : Ren) (b : Bool) (u : Value) (w : World), VRel ρ k u → (Instr.checkKey b 10000 t u).run P w = .ok () w
theorem Fnd.nil {d : TypeDesc} {sc : Bool} {u : Value} {i : Nat} : Fnd P t d sc u [] i none := by
  cases sc with
  | true => exact (rfl : Instr.findNow d u [] i = some none)
  | false => exact ⟨fun w => rfl, .inl ⟨rfl, rfl⟩⟩
theorem Fnd.hit {d : TypeDesc} {sc : Bool} {u : Value} {e : MapEntry} {l : List MapEntry} {i : Nat} (h : Cmp P t d sc u e.key true) : Fnd P t d sc u (e :: l) i (some (i, e.val)) := by
  cases sc with
  | true =>
    have h : Instr.sameNow d u e.key = some true := h
    show Instr.findNow d u (e :: l) i = _
    simp only [Instr.findNow, h]
  | false =>
    obtain ⟨h1, h2⟩ : Instr.sameNow d u e.key = none ∧ ∀ w, (Op.equal t u e.key).run P w = .ok true w := h
    refine ⟨fun w => ?_, .inr (by simp only [Instr.findNow, h1])⟩
    simp [Instr.findAsking, h2]
theorem Fnd.miss {d : TypeDesc} {sc : Bool} {u : Value} {e : MapEntry} {l : List MapEntry} {i : Nat} {r : Option (Nat × Value)} (h : Cmp P t d sc u e.key false) (h' : Fnd P t d sc u l (i + 1) r) : Fnd P t d sc u (e :: l) i r := by
  cases sc with
  | true =>
    have h : Instr.sameNow d u e.key = some false := h
    have h' : Instr.findNow d u l (i + 1) = some r := h'
    show Instr.findNow d u (e :: l) i = _
    simp only [Instr.findNow, h]
    exact h'
  | false =>
    obtain ⟨h1, h2⟩ : Instr.sameNow d u e.key = none ∧ ∀ w, (Op.equal t u e.key).run P w = .ok false w := h
    refine ⟨fun w => ?_, .inr (by simp only [Instr.findNow, h1])⟩
    have h3 := h'.1 w
    simp [Instr.findAsking, h2, h3]
theorem key_kind {α : Type} {k : KeyC → M α} {b : α} {E : Env} {key : AV} (hE : EnvOK E P) (h : withKey E t key k s = .ok b s') : ∃ f d sc, k f s = .ok b s' ∧ P.underlying t = some d ∧ KeyCk P t key ∧ KeyR P t d sc f := by
  unfold withKey at h
  obtain ⟨i, hi, h2⟩ := withTy_ok.1 h
  obtain ⟨d, hd, _, hdr, _⟩ := (hE.ty _ _ hi).und
  have ck : KeyD d → KeyCk P t key := fun hk ρ b u w _ => by
    rw [show (10000 : Nat) = 9999 + 1 from rfl]
    unfold Instr.checkKey
    rcases hk with ⟨k, rfl⟩ | rfl | rfl <;> simp [run_underlying hd]
  cases hkd : keyD i.desc with
  | false =>
    rw [bif_false _ _ hkd] at h2
    cases hkp : keyP i key with
    | false => rw [bif_false _ _ hkp] at h2; exact (M.fail_ok.1 h2).elim
    | true =>
      rw [bif_true _ _ hkp] at h2
      unfold keyP at hkp
      simp only [Bool.and_eq_true, Bool.not_eq_true'] at hkp
      obtain ⟨p1, p2, p3⟩ := hkp
      have hfl := (hE.ty _ _ hi)
      obtain ⟨_, d', _, _, hd', _, _, _, _, _, _, _, hfl, _⟩ := hfl
      have hfo := (hfl p1).2
      rw [p2] at hfo
      have hstr : ∃ fs, d = .struct fs := by
        cases hk : i.desc <;> rw [hk] at p2 p3 hdr <;> simp only [kindsD, isArrD] at p2 p3 <;> first | (cases p3; done) | (cases p2; done) | skip
        obtain ⟨fs, rfl, _⟩ := hdr
        exact ⟨fs, rfl⟩
      obtain ⟨fs, rfl⟩ := hstr
      refine ⟨_, _, false, h2, hd, ?_, fun ρ a b u v r hr hu hv => ?_⟩
      · intro ρ e u w hu
        cases hs : sameP i.size i.zc key key with
        | none => simp only [hs] at p3; split at p3 <;> cases p3
        | some c =>
          unfold sameP at hs
          split at hs
          · rename_i x y hx hy
            rw [hx] at hy
            injection hy with hy
            subst hy
            cases hn : shapeB false i.size i.zc x with
            | false => rw [bif_false _ _ hn] at hs; cases hs
            | true =>
              rw [bif_true _ _ hn] at hs
              obtain ⟨xs, rfl, hxs⟩ := aggA_rel hx hu
              exact (hfo ρ x x xs xs c w hn hs hxs hxs).2 rfl e
          · cases hs
      · unfold sameP at hr
        split at hr
        · rename_i x y hx hy
          cases hn : shapeB false i.size i.zc x with
          | false => rw [bif_false _ _ hn] at hr; cases hr
          | true =>
            rw [bif_true _ _ hn] at hr
            obtain ⟨xs, rfl, hxs⟩ := aggA_rel hx hu
            obtain ⟨ys, rfl, hys⟩ := aggA_rel hy hv
            refine ⟨⟨rfl, fun w => (hfo ρ x y xs ys r w hn hr hxs hys).1⟩, fun e => ?_⟩
            subst e
            obtain ⟨l, e1, e2, e3, _⟩ := eqLI_rel hr hxs hys
            rw [show (10000 : Nat) = 9999 + 1 from rfl]
            simp only [Instr.sameBits, e1, e2, Bool.and_eq_true, List.all_eq_true]
            refine ⟨by have h1 := congrArg List.length e1; have h2 := congrArg List.length e2; simp at h1 h2; simp [h1, h2], ?_⟩
            rw [List.zip_map', List.forall_mem_map]
            intro z hz
            exact Sc.bits 9999 ((List.all_eq_true.1 e3.symm) z hz)
        · cases hr
  | true =>
  rw [bif_true _ _ hkd] at h2
  cases hk : i.desc <;> rw [hk] at hkd <;> simp only [hk, keyD, reduceCtorEq] at h2 hkd <;> first | (cases hkd; done) | skip
  · rw [hk] at hdr
    refine ⟨_, d, true, h2, hd, ck (.inl ⟨_, hdr⟩), fun ρ a b u v r hr hu hv => ?_⟩
    obtain rfl := hdr
    simp only [sameKey, sameI] at hr
    cases ha : intA a with
    | none => rw [ha] at hr; cases hr
    | some p =>
      cases hb : intA b with
      | none => rw [ha, hb] at hr; cases hr
      | some q =>
        rw [ha, hb] at hr
        simp only at hr
        obtain rfl := intA_rel ha hu
        obtain rfl := intA_rel hb hv
        by_cases hpq : p.1 = q.1
        · rw [if_pos hpq] at hr
          refine ⟨by simp only [Cmp, Instr.sameNow, hpq, if_true]; exact hr, fun e => ?_⟩
          subst e
          simp only [Option.some.injEq] at hr
          have := eq_of_beq hr
          simp [Instr.sameBits, hpq, this]
        · rw [if_neg hpq] at hr; cases hr
  · rw [hk] at hdr
    refine ⟨_, d, true, h2, hd, ck (.inr (.inr hdr)), fun ρ a b u v r hr hu hv => ?_⟩
    obtain rfl := hdr
    simp only [sameKey, sameB] at hr
    cases ha : boolA a with
    | none => rw [ha] at hr; cases hr
    | some p =>
      cases hb : boolA b with
      | none => rw [ha, hb] at hr; cases hr
      | some q =>
        rw [ha, hb] at hr
        simp only at hr
        obtain rfl := boolA_rel ha hu
        obtain rfl := boolA_rel hb hv
        refine ⟨by simp only [Cmp, Instr.sameNow]; exact hr, fun e => ?_⟩
        subst e
        simp only [Option.some.injEq] at hr
        have := eq_of_beq hr
        simp [Instr.sameBits, this]
  · rw [hk] at hdr
    refine ⟨_, d, true, h2, hd, ck (.inr (.inl hdr)), fun ρ a b u v r hr hu hv => ?_⟩
    obtain rfl := hdr
    simp only [sameKey, sameS] at hr
    cases ha : strA a with
    | none => rw [ha] at hr; cases hr
    | some p =>
      cases hb : strA b with
      | none => rw [ha, hb] at hr; cases hr
      | some q =>
        rw [ha, hb] at hr
        simp only at hr
        obtain rfl := strA_rel ha hu
        obtain rfl := strA_rel hb hv
        refine ⟨by simp only [Cmp, Instr.sameNow]; exact hr, fun e => ?_⟩
        subst e
        simp only [Option.some.injEq] at hr
        have := bytes_eq hr
        subst this
        exact hr
theorem find_rel {f : KeyC} {d : TypeDesc} {sc : Bool} (hf : KeyR P t d sc f) {k : AV} {u : Value} (hu : VRel ρ k u) : ∀ {es : List Ent} {l : List MapEntry} {i : Nat} {r : Option (Nat × AV)}, findE f k es i = some r → ERel ρ es l →
    (r = none ∧ Fnd P t d sc u l i none) ∨ ∃ n a x, r = some (n, a) ∧ Fnd P t d sc u l i (some (n, x)) ∧ VRel ρ a x
  | [], l, i, r, h, hr => by
    simp only [findE, Option.some.injEq] at h
    rw [show l = [] from hr]
    exact .inl ⟨h.symm, Fnd.nil⟩
  | e :: es, l, i, r, h, hr => by
    obtain ⟨x, l', rfl, h2, h3, h4, h5⟩ := hr
    unfold findE at h
    cases hs : f k e.1 with
    | none => rw [hs] at h; cases h
    | some b =>
      have hsn := (hf ρ _ _ _ _ _ hs hu h2).1
      rw [hs] at h
      cases b with
      | true =>
        simp only [Option.some.injEq] at h
        subst h
        exact .inr ⟨i, e.2.1, x.val, rfl, Fnd.hit hsn, h3⟩
      | false =>
        simp only at h
        rcases find_rel hf hu h h5 with ⟨g1, g2⟩ | ⟨n, a, y, g1, g2, g3⟩
        · exact .inl ⟨g1, Fnd.miss hsn g2⟩
        · exact .inr ⟨n, a, y, g1, Fnd.miss hsn g2, g3⟩
theorem run_findKey {d : TypeDesc} {sc : Bool} {u : Value} {l : List MapEntry} {r : Option (Nat × Value)} (hd : P.underlying t = some d) (h : Fnd P t d sc u l 0 r) (w : World) : (Instr.findKey t u l).run P w = .ok r w := by
  cases sc with
  | true =>
    have h : Instr.findNow d u l 0 = some r := h
    simp [Instr.findKey, run_underlying hd, h]
  | false =>
    obtain ⟨h1, h2⟩ := h
    rcases h2 with ⟨rfl, rfl⟩ | h2
    · simp [Instr.findKey, run_underlying hd, Instr.findNow]
    · have := h1 w
      simp [Instr.findKey, run_underlying hd, h2, this]
theorem lookDone_rel {ok : Bool} {z v : AV} {zv : Value} {r : Option (Nat × AV)} (h : lookDone ok z r s = .ok v s') (hz : VRel ρ z zv) :
    s' = s ∧ (r = none → VRel ρ v (if ok then .tuple #[zv, .bool false] else zv)) ∧ ∀ n a x, r = some (n, a) → VRel ρ a x → VRel ρ v (if ok then .tuple #[x, .bool true] else x) := by
  unfold lookDone at h
  have two : ∀ (a b : AV) (x y : Value), VRel ρ a x → VRel ρ b y → VRel ρ (.tuple [a, b]) (.tuple #[x, y]) := fun a b x y h1 h2 =>
    ⟨#[x, y], rfl, LRel.cons_iff.2 ⟨x, [y], rfl, h1, LRel.cons_iff.2 ⟨y, [], rfl, h2, LRel.nil_iff.2 rfl⟩⟩⟩
  cases r with
  | none =>
    obtain ⟨rfl, rfl⟩ := M.pure_ok.1 h
    refine ⟨rfl, fun _ => ?_, fun n a x h => (by cases h)⟩
    cases ok with
    | true => exact two _ _ _ _ hz rfl
    | false => exact hz
  | some p =>
    obtain ⟨rfl, rfl⟩ := M.pure_ok.1 h
    refine ⟨rfl, fun h => (by cases h), fun n a x h hx => ?_⟩
    simp only [Option.some.injEq] at h
    subst h
    cases ok with
    | true => exact two _ _ _ _ hx rfl
    | false => exact hx
theorem lookup_does {E : Env} (hE : EnvOK E P) {ok : Bool} {x k v : AV} {u y : Value} (hi : TyOK P t i) (h : lookupM E i ok x k s = .ok v s') (hx : VRel ρ x u) (hk : VRel ρ k y) (hw : WRel ρ s.h w) : Does P s s' ρ w (Instr.lookup t u y ok) (fun ρ r => VRel ρ v r) := by
  unfold lookupM at h
  cases hm : mapD i.desc with
  | none => rw [hm] at h; exact (M.fail_ok.1 h).elim
  | some p =>
    rw [hm] at h
    obtain ⟨f, d, sc, h2, hd, hkd, hkr⟩ := key_kind hE h
    obtain ⟨j, hj, h3⟩ := withTy_ok.1 h2
    obtain ⟨z, z1, z2, _⟩ := (hE.ty _ _ hj).zeroValue
    obtain ⟨m, s1, h4, h5⟩ := M.bind_ok.1 h3
    obtain ⟨hma, rfl⟩ := M.of_ok.1 h4
    have hmr := mapA_rel hma hx
    have hck := fun b w => hkd ρ b y w hk
    cases m with
    | none =>
      obtain rfl : u = .map none := hmr
      obtain ⟨rfl, g1, _⟩ := lookDone_rel h5 (z2 ρ)
      refine Does.read (Alike.refl _) hw ?_ (g1 rfl)
      have hfk := run_findKey (P := P) (l := []) (u := y) (r := none) (sc := sc) hd Fnd.nil w
      simp [Instr.lookup, run_underlying (hi.map hm), hck, hfk, z1]
    | some n =>
      obtain ⟨q, hq, rfl⟩ := hmr
      obtain ⟨es, s2, h6, h7⟩ := M.bind_ok.1 h5
      obtain ⟨g1, _, g2⟩ := mapM_ok h6
      obtain ⟨r, s3, h8, h9⟩ := M.bind_ok.1 h7
      obtain ⟨hf, rfl⟩ := M.of_ok.1 h8
      obtain ⟨rfl, g3, g4⟩ := lookDone_rel h9 (z2 ρ)
      obtain ⟨es', k1, k2⟩ := hw.map g1 hq
      have hg : (getObj q.1).run P w = .ok (.map es' es.2) w := run_getObj_map k1
      rcases find_rel hkr hk hf k2 with ⟨rfl, f2⟩ | ⟨n, a, x, rfl, f2, f3⟩
      · refine Does.read g2 hw ?_ (g3 rfl)
        have hfk := run_findKey (P := P) hd f2 w
        simp [Instr.lookup, run_underlying (hi.map hm), hg, hck, hfk, z1]
      · refine Does.read g2 hw ?_ (g4 _ _ _ rfl f3)
        have hfk := run_findKey (P := P) hd f2 w
        simp [Instr.lookup, run_underlying (hi.map hm), hg, hck, hfk]
theorem putE_rel {f : KeyC} {d : TypeDesc} {sc : Bool} (hf : KeyR P t d sc f) {k v : AV} {u x : Value} (hu : VRel ρ k u) (hx : VRel ρ v x) : ∀ {es es2 : List Ent} {l : List MapEntry} {c c2 i : Nat}, putE f k v es c = some (es2, c2) → ERel ρ es l →
    (∃ n val en, Fnd P t d sc u l i (some (i + n, val)) ∧ l[n]? = some en ∧ Instr.sameBits 10000 en.key u = true ∧ c2 = c ∧ ERel ρ es2 (l.modify n (fun e => { e with key := u, val := x }))) ∨
    (Fnd P t d sc u l i none ∧ c2 = c + 1 ∧ ERel ρ es2 (l ++ [{ key := u, val := x, born := c }]))
  | [], es2, l, c, c2, i, h, hr => by
    simp only [putE, Option.some.injEq, Prod.mk.injEq] at h
    obtain ⟨rfl, rfl⟩ := h
    rw [show l = [] from hr]
    exact .inr ⟨Fnd.nil, rfl, _, [], rfl, hu, hx, rfl, rfl⟩
  | e :: es, es2, l, c, c2, i, h, hr => by
    obtain ⟨y, l', rfl, h2, h3, h4, h5⟩ := hr
    unfold putE at h
    cases hs : f k e.1 with
    | none => rw [hs] at h; cases h
    | some b =>
      have hsn := hf ρ _ _ _ _ _ hs hu h2
      rw [hs] at h
      cases b with
      | true =>
        simp only [Option.some.injEq, Prod.mk.injEq] at h
        obtain ⟨rfl, rfl⟩ := h
        refine .inl ⟨0, y.val, y, Fnd.hit hsn.1, rfl, hsn.2 rfl, rfl, ?_⟩
        exact ⟨_, l', rfl, hu, hx, h4, h5⟩
      | false =>
        simp only at h
        cases hp : putE f k v es c with
        | none => rw [hp] at h; cases h
        | some q =>
          rw [hp] at h
          simp only [Option.some.injEq, Prod.mk.injEq] at h
          obtain ⟨rfl, rfl⟩ := h
          rcases putE_rel (i := i + 1) hf hu hx (es2 := q.1) (c2 := q.2) hp h5 with ⟨n, val, en, g1, g2, g3, g4, g5⟩ | ⟨g1, g2, g3⟩
          · refine .inl ⟨n + 1, val, en, ?_, g2, g3, g4, ?_⟩
            · rw [show i + (n + 1) = i + 1 + n by omega]
              exact Fnd.miss hsn.1 g1
            · rw [List.modify_succ_cons]
              exact ⟨y, _, rfl, h2, h3, h4, g5⟩
          · refine .inr ⟨Fnd.miss hsn.1 g1, g2, ?_⟩
            exact ⟨y, _, rfl, h2, h3, h4, g3⟩
theorem delE_rel {f : KeyC} {d : TypeDesc} {sc : Bool} (hf : KeyR P t d sc f) {k : AV} {u : Value} (hu : VRel ρ k u) : ∀ {es es2 : List Ent} {l : List MapEntry} {i : Nat}, delE f k es = some es2 → ERel ρ es l →
    (∃ n val, Fnd P t d sc u l i (some (i + n, val)) ∧ ERel ρ es2 (l.eraseIdx n)) ∨ (Fnd P t d sc u l i none ∧ ERel ρ es2 l)
  | [], es2, l, i, h, hr => by
    simp only [delE, Option.some.injEq] at h
    subst h
    rw [show l = [] from hr]
    exact .inr ⟨Fnd.nil, rfl⟩
  | e :: es, es2, l, i, h, hr => by
    obtain ⟨y, l', rfl, h2, h3, h4, h5⟩ := hr
    unfold delE at h
    cases hs : f k e.1 with
    | none => rw [hs] at h; cases h
    | some b =>
      have hsn := hf ρ _ _ _ _ _ hs hu h2
      rw [hs] at h
      cases b with
      | true =>
        simp only [Option.some.injEq] at h
        subst h
        exact .inl ⟨0, y.val, Fnd.hit hsn.1, h5⟩
      | false =>
        simp only at h
        cases hp : delE f k es with
        | none => rw [hp] at h; cases h
        | some q =>
          rw [hp] at h
          simp only [Option.some.injEq] at h
          subst h
          rcases delE_rel (i := i + 1) hf hu hp h5 with ⟨n, val, g1, g2⟩ | ⟨g1, g2⟩
          · refine .inl ⟨n + 1, val, ?_, ?_⟩
            · rw [show i + (n + 1) = i + 1 + n by omega]
              exact Fnd.miss hsn.1 g1
            · rw [List.eraseIdx_cons_succ]
              exact ⟨y, _, rfl, h2, h3, h4, g2⟩
          · refine .inr ⟨Fnd.miss hsn.1 g1, ?_⟩
            exact ⟨y, _, rfl, h2, h3, h4, g2⟩
theorem mapset_rel {n : Nat} {es es2 : List Ent} {c c2 : Nat} {p : Nat × Nat × Nat} {l : Array MapEntry} (hw : WRel ρ s.h w) (hn : s.h.get n = some (.map es c)) (hp : ρ n = some p) (hb : ∃ l0 c0, w.heap[p.1]? = some (.map l0 c0)) (hr : ERel ρ es2 l.toList) (h : setM n (some (.map es2 c2)) s = .ok () s') :
    (setObj p.1 (.map l c2)).run P w = .ok () { w with heap := w.heap.setIfInBounds p.1 (.map l c2) } ∧ WRel ρ s'.h { w with heap := w.heap.setIfInBounds p.1 (.map l c2) } ∧ Stp s s' ρ ρ w { w with heap := w.heap.setIfInBounds p.1 (.map l c2) } := by
  obtain ⟨_, hs'⟩ := setM_ok.1 h
  obtain ⟨l0, c0, ho⟩ := hb
  have hlt := (Array.getElem?_eq_some_iff.1 ho).1
  have hon : Only p.1 w { w with heap := w.heap.setIfInBounds p.1 (.map l c2) } := ⟨rfl, rfl, rfl, by simp, fun q hq => by simp [Ne.symm hq]⟩
  have := set_rel (s' := s') (o := .map es2 c2) hw (by rw [hn]; rfl) hp (by rw [hs']; rfl) hon (ob := .map l c2) (by simp [hlt]) ⟨l, rfl, hr⟩
  exact ⟨by simp [setObj, Sem.run, ho], this.1, this.2⟩
theorem update_does {E : Env} (hE : EnvOK E P) {x k v : AV} {u y z : Value} (hi : TyOK P t i) (h : updateM E i x k v s = .ok () s') (hx : VRel ρ x u) (hk : VRel ρ k y) (hv : VRel ρ v z) (hw : WRel ρ s.h w) : Does P s s' ρ w (Instr.mapUpdate t u y z) (fun _ _ => True) := by
  unfold updateM at h
  cases hm : mapD i.desc with
  | none => rw [hm] at h; exact (M.fail_ok.1 h).elim
  | some p =>
    rw [hm] at h
    obtain ⟨f, d, sc, h2, hd, hkd, hkr⟩ := key_kind hE h
    obtain ⟨m, s1, h4, h5⟩ := M.bind_ok.1 h2
    obtain ⟨hma, rfl⟩ := M.of_ok.1 h4
    have hmr := mapA_rel hma hx
    obtain ⟨n, s1, h6, h7⟩ := M.bind_ok.1 h5
    obtain ⟨rfl, rfl⟩ := M.of_ok.1 h6
    have hck := fun b w => hkd ρ b y w hk
    obtain ⟨q, hq, rfl⟩ := hmr
    obtain ⟨es, s2, h6, h7⟩ := M.bind_ok.1 h7
    obtain ⟨g1, _, g2⟩ := mapM_ok h6
    obtain ⟨r, s3, h8, h9⟩ := M.bind_ok.1 h7
    obtain ⟨hf, rfl⟩ := M.of_ok.1 h8
    obtain ⟨es', k1, k2⟩ := hw.map g1 hq
    have hg : (getObj q.1).run P w = .ok (.map es' es.2) w := run_getObj_map k1
    have hw2 := hw.alike g2
    have g1' : s3.h.get n = some (.map es.1 es.2) := by rw [g2.1]; exact g1
    refine Does.after g2 ?_
    rcases putE_rel (i := 0) hkr hk hv (es2 := r.1) (c2 := r.2) hf k2 with ⟨m, val, en, f1, f2, f3, f4, f5⟩ | ⟨f1, f2, f3⟩
    · rw [Nat.zero_add] at f1
      obtain ⟨c1, c2, c3⟩ := mapset_rel (P := P) (l := es'.modify m (fun e => { e with key := y, val := z })) hw2 g1' hq ⟨_, _, k1⟩ (by rw [Array.toList_modify]; exact f5) h9
      rw [f4] at c1 c2 c3
      refine fun _ => ⟨ρ, _, (), ?_, trivial, c2, c3⟩
      have hfk := run_findKey (P := P) hd f1 w
      have hen : (Option.map (fun e : MapEntry => e.key) es'[m]?).getD y = en.key := by
        rw [Array.getElem?_toList] at f2
        rw [f2]
        rfl
      simp [Instr.mapUpdate, run_underlying (hi.map hm), hg, hck, hfk, Instr.keyThatStays, hen, f3, c1]
    · obtain ⟨c1, c2, c3⟩ := mapset_rel (P := P) (l := es'.push { key := y, val := z, born := es.2 }) hw2 g1' hq ⟨_, _, k1⟩ (by rw [Array.toList_push]; exact f3) h9
      rw [f2] at c1 c2 c3
      refine fun _ => ⟨ρ, _, (), ?_, trivial, c2, c3⟩
      have hfk := run_findKey (P := P) hd f1 w
      simp [Instr.mapUpdate, run_underlying (hi.map hm), hg, hck, hfk, c1]
theorem delete_does {E : Env} (hE : EnvOK E P) {x k v : AV} {u y : Value} {ts : Array TypeId} {ty : TypeId} (ht : ts[0]? = some t) (hi : TyOK P t i) (h : deleteM E i x k s = .ok v s') (hx : VRel ρ x u) (hk : VRel ρ k y) (hw : WRel ρ s.h w) : Does P s s' ρ w (Builtin.delete_ ts ty #[u, y]) (fun ρ r => VRel ρ v r) := by
  have hv0 : ∀ ρ, VRel ρ undefA (.tuple #[]) := fun ρ => ⟨#[], rfl, by simp [LRel]⟩
  unfold deleteM at h
  cases hm : mapD i.desc with
  | none => rw [hm] at h; exact (M.fail_ok.1 h).elim
  | some p =>
    rw [hm] at h
    obtain ⟨f, d, sc, h2, hd, hkd, hkr⟩ := key_kind hE h
    obtain ⟨m, s1, h4, h5⟩ := M.bind_ok.1 h2
    obtain ⟨hma, rfl⟩ := M.of_ok.1 h4
    have hmr := mapA_rel hma hx
    have hck := fun b w => hkd ρ b y w hk
    cases m with
    | none =>
      obtain rfl : u = .map none := hmr
      obtain ⟨rfl, rfl⟩ := M.pure_ok.1 h5
      refine Does.read (Alike.refl _) hw (u := .tuple #[]) ?_ (hv0 _)
      simp [Builtin.delete_, ht, run_underlying (hi.map hm), hck]
    | some n =>
      obtain ⟨q, hq, rfl⟩ := hmr
      obtain ⟨es, s2, h6, h7⟩ := M.bind_ok.1 h5
      obtain ⟨g1, _, g2⟩ := mapM_ok h6
      obtain ⟨r, s3, h8, h9⟩ := M.bind_ok.1 h7
      obtain ⟨hf, rfl⟩ := M.of_ok.1 h8
      obtain ⟨_, s4, h10, h11⟩ := M.bind_ok.1 h9
      obtain ⟨rfl, rfl⟩ := M.pure_ok.1 h11
      obtain ⟨es', k1, k2⟩ := hw.map g1 hq
      have hg : (getObj q.1).run P w = .ok (.map es' es.2) w := run_getObj_map k1
      have hw2 := hw.alike g2
      refine Does.after g2 ?_
      rcases delE_rel (i := 0) hkr hk hf k2 with ⟨m, val, f1, f2⟩ | ⟨f1, f2⟩
      · rw [Nat.zero_add] at f1
        obtain ⟨c1, c2, c3⟩ := mapset_rel (P := P) (l := es'.eraseIdxIfInBounds m) hw2 (by rw [g2.1]; exact g1) hq ⟨_, _, k1⟩ (by rw [Array.toList_eraseIdxIfInBounds]; exact f2) h10
        refine fun _ => ⟨ρ, _, .tuple #[], ?_, hv0 _, c2, c3⟩
        have hfk := run_findKey (P := P) hd f1 w
        simp [Builtin.delete_, ht, run_underlying (hi.map hm), hg, hck, hfk, c1]
      · obtain ⟨c1, c2, c3⟩ := mapset_rel (P := P) (l := es') hw2 (by rw [g2.1]; exact g1) hq ⟨_, _, k1⟩ f2 h10
        refine fun _ => ⟨ρ, _, .tuple #[], ?_, hv0 _, c2, c3⟩
        have hfk := run_findKey (P := P) hd f1 w
        simp [Builtin.delete_, ht, run_underlying (hi.map hm), hg, hck, hfk, c1]
theorem range_does {x v : AV} {u : Value} (hi : TyOK P t i) (h : rangeM i x s = .ok v s') (hx : VRel ρ x u) (hw : WRel ρ s.h w) : Does P s s' ρ w (Instr.range t u) (fun ρ r => VRel ρ v r) := by
  unfold rangeM at h
  cases hm : mapD i.desc with
  | none =>
    rw [hm] at h
    simp only at h
    cases hsd : strD i.desc with
    | false => rw [bif_false _ _ hsd] at h; exact (M.fail_ok.1 h).elim
    | true =>
      rw [bif_true _ _ hsd] at h
      obtain ⟨x0, s1, h4, h5⟩ := M.bind_ok.1 h
      obtain ⟨hsa, rfl⟩ := M.of_ok.1 h4
      obtain rfl := strA_rel hsa hx
      obtain ⟨n, s2, h6, h7⟩ := M.bind_ok.1 h5
      obtain ⟨rfl, rfl⟩ := M.pure_ok.1 h7
      obtain ⟨rfl, hs'⟩ := newM_ok.1 h6
      intro hf
      have hf0 := hf.at (by rw [hs']; exact Nat.lt_succ_self _)
      have := new_rel (s' := s') (o := .siter x0 0) (ob := .stringIter x0 0) (κ := 0) hw hf0 (by rw [hs']; rfl) (by rw [hs']; rfl) ⟨rfl, rfl⟩
      refine ⟨_, _, .pointer (some ⟨w.heap.size, 0, none⟩), ?_, ⟨_, Ren.put_same _ _ _, rfl⟩, this.1, this.2⟩
      simp [Instr.range, run_underlying (hi.str hsd), newObj, Sem.run, World.alloc_eq]
  | some p =>
    rw [hm] at h
    obtain ⟨m, s1, h4, h5⟩ := M.bind_ok.1 h
    obtain ⟨hma, rfl⟩ := M.of_ok.1 h4
    have hmr := mapA_rel hma hx
    cases m with
    | none =>
      obtain rfl : u = .map none := hmr
      obtain ⟨n, s2, h6, h7⟩ := M.bind_ok.1 h5
      obtain ⟨rfl, rfl⟩ := M.pure_ok.1 h7
      obtain ⟨rfl, hs'⟩ := newM_ok.1 h6
      intro hf
      have hf0 := hf.at (by rw [hs']; exact Nat.lt_succ_self _)
      have := new_rel (s' := s') (o := .iter none 0 [] 0) (ob := .mapIter none 0 #[] 0) (κ := 0) hw hf0 (by rw [hs']; rfl) (by rw [hs']; rfl) ⟨none, rfl, rfl, rfl⟩
      refine ⟨_, _, .pointer (some ⟨w.heap.size, 0, none⟩), ?_, ⟨_, Ren.put_same _ _ _, rfl⟩, this.1, this.2⟩
      simp [Instr.range, run_underlying (hi.map hm), newObj, Sem.run, World.alloc_eq]
    | some n =>
      obtain ⟨q, hq, rfl⟩ := hmr
      obtain ⟨es, s2, h6, h7⟩ := M.bind_ok.1 h5
      obtain ⟨g1, _, g2⟩ := mapM_ok h6
      obtain ⟨m, s3, h8, h9⟩ := M.bind_ok.1 h7
      obtain ⟨rfl, rfl⟩ := M.pure_ok.1 h9
      obtain ⟨rfl, hs'⟩ := newM_ok.1 h8
      obtain ⟨es', k1, k2⟩ := hw.map g1 hq
      have hg : (getObj q.1).run P w = .ok (.map es' es.2) w := run_getObj_map k1
      refine Does.after g2 (fun hf => ?_)
      have hf0 := hf.at (by rw [hs']; exact Nat.lt_succ_self _)
      have := new_rel (s' := s') (o := .iter (some n) es.2 [] es.2) (ob := .mapIter (some q.1) es.2 #[] es.2) (κ := 0) (hw.alike g2) hf0 (by rw [hs']; rfl) (by rw [hs']; rfl) ⟨some q.1, rfl, ⟨q, Ren.put_le hf0 _ _ _ hq, rfl⟩, rfl⟩
      refine ⟨_, _, .pointer (some ⟨w.heap.size, 0, none⟩), ?_, ⟨_, Ren.put_same _ _ _, rfl⟩, this.1, this.2⟩
      simp [Instr.range, run_underlying (hi.map hm), hg, newObj, Sem.run, World.alloc_eq]
end
end Go.Proofs.YtceocfeckipihaaGreatDoor.Vm
namespace Go.Proofs.YtceocfeckipihaaGreatDoor.Vm
open Go
section
variable {P : Program} {s s' s1 : St} {ρ ρ' : Ren} {w w' : World} {t e : TypeId} {i j : TyI}
theorem WRel.iter {n : Nat} {m : Option Nat} {since last : Nat} {seen : List Nat} {p : Nat × Nat × Nat} (hw : WRel ρ s.h w) (h : s.h.get n = some (.iter m since seen last)) (hp : ρ n = some p) :
    ∃ m', w.heap[p.1]? = some (.mapIter m' since seen.toArray last) ∧ IterM ρ m m' ∧ p.2.1 = 0 := by
  obtain ⟨q, ob, h1, h2, m', rfl, h4, h5⟩ := hw.at_ n _ h
  rw [hp] at h1
  injection h1 with h1
  subst h1
  exact ⟨m', h2, h4, h5⟩
theorem iterO_some {o : AObj} {q : Option Nat × Nat × List Nat × Nat} (h : iterO o = some q) : o = .iter q.1 q.2.1 q.2.2.1 q.2.2.2 := by
  cases o <;> simp only [iterO, Option.some.injEq, reduceCtorEq] at h
  subst h
  rfl
theorem run_getObj_iter {b : Nat} {m : Option Nat} {since last : Nat} {seen : Array Nat} (h : w.heap[b]? = some (.mapIter m since seen last)) : (getObj b).run P w = .ok (.mapIter m since seen last) w := by
  simp [getObj, Sem.run, h]
theorem seenB_iff {b : Nat} : ∀ {l : List Nat}, seenB b l = true ↔ b ∈ l
  | [] => by simp [seenB]
  | x :: r => by
    unfold seenB
    rw [Bool.or_eq_true, beq_true, seenB_iff, List.mem_cons]
theorem tup1 {a : AV} {x : Value} (h : VRel ρ a x) : VRel ρ (.tuple [a]) (.tuple #[x]) := ⟨#[x], rfl, LRel.cons_iff.2 ⟨x, [], rfl, h, LRel.nil_iff.2 rfl⟩⟩
theorem tup2 {a b : AV} {x y : Value} (h : VRel ρ a x) (h' : VRel ρ b y) : VRel ρ (.tuple [a, b]) (.tuple #[x, y]) :=
  ⟨#[x, y], rfl, LRel.cons_iff.2 ⟨x, [y], rfl, h, LRel.cons_iff.2 ⟨y, [], rfl, h', LRel.nil_iff.2 rfl⟩⟩⟩
theorem tup3 {a b c : AV} {x y z : Value} (h : VRel ρ a x) (h' : VRel ρ b y) (h'' : VRel ρ c z) : VRel ρ (.tuple [a, b, c]) (.tuple #[x, y, z]) :=
  ⟨#[x, y, z], rfl, LRel.cons_iff.2 ⟨x, [y, z], rfl, h, LRel.cons_iff.2 ⟨y, [z], rfl, h', LRel.cons_iff.2 ⟨z, [], rfl, h'', LRel.nil_iff.2 rfl⟩⟩⟩⟩
theorem next_does {it v : AV} {u : Value} {ty : TypeId} (h : nextM it s = .ok v s') (hx : VRel ρ it u) (hw : WRel ρ s.h w) : Does P s s' ρ w (Instr.next u false ty) (fun ρ r => VRel ρ v r) := by
  unfold nextM at h
  obtain ⟨p, s1, h1, h2⟩ := M.bind_ok.1 h
  obtain ⟨hp, rfl⟩ := M.of_ok.1 h1
  obtain ⟨q, hq, rfl⟩ := addrA_rel hp hx
  cases h0 : Nat.beq p.2 0 with
  | false => simp only [h0, Bool.not_false, cond_true] at h2; exact (M.fail_ok.1 h2).elim
  | true =>
    simp only [h0, Bool.not_true, cond_false] at h2
    have hp0 := beq_true.1 h0
    obtain ⟨o, s2, h3, h4⟩ := M.bind_ok.1 h2
    obtain ⟨g1, g2⟩ := getM_alike h3
    obtain ⟨r, s3, h5, h6⟩ := M.bind_ok.1 h4
    obtain ⟨ho, rfl⟩ := M.of_ok.1 h5
    obtain rfl := iterO_some ho
    obtain ⟨m', k1, k2, k3⟩ := hw.iter g1 hq
    have hgi : (getObj q.1).run P w = .ok (.mapIter m' r.2.1 r.2.2.1.toArray r.2.2.2) w := run_getObj_iter k1
    have hof : q.2.1 + p.2 = 0 := by omega
    rw [hof]
    cases hm : r.1 with
    | none =>
      rw [hm] at h6 k2
      obtain ⟨rfl, rfl⟩ := M.pure_ok.1 h6
      obtain rfl : m' = none := k2
      refine Does.read g2 hw (u := .tuple #[.bool false]) ?_ (tup1 rfl)
      simp [Instr.next, hgi]
    | some m =>
      rw [hm] at h6 k2
      obtain ⟨qm, hqm, rfl⟩ := k2
      obtain ⟨es, s4, h7, h8⟩ := M.bind_ok.1 h6
      obtain ⟨f1, _, f2⟩ := mapM_ok h7
      have hw3 := hw.alike g2
      obtain ⟨es', e1, e2⟩ := hw3.map f1 hqm
      have hgm : (getObj qm.1).run P w = .ok (.map es' es.2) w := run_getObj_map e1
      have hal := g2.trans f2
      obtain ⟨r1, since, seen, last⟩ := r
      simp only at h8 hgi hm g1
      subst hm
      obtain ⟨es1, ec⟩ := es
      cases es1 with
      | nil =>
        obtain ⟨rfl, rfl⟩ := M.pure_ok.1 h8
        obtain rfl : es' = #[] := Array.ext' (show es'.toList = [] from e2)
        refine Does.read hal hw (u := .tuple #[.bool false]) ?_ (tup1 rfl)
        simp [Instr.next, hgi, hgm, Question.forced]
      | cons e er =>
        cases er with
        | cons _ _ =>
          simp only [next1] at h8
          exact (M.fail_ok.1 h8).elim
        | nil =>
          simp only [next1] at h8
          obtain ⟨x, l', hl, x1, x2, x3, x4⟩ := e2
          obtain rfl : l' = [] := x4
          obtain rfl : es' = #[x] := Array.ext' hl
          cases hsn : seenB e.2.2 seen with
          | true =>
            rw [bif_true _ _ hsn] at h8
            cases hlt : Nat.blt e.2.2 last with
            | false => rw [bif_false _ _ hlt] at h8; exact (M.fail_ok.1 h8).elim
            | true =>
              rw [bif_true _ _ hlt] at h8
              obtain ⟨rfl, rfl⟩ := M.pure_ok.1 h8
              refine Does.read hal hw (u := .tuple #[.bool false]) ?_ (tup1 rfl)
              have hb : e.2.2 < last := blt_true.1 hlt
              have hin : e.2.2 ∈ seen := seenB_iff.1 hsn
              have hnb : ¬ last ≤ x.born := by rw [x3]; omega
              have hin' : x.born ∈ seen := by rw [x3]; exact hin
              simp [Instr.next, hgi, hgm, Question.forced, hnb, hin']
          | false =>
            rw [bif_false _ _ hsn] at h8
            cases seen with
            | cons a b => exact (M.fail_ok.1 h8).elim
            | nil =>
              simp only at h8
              cases hlt : Nat.blt e.2.2 since with
              | false => rw [bif_false _ _ hlt] at h8; exact (M.fail_ok.1 h8).elim
              | true =>
                rw [bif_true _ _ hlt] at h8
                obtain ⟨_, s5, h9, h10⟩ := M.bind_ok.1 h8
                obtain ⟨rfl, rfl⟩ := M.pure_ok.1 h10
                obtain ⟨_, hs'⟩ := setM_ok.1 h9
                have hb : x.born < since := by rw [x3]; exact blt_true.1 hlt
                have hlt' := (Array.getElem?_eq_some_iff.1 k1).1
                have hon : Only q.1 w { w with heap := w.heap.setIfInBounds q.1 (.mapIter (some qm.1) since #[x.born] ec) } := ⟨rfl, rfl, rfl, by simp, fun q hq => by simp [Ne.symm hq]⟩
                have := set_rel (s := s4) (s' := s') (o := .iter (some m) since [e.2.2] ec) (hw.alike hal) (by rw [hal.1, g1]; rfl) hq (by rw [hs']; rfl) hon (ob := .mapIter (some qm.1) since #[x.born] ec) (by simp [hlt']) ⟨some qm.1, by rw [x3], ⟨qm, hqm, rfl⟩, k3⟩
                refine Does.after hal (fun _ => ⟨ρ, _, .tuple #[.bool true, x.key, x.val], ?_, tup3 rfl x1 x2, this.1, this.2⟩)
                have hset : (setObj q.1 (.mapIter (some qm.1) since #[x.born] ec)).run P w = .ok () { w with heap := w.heap.setIfInBounds q.1 (.mapIter (some qm.1) since #[x.born] ec) } := by simp [setObj, Sem.run, k1]
                have hnb : ¬ since ≤ x.born := by omega
                simp [Instr.next, hgi, hgm, Question.forced, hb, hnb, hset]
theorem siterO_some {o : AObj} {q : ByteArray × Nat} (h : siterO o = some q) : o = .siter q.1 q.2 := by
  cases o <;> simp only [siterO, Option.some.injEq, reduceCtorEq] at h
  subst h
  rfl
theorem nextS_does {it v : AV} {u : Value} {ty : TypeId} (h : nextS it s = .ok v s') (hx : VRel ρ it u) (hw : WRel ρ s.h w) : Does P s s' ρ w (Instr.next u true ty) (fun ρ r => VRel ρ v r) := by
  unfold nextS at h
  obtain ⟨p, s1, h1, h2⟩ := M.bind_ok.1 h
  obtain ⟨hp, rfl⟩ := M.of_ok.1 h1
  obtain ⟨q, hq, rfl⟩ := addrA_rel hp hx
  cases h0 : Nat.beq p.2 0 with
  | false => simp only [h0, Bool.not_false, cond_true] at h2; exact (M.fail_ok.1 h2).elim
  | true =>
    simp only [h0, Bool.not_true, cond_false] at h2
    have hp0 := beq_true.1 h0
    obtain ⟨o, s2, h3, h4⟩ := M.bind_ok.1 h2
    obtain ⟨g1, g2⟩ := getM_alike h3
    obtain ⟨r, s3, h5, h6⟩ := M.bind_ok.1 h4
    obtain ⟨ho, rfl⟩ := M.of_ok.1 h5
    obtain rfl := siterO_some ho
    obtain ⟨pq, ob, k1, k2, k3, k4⟩ := hw.at_ p.1 _ g1
    rw [hq] at k1
    injection k1 with k1
    subst k1 k3
    have hgi : (getObj q.1).run P w = .ok (.stringIter r.1 r.2) w := by simp [getObj, Sem.run, k2]
    have hof : q.2.1 + p.2 = 0 := by omega
    rw [hof]
    cases hlt : Nat.blt r.2 r.1.size with
    | false =>
      rw [bif_false _ _ hlt] at h6
      obtain ⟨rfl, rfl⟩ := M.pure_ok.1 h6
      have hnl : ¬ r.2 < r.1.size := fun e => by rw [blt_true.2 e] at hlt; cases hlt
      refine Does.read g2 hw (u := .tuple #[.bool false]) ?_ (tup1 rfl)
      simp [Instr.next, hgi, hnl]
    | true =>
      rw [bif_true _ _ hlt] at h6
      have hl := blt_true.1 hlt
      unfold step1 at h6
      rw [forceN_eq, forceN_eq] at h6
      obtain ⟨_, s5, h9, h10⟩ := M.bind_ok.1 h6
      obtain ⟨rfl, rfl⟩ := M.pure_ok.1 h10
      obtain ⟨_, hs'⟩ := setM_ok.1 h9
      have hlt' := (Array.getElem?_eq_some_iff.1 k2).1
      have hon : Only q.1 w { w with heap := w.heap.setIfInBounds q.1 (.stringIter r.1 (r.2 + (Utf8.decode r.1 r.2).2)) } := ⟨rfl, rfl, rfl, by simp, fun q hq => by simp [Ne.symm hq]⟩
      have := set_rel (s := s3) (s' := s') (o := .siter r.1 (r.2 + (Utf8.decode r.1 r.2).2)) (hw.alike g2) (by rw [g2.1, g1]; rfl) hq (by rw [hs']; rfl) hon (ob := .stringIter r.1 (r.2 + (Utf8.decode r.1 r.2).2)) (by simp [hlt']) ⟨rfl, k4⟩
      refine Does.after g2 (fun _ => ⟨ρ, _, .tuple #[.bool true, .int .i64 (Int.ofNat r.2), .int .i32 (Int.ofNat (Utf8.decode r.1 r.2).1)], ?_, tup3 rfl rfl rfl, this.1, this.2⟩)
      have hset : (setObj q.1 (.stringIter r.1 (r.2 + (Utf8.decode r.1 r.2).2))).run P w = .ok () { w with heap := w.heap.setIfInBounds q.1 (.stringIter r.1 (r.2 + (Utf8.decode r.1 r.2).2)) } := by simp [setObj, Sem.run, k2]
      simp [Instr.next, hgi, hl, hset, goInt]
theorem findB_rel {b : Nat} : ∀ {es : List Ent} {l : List MapEntry} {e : Ent}, findB b es = some e → ERel ρ es l → ∃ x, l.find? (fun y => y.born == b) = some x ∧ VRel ρ e.1 x.key ∧ VRel ρ e.2.1 x.val
  | [], l, e, h, _ => by cases h
  | a :: r, l, e, h, hr => by
    obtain ⟨x, l', rfl, h2, h3, h4, h5⟩ := hr
    unfold findB at h
    cases hb : Nat.beq a.2.2 b with
    | true =>
      rw [bif_true _ _ hb] at h
      simp only [Option.some.injEq] at h
      subst h
      exact ⟨x, by simp [h4, beq_true.1 hb], h2, h3⟩
    | false =>
      rw [bif_false _ _ hb] at h
      obtain ⟨y, g1, g2⟩ := findB_rel h h5
      refine ⟨y, ?_, g2⟩
      have : ¬ x.born = b := fun e => by rw [h4] at e; rw [beq_true.2 e] at hb; cases hb
      simp [this, g1]
theorem entry_does {it v : AV} {u : Value} (h : entryM it s = .ok v s') (hx : VRel ρ it u) (hw : WRel ρ s.h w) : Does P s s' ρ w (Instr.entry u) (fun ρ r => VRel ρ v r) := by
  unfold entryM at h
  obtain ⟨p, s1, h1, h2⟩ := M.bind_ok.1 h
  obtain ⟨hp, rfl⟩ := M.of_ok.1 h1
  obtain ⟨q, hq, rfl⟩ := addrA_rel hp hx
  cases h0 : Nat.beq p.2 0 with
  | false => simp only [h0, Bool.not_false, cond_true] at h2; exact (M.fail_ok.1 h2).elim
  | true =>
    simp only [h0, Bool.not_true, cond_false] at h2
    have hp0 := beq_true.1 h0
    obtain ⟨o, s2, h3, h4⟩ := M.bind_ok.1 h2
    obtain ⟨g1, g2⟩ := getM_alike h3
    obtain ⟨r, s3, h5, h6⟩ := M.bind_ok.1 h4
    obtain ⟨ho, rfl⟩ := M.of_ok.1 h5
    obtain rfl := iterO_some ho
    obtain ⟨m', k1, k2, k3⟩ := hw.iter g1 hq
    have hgi : (getObj q.1).run P w = .ok (.mapIter m' r.2.1 r.2.2.1.toArray r.2.2.2) w := run_getObj_iter k1
    have hof : q.2.1 + p.2 = 0 := by omega
    rw [hof]
    obtain ⟨m, s4, h7, h8⟩ := M.bind_ok.1 h6
    obtain ⟨hm, rfl⟩ := M.of_ok.1 h7
    rw [hm] at k2
    obtain ⟨qm, hqm, rfl⟩ := k2
    obtain ⟨es, s5, h9, h10⟩ := M.bind_ok.1 h8
    obtain ⟨f1, _, f2⟩ := mapM_ok h9
    have hw3 := hw.alike g2
    obtain ⟨es', e1, e2⟩ := hw3.map f1 hqm
    have hgm : (getObj qm.1).run P w = .ok (.map es' es.2) w := run_getObj_map e1
    have hal := g2.trans f2
    cases hc : Nat.beq es.2 r.2.2.2 with
    | false => rw [bif_false _ _ hc] at h10; exact (M.fail_ok.1 h10).elim
    | true =>
      rw [bif_true _ _ hc] at h10
      have hcc := beq_true.1 hc
      obtain ⟨b, s6, h11, h12⟩ := M.bind_ok.1 h10
      obtain ⟨hb, rfl⟩ := M.of_ok.1 h11
      obtain ⟨en, s7, h13, h14⟩ := M.bind_ok.1 h12
      obtain ⟨hen, rfl⟩ := M.of_ok.1 h13
      obtain ⟨rfl, rfl⟩ := M.pure_ok.1 h14
      obtain ⟨x, x1, x2, x3⟩ := findB_rel hen e2
      refine Does.read hal hw (u := .tuple #[x.key, x.val]) ?_ (tup2 x2 x3)
      have hbk : r.2.2.1.toArray.back? = some b := by rw [← hb]; simp
      have hfd : es'.find? (fun y => y.born == b) = some x := by rw [← Array.find?_toList]; exact x1
      simp [Instr.entry, hgi, hbk, hgm, hcc, hfd]
end
end Go.Proofs.YtceocfeckipihaaGreatDoor.Vm
namespace Go.Proofs.YtceocfeckipihaaGreatDoor.Vm
open Go
section
variable {P : Program} {s s' s1 : St} {ρ ρ' : Ren} {w w' : World} {t e : TypeId} {i j : TyI}
theorem wrapF_eq (k : IntKind) (n : Int) : wrapF k n = .int k (k.wrap n) := by unfold wrapF mkInt; rw [forceI_eq]
theorem mkInt_eq (k : IntKind) (n : Int) : mkInt k n = .int k n := by unfold mkInt; rw [forceI_eq]
theorem int2_ok {f : IntKind → Int → Int → Option AV} {x y v : AV} {a b : Value} (h : int2 f x y s = .ok v s') (hx : VRel ρ x a) (hy : VRel ρ y b) : ∃ k m n, a = .int k m ∧ b = .int k n ∧ f k m n = some v ∧ s' = s := by
  unfold int2 at h
  cases ha : intA x with
  | none => rw [ha] at h; exact (M.fail_ok.1 h).elim
  | some p =>
    cases hb : intA y with
    | none => rw [ha, hb] at h; exact (M.fail_ok.1 h).elim
    | some q =>
      rw [ha, hb] at h
      simp only at h
      by_cases hpq : p.1 = q.1
      · rw [if_pos hpq] at h
        obtain ⟨h1, rfl⟩ := M.of_ok.1 h
        exact ⟨p.1, p.2, q.2, intA_rel ha hx, by rw [hpq]; exact intA_rel hb hy, h1, rfl⟩
      · rw [if_neg hpq] at h
        exact (M.fail_ok.1 h).elim
theorem sh2_ok {f : IntKind → Int → Nat → AV} {x y v : AV} {a b : Value} (h : sh2 f x y s = .ok v s') (hx : VRel ρ x a) (hy : VRel ρ y b) : ∃ k kk m n, a = .int k m ∧ b = .int kk (n : Nat) ∧ v = f k m (min n k.bits) ∧ s' = s := by
  unfold sh2 at h
  cases ha : intA x with
  | none => rw [ha] at h; exact (M.fail_ok.1 h).elim
  | some p =>
    cases hb : natA y with
    | none => rw [ha, hb] at h; exact (M.fail_ok.1 h).elim
    | some n =>
      rw [ha, hb] at h
      obtain ⟨rfl, rfl⟩ := M.pure_ok.1 h
      obtain ⟨kk, rfl⟩ := natA_rel hb hy
      exact ⟨p.1, kk, p.2, n, intA_rel ha hx, rfl, rfl, rfl⟩
theorem cmp2_ok {f : Int → Int → Bool} {g : ByteArray → ByteArray → Bool} {x y v : AV} {a b : Value} (h : cmp2 f g x y s = .ok v s') (hx : VRel ρ x a) (hy : VRel ρ y b) :
    s' = s ∧ ((∃ k m n, a = .int k m ∧ b = .int k n ∧ v = .bool (f m n)) ∨ ∃ m n, a = .string m ∧ b = .string n ∧ v = .bool (g m n)) := by
  unfold cmp2 at h
  split at h
  · rename_i p q ha hb
    by_cases hpq : p.1 = q.1
    · rw [if_pos hpq] at h
      injection h with h1 h2
      exact ⟨h2.symm, .inl ⟨p.1, p.2, q.2, intA_rel ha hx, by rw [hpq]; exact intA_rel hb hy, h1.symm⟩⟩
    · rw [if_neg hpq] at h
      cases h
  · split at h
    · rename_i p q ha hb
      injection h with h1 h2
      exact ⟨h2.symm, .inr ⟨p, q, strA_rel ha hx, strA_rel hb hy, h1.symm⟩⟩
    · cases h
theorem addA_ok {x y v : AV} {a b : Value} (h : addA x y s = .ok v s') (hx : VRel ρ x a) (hy : VRel ρ y b) :
    s' = s ∧ ((∃ k m n, a = .int k m ∧ b = .int k n ∧ v = wrapF k (m + n)) ∨ ∃ m n, a = .string m ∧ b = .string n ∧ v = .str (m ++ n) ∧ m.size + n.size ≤ 1000000) := by
  unfold addA at h
  split at h
  · rename_i p q ha hb
    cases hc : Nat.ble (Nat.add p.data.size q.data.size) 1000000 with
    | false => rw [bif_false _ _ hc] at h; cases h
    | true =>
      rw [bif_true _ _ hc] at h
      injection h with h1 h2
      exact ⟨h2.symm, .inr ⟨p, q, strA_rel ha hx, strA_rel hb hy, h1.symm, ble_true.1 hc⟩⟩
  · obtain ⟨k, m, n, h1, h2, h3, h4⟩ := int2_ok h hx hy
    simp only [Option.some.injEq] at h3
    exact ⟨h4, .inl ⟨k, m, n, h1, h2, h3.symm⟩⟩
def EqRun (P : Program) (w : World) (t : TypeId) (ox oy : Operand) (a b : Value) (r : Bool) : Prop :=
  (∀ op, (eqGuard op t ox oy a b).run P w = .ok () w) ∧ (binOp .eql t a b).run P w = .ok (.bool r) w ∧ (binOp .neq t a b).run P w = .ok (.bool !r) w
theorem eqIS_rel {x y : AV} {a b : Value} {r : Bool} (h : eqIS x y = some r) (hx : VRel ρ x a) (hy : VRel ρ y b) : (∃ k m n, a = .int k m ∧ b = .int k n ∧ r = (m == n)) ∨ ∃ m n, a = .string m ∧ b = .string n ∧ r = (m == n) := by
  unfold eqIS at h
  split at h
  · rename_i p q ha hb
    by_cases hpq : p.1 = q.1
    · rw [if_pos hpq] at h
      simp only [Option.some.injEq] at h
      exact .inl ⟨p.1, p.2, q.2, intA_rel ha hx, by rw [hpq]; exact intA_rel hb hy, h.symm⟩
    · rw [if_neg hpq] at h; cases h
  · split at h
    · rename_i p q ha hb
      simp only [Option.some.injEq] at h
      exact .inr ⟨p, q, strA_rel ha hx, strA_rel hb hy, h.symm⟩
    · cases h
theorem eqNil_ok {f : AV → Option Bool} {x y : AV} {r : Bool} (h : eqNil f x y s = .ok r s') : s' = s ∧ ((f x = some true ∧ f y = some r) ∨ (f x = some false ∧ f y = some true ∧ r = false)) := by
  unfold eqNil at h
  split at h
  · rename_i b h1 h2
    injection h with h3 h4
    subst h3
    exact ⟨h4.symm, .inl ⟨h1, h2⟩⟩
  · rename_i h1 h2
    injection h with h3 h4
    exact ⟨h4.symm, .inr ⟨h1, h2, h3.symm⟩⟩
  · cases h
theorem nilP_rel {x : AV} {a : Value} {b : Bool} (h : nilP x = some b) (hx : VRel ρ x a) : ∃ p : Option Addr, a = .pointer p ∧ b = p.isNone := by
  cases x <;> simp only [nilP, Option.some.injEq, reduceCtorEq] at h <;> subst h
  · exact ⟨none, hx, rfl⟩
  · obtain ⟨p, _, rfl⟩ := hx; exact ⟨_, rfl, rfl⟩
theorem nilS_rel {x : AV} {a : Value} {b : Bool} (h : nilS x = some b) (hx : VRel ρ x a) : ∃ (p : Option Addr) (l c : Nat), a = .slice p l c ∧ b = p.isNone := by
  cases x <;> simp only [nilS, Option.some.injEq, reduceCtorEq] at h <;> subst h
  · exact ⟨none, 0, 0, hx, rfl⟩
  · obtain ⟨p, c, _, rfl, _⟩ := hx; exact ⟨_, _, _, rfl, rfl⟩
  · obtain ⟨p, c, rfl⟩ := hx; exact ⟨_, _, _, rfl, rfl⟩
theorem nilM_rel {x : AV} {a : Value} {b : Bool} (h : nilM x = some b) (hx : VRel ρ x a) : ∃ p : Option Nat, a = .map p ∧ b = p.isNone := by
  cases x <;> simp only [nilM, Option.some.injEq, reduceCtorEq] at h <;> subst h
  · exact ⟨none, hx, rfl⟩
  · obtain ⟨p, _, rfl⟩ := hx; exact ⟨_, rfl, rfl⟩
theorem nilF_rel {x : AV} {a : Value} {b : Bool} (h : nilF x = some b) (hx : VRel ρ x a) : (b = true ∧ a = .nilFunc) ∨ (b = false ∧ ∃ f x y, a = .func f x y) := by
  cases x <;> simp only [nilF, Option.some.injEq, reduceCtorEq] at h <;> subst h
  · exact .inl ⟨rfl, hx⟩
  · obtain ⟨_, _, rfl, _⟩ := hx; exact .inr ⟨rfl, _, _, _, rfl⟩
  · obtain ⟨_, _, rfl⟩ := hx; exact .inr ⟨rfl, _, _, _, rfl⟩
theorem nilI_rel {x : AV} {a : Value} {b : Bool} (h : nilI x = some b) (hx : VRel ρ x a) : (b = true ∧ a = .nilIface) ∨ (b = false ∧ ∃ t y, a = .iface t y) := by
  cases x <;> simp only [nilI, Option.some.injEq, reduceCtorEq] at h <;> subst h
  · exact .inl ⟨rfl, hx⟩
  · obtain ⟨_, rfl, _⟩ := hx; exact .inr ⟨rfl, _, _, rfl⟩
theorem TyOK.desc (hi : TyOK P t i) : ∃ d, P.underlying t = some d ∧ DescR P i.desc d := by
  obtain ⟨d, h1, _, h2, _⟩ := hi.und
  exact ⟨d, h1, h2⟩
theorem eqT_run {E : Env} (hE : EnvOK E P) {lit : Bool} {ox oy : Operand} {x y : AV} {a b : Value} {r : Bool} (hi : TyOK P t i) (hlit : lit = (isConst ox || isConst oy)) (h : eqT E i lit x y s = .ok r s') (hx : VRel ρ x a) (hy : VRel ρ y b) (hw : WRel ρ s.h w) :
    Alike s s' ∧ EqRun P w t ox oy a b r := by
  obtain ⟨d, hd, hdr⟩ := hi.desc
  have h9 : ∀ {a b : Value} {r : Bool}, (∀ n, (Op.equalIn (n + 1) t a b).run P w = .ok r w) → (Op.equalIn 10000 t a b).run P w = .ok r w := fun h => h 9999
  have fin : ∀ {a b : Value} {r : Bool}, (∀ k n, a ≠ .int k n) → (∀ m, a ≠ .string m) → (∀ op, (eqGuard op t ox oy a b).run P w = .ok () w) → (Op.equalIn 10000 t a b).run P w = .ok r w →
      (∀ k n, a ≠ .float k n) → (∀ k n m, a ≠ .complex k n m) → EqRun P w t ox oy a b r := by
    intro a b r h1 h2 h3 h4 h5 h6
    refine ⟨h3, ?_, ?_⟩ <;>
    · cases a <;> first
        | exact absurd rfl (h1 _ _)
        | exact absurd rfl (h2 _)
        | exact absurd rfl (h5 _ _)
        | exact absurd rfl (h6 _ _ _)
        | (simp only [binOp]; simp [Op.equal, Op.maxDepth, h4])
  have g0 : ∀ {a b : Value}, (a ≠ .nilIface ∨ b ≠ .nilIface) → (∀ c, a ≠ .agg c) → ∀ op, (eqGuard op t ox oy a b).run P w = .ok () w := by
    intro a b h1 h2 op
    cases op <;> simp only [eqGuard] <;> first | rfl | skip
    all_goals
      cases a <;> first | rfl | (exact absurd rfl (h2 _)) | skip
      cases b <;> first | rfl | (rcases h1 with h1 | h1 <;> exact absurd rfl h1)
  unfold eqT at h
  cases hds : i.desc <;> simp only [hds, kindsD] at h hdr
  case int k0 =>
    obtain ⟨h1, rfl⟩ := M.of_ok.1 h
    refine ⟨Alike.refl _, ?_⟩
    rcases eqIS_rel h1 hx hy with ⟨k, m, n, rfl, rfl, rfl⟩ | ⟨m, n, rfl, rfl, rfl⟩
    · exact ⟨g0 (.inl (by simp)) (by simp), by simp [binOp, Op.intCmp], by simp [binOp, Op.intCmp]; rfl⟩
    · exact ⟨g0 (.inl (by simp)) (by simp), by simp [binOp, Op.stringOp, beq_toListBytes], by simp [binOp, Op.stringOp, beq_toListBytes]⟩
  case str =>
    obtain ⟨h1, rfl⟩ := M.of_ok.1 h
    refine ⟨Alike.refl _, ?_⟩
    rcases eqIS_rel h1 hx hy with ⟨k, m, n, rfl, rfl, rfl⟩ | ⟨m, n, rfl, rfl, rfl⟩
    · exact ⟨g0 (.inl (by simp)) (by simp), by simp [binOp, Op.intCmp], by simp [binOp, Op.intCmp]; rfl⟩
    · exact ⟨g0 (.inl (by simp)) (by simp), by simp [binOp, Op.stringOp, beq_toListBytes], by simp [binOp, Op.stringOp, beq_toListBytes]⟩
  case bool =>
    obtain ⟨h1, rfl⟩ := M.of_ok.1 h
    refine ⟨Alike.refl _, ?_⟩
    unfold eqB at h1
    split at h1
    · rename_i p q ha hb
      obtain rfl := boolA_rel ha hx
      obtain rfl := boolA_rel hb hy
      simp only [Option.some.injEq] at h1
      subst h1
      obtain rfl : d = .bool := hdr
      refine fin (by simp) (by simp) (g0 (.inl (by simp)) (by simp)) ?_ (by simp) (by simp)
      exact run_equalIn_bool w 9999 t p q hd
    · cases h1
  case ptr el =>
    obtain rfl : d = .pointer el := hdr
    unfold eqP at h
    split at h
    · rename_i p q ha hb
      obtain ⟨e', s1, h1, h2⟩ := M.bind_ok.1 h
      obtain ⟨he, rfl⟩ := M.of_ok.1 h1
      simp only [ptrD, Option.some.injEq] at he
      subst he
      obtain ⟨j, hj, h3⟩ := withTy_ok.1 h2
      obtain ⟨inf, _, _, i1, _, i2, _⟩ := hE.ty _ _ hj
      cases h0 : Nat.beq j.size 0 with
      | true => rw [bif_true _ _ h0] at h3; exact (M.fail_ok.1 h3).elim
      | false =>
        rw [bif_false _ _ h0] at h3
        have hj0 : inf.size ≠ 0 := fun e => by rw [← i2, beq_true.2 e] at h0; cases h0
        obtain ⟨qa, s2, h4, h5⟩ := M.bind_ok.1 h3
        obtain ⟨g1, _, g2⟩ := rowM_ok h4
        obtain ⟨qb, s3, h6, h7⟩ := M.bind_ok.1 h5
        obtain ⟨g3, _, g4⟩ := rowM_ok h6
        obtain ⟨rfl, rfl⟩ := M.pure_ok.1 h7
        obtain ⟨xa, ha1, rfl⟩ := addrA_rel ha hx
        obtain ⟨xb, hb1, rfl⟩ := addrA_rel hb hy
        rw [g2.1] at g3
        obtain ⟨oa, oa1, va, _, _, rfl, _⟩ := hw.row g1 ha1
        obtain ⟨ob, ob1, vb, _, _, rfl, _⟩ := hw.row g3 hb1
        refine ⟨g2.trans g4, fin (by simp) (by simp) (g0 (.inl (by simp)) (by simp)) ?_ (by simp) (by simp)⟩
        have same : p.1 = q.1 ↔ xa.1 = xb.1 := ⟨fun e => by rw [e, hb1] at ha1; injection ha1 with ha1; rw [ha1], fun e => hw.inj p.1 q.1 xa xb (by rw [g1]; rfl) (by rw [g3]; rfl) ha1 hb1 e⟩
        by_cases hpq : p.1 = q.1
        · have hxx : xa = xb := by rw [hpq, hb1] at ha1; injection ha1 with ha1; exact ha1.symm
          subst hxx
          by_cases hof : p.2 = q.2
          · rw [hpq, hof, Nat.beq_refl, Nat.beq_refl]
            exact h9 fun n => by simp [Op.equalIn, run_underlying hd, sizeOf, typeInfo, i1, run_sameAddr_same]
          · have : Nat.beq p.2 q.2 = false := by cases hq : Nat.beq p.2 q.2 with | false => rfl | true => exact absurd (beq_true.1 hq) hof
            rw [this, Bool.and_false]
            have hne : (⟨xa.1, xa.2.1 + p.2, none⟩ : Addr) ≠ ⟨xa.1, xa.2.1 + q.2, none⟩ := fun e => by
              injection e with _ e _
              omega
            exact h9 fun n => by simp [Op.equalIn, run_underlying hd, sizeOf, typeInfo, i1, hj0, run_sameAddr_other w hne oa1 oa1]
        · have : Nat.beq p.1 q.1 = false := by cases hq : Nat.beq p.1 q.1 with | false => rfl | true => exact absurd (beq_true.1 hq) hpq
          rw [this, Bool.false_and]
          have hne : (⟨xa.1, xa.2.1 + p.2, none⟩ : Addr) ≠ ⟨xb.1, xb.2.1 + q.2, none⟩ := fun e => by
            injection e with e _ _
            exact hpq (same.2 e)
          exact h9 fun n => by simp [Op.equalIn, run_underlying hd, sizeOf, typeInfo, i1, hj0, run_sameAddr_other w hne oa1 ob1]
    · obtain ⟨rfl, h1⟩ := eqNil_ok h
      refine ⟨Alike.refl _, ?_⟩
      rcases h1 with ⟨h1, h2⟩ | ⟨h1, h2, rfl⟩
      · obtain ⟨p, rfl, e1⟩ := nilP_rel h1 hx
        obtain ⟨q, rfl, rfl⟩ := nilP_rel h2 hy
        obtain rfl : p = none := by cases p with | none => rfl | some a => cases e1
        refine fin (by simp) (by simp) (g0 (.inl (by simp)) (by simp)) ?_ (by simp) (by simp)
        exact h9 fun n => by cases q <;> simp [Op.equalIn, run_underlying hd]
      · obtain ⟨p, rfl, e1⟩ := nilP_rel h1 hx
        obtain ⟨q, rfl, e2⟩ := nilP_rel h2 hy
        obtain rfl : q = none := by cases q with | none => rfl | some a => cases e2
        obtain ⟨pa, rfl⟩ : ∃ pa, p = some pa := by cases p with | none => cases e1 | some a => exact ⟨a, rfl⟩
        refine fin (by simp) (by simp) (g0 (.inl (by simp)) (by simp)) ?_ (by simp) (by simp)
        exact h9 fun n => by simp [Op.equalIn, run_underlying hd]
  case slice el =>
    obtain rfl : d = .slice el := hdr
    simp only [eqRef] at h
    obtain ⟨rfl, h1⟩ := eqNil_ok h
    refine ⟨Alike.refl _, ?_⟩
    rcases h1 with ⟨h1, h2⟩ | ⟨h1, h2, rfl⟩
    · obtain ⟨p, l, c, rfl, e1⟩ := nilS_rel h1 hx
      obtain ⟨q, l', c', rfl, rfl⟩ := nilS_rel h2 hy
      obtain rfl : p = none := by cases p with | none => rfl | some a => cases e1
      refine fin (by simp) (by simp) (g0 (.inl (by simp)) (by simp)) ?_ (by simp) (by simp)
      exact h9 fun n => by cases q <;> simp [Op.equalIn, run_underlying hd]
    · obtain ⟨p, l, c, rfl, e1⟩ := nilS_rel h1 hx
      obtain ⟨q, l', c', rfl, e2⟩ := nilS_rel h2 hy
      obtain rfl : q = none := by cases q with | none => rfl | some a => cases e2
      obtain ⟨pa, rfl⟩ : ∃ pa, p = some pa := by cases p with | none => cases e1 | some a => exact ⟨a, rfl⟩
      refine fin (by simp) (by simp) (g0 (.inl (by simp)) (by simp)) ?_ (by simp) (by simp)
      exact h9 fun n => by simp [Op.equalIn, run_underlying hd]
  case map kk el =>
    obtain rfl : d = .map kk el := hdr
    simp only [eqRef] at h
    obtain ⟨rfl, h1⟩ := eqNil_ok h
    refine ⟨Alike.refl _, ?_⟩
    rcases h1 with ⟨h1, h2⟩ | ⟨h1, h2, rfl⟩
    · obtain ⟨p, rfl, e1⟩ := nilM_rel h1 hx
      obtain ⟨q, rfl, rfl⟩ := nilM_rel h2 hy
      obtain rfl : p = none := by cases p with | none => rfl | some a => cases e1
      refine fin (by simp) (by simp) (g0 (.inl (by simp)) (by simp)) ?_ (by simp) (by simp)
      exact h9 fun n => by cases q <;> simp [Op.equalIn, run_underlying hd]
    · obtain ⟨p, rfl, e1⟩ := nilM_rel h1 hx
      obtain ⟨q, rfl, e2⟩ := nilM_rel h2 hy
      obtain rfl : q = none := by cases q with | none => rfl | some a => cases e2
      obtain ⟨pa, rfl⟩ : ∃ pa, p = some pa := by cases p with | none => cases e1 | some a => exact ⟨a, rfl⟩
      refine fin (by simp) (by simp) (g0 (.inl (by simp)) (by simp)) ?_ (by simp) (by simp)
      exact h9 fun n => by simp [Op.equalIn, run_underlying hd]
  case fn =>
    obtain ⟨fa, fb, fc, rfl⟩ := hdr
    simp only [eqRef] at h
    obtain ⟨rfl, h1⟩ := eqNil_ok h
    refine ⟨Alike.refl _, ?_⟩
    rcases h1 with ⟨h1, h2⟩ | ⟨h1, h2, rfl⟩
    · rcases nilF_rel h1 hx with ⟨_, rfl⟩ | ⟨h3, _⟩
      · rcases nilF_rel h2 hy with ⟨rfl, rfl⟩ | ⟨rfl, _, _, _, rfl⟩ <;>
          exact fin (by simp) (by simp) (g0 (.inl (by simp)) (by simp)) (h9 fun n => by simp [Op.equalIn, run_underlying hd]) (by simp) (by simp)
      · cases h3
    · rcases nilF_rel h1 hx with ⟨h3, _⟩ | ⟨_, _, _, _, rfl⟩
      · cases h3
      · rcases nilF_rel h2 hy with ⟨_, rfl⟩ | ⟨h3, _⟩
        · exact fin (by simp) (by simp) (g0 (.inl (by simp)) (by simp)) (h9 fun n => by simp [Op.equalIn, run_underlying hd]) (by simp) (by simp)
        · cases h3
  case ifc =>
    obtain ⟨ms, rfl⟩ := hdr
    cases hl : lit with
    | false => simp only [hl, cond_false] at h; exact (M.fail_ok.1 h).elim
    | true =>
      simp only [hl, cond_true] at h
      obtain ⟨rfl, h1⟩ := eqNil_ok h
      refine ⟨Alike.refl _, ?_⟩
      have gl : ∀ op, (eqGuard op t ox oy .nilIface .nilIface).run P w = .ok () w := fun op => by
        rw [hl] at hlit
        cases op <;> simp only [eqGuard] <;> first | rfl | skip
        all_goals
          cases ox <;> cases oy <;> first | rfl | (cases hlit; done)
      rcases h1 with ⟨h1, h2⟩ | ⟨h1, h2, rfl⟩
      · rcases nilI_rel h1 hx with ⟨_, rfl⟩ | ⟨h3, _⟩
        · rcases nilI_rel h2 hy with ⟨rfl, rfl⟩ | ⟨rfl, _, _, rfl⟩
          · exact fin (by simp) (by simp) gl (h9 fun n => by simp [Op.equalIn, run_underlying hd]) (by simp) (by simp)
          · exact fin (by simp) (by simp) (g0 (.inr (by simp)) (by simp)) (h9 fun n => by simp [Op.equalIn, run_underlying hd]) (by simp) (by simp)
        · cases h3
      · rcases nilI_rel h1 hx with ⟨h3, _⟩ | ⟨_, _, _, rfl⟩
        · cases h3
        · rcases nilI_rel h2 hy with ⟨_, rfl⟩ | ⟨h3, _⟩
          · exact fin (by simp) (by simp) (g0 (.inl (by simp)) (by simp)) (h9 fun n => by simp [Op.equalIn, run_underlying hd]) (by simp) (by simp)
          · cases h3
  case other => exact (M.fail_ok.1 h).elim
  all_goals
    unfold eqAgg at h
    split at h
    · rename_i p q ha hb
      cases hf : (i.flat && shapeB (isArrD i.desc) i.size i.zc p) with
      | false => rw [bif_false _ _ hf] at h; cases h
      | true =>
        rw [bif_true _ _ hf] at h
        obtain ⟨h1, rfl⟩ := M.of_ok.1 h
        rw [Bool.and_eq_true] at hf
        obtain ⟨xs, rfl, hxs⟩ := aggA_rel ha hx
        obtain ⟨ys, rfl, hys⟩ := aggA_rel hb hy
        obtain ⟨_, _, _, _, _, _, _, _, _, _, _, _, hfl, _⟩ := hi
        obtain ⟨f1, f2⟩ := hfl hf.1
        exact ⟨Alike.refl _, fin (by simp) (by simp) (fun op => run_eqGuard_agg w op t ox oy xs ys f1) (f2 ρ _ _ _ _ _ _ hf.2 h1 hxs hys).1 (by simp) (by simp)⟩
    · cases h
end
end Go.Proofs.YtceocfeckipihaaGreatDoor.Vm
namespace Go.Proofs.YtceocfeckipihaaGreatDoor.Vm
open Go
section
variable {P : Program} {s s' s1 : St} {ρ ρ' : Ren} {w w' : World} {t e : TypeId} {i j : TyI}
theorem guard_off {op : BinOp} {ox oy : Operand} {a b : Value} (h : (op matches .eql | .neq) = false) : (eqGuard op t ox oy a b).run P w = .ok () w := by
  cases op <;> first | rfl | (cases h; done)
theorem bin_does {E : Env} (hE : EnvOK E P) {op : BinOp} {lit : Bool} {ox oy : Operand} {x y v : AV} {a b : Value} (hlit : lit = (isConst ox || isConst oy)) (h : binF E op t lit x y s = .ok v s') (hx : VRel ρ x a) (hy : VRel ρ y b) (hw : WRel ρ s.h w) :
    Does P s s' ρ w (do eqGuard op t ox oy a b; binOp op t a b) (fun ρ r => VRel ρ v r) := by
  have go : ∀ {r : Value}, s' = s → (eqGuard op t ox oy a b).run P w = .ok () w → (binOp op t a b).run P w = .ok r w → VRel ρ v r → Does P s s' ρ w (do eqGuard op t ox oy a b; binOp op t a b) (fun ρ r => VRel ρ v r) := by
    intro r e1 e2 e3 e4
    subst e1
    exact Does.read (Alike.refl _) hw (by rw [Sem.run_bind, e2]; exact e3) e4
  cases op <;> simp only [binF] at h
  case eql =>
    obtain ⟨i, hi, h2⟩ := withTy_ok.1 h
    obtain ⟨r, s1, h3, h4⟩ := M.bind_ok.1 h2
    obtain ⟨rfl, rfl⟩ := M.pure_ok.1 h4
    obtain ⟨g1, g2, g3, g4⟩ := eqT_run hE (hE.ty _ _ hi) hlit h3 hx hy hw
    exact Does.read g1 hw (by rw [Sem.run_bind, g2]; exact g3) rfl
  case neq =>
    obtain ⟨i, hi, h2⟩ := withTy_ok.1 h
    obtain ⟨r, s1, h3, h4⟩ := M.bind_ok.1 h2
    obtain ⟨rfl, rfl⟩ := M.pure_ok.1 h4
    obtain ⟨g1, g2, g3, g4⟩ := eqT_run hE (hE.ty _ _ hi) hlit h3 hx hy hw
    exact Does.read g1 hw (by rw [Sem.run_bind, g2]; exact g4) rfl
  case add =>
    obtain ⟨h1, ⟨k, m, n, rfl, rfl, rfl⟩ | ⟨m, n, rfl, rfl, rfl, h3⟩⟩ := addA_ok h hx hy
    · exact go h1 (guard_off rfl) (by simp [binOp, Op.intArith]; rfl) (by rw [wrapF_eq]; rfl)
    · refine go h1 (guard_off rfl) (r := .string (m ++ n)) ?_ rfl
      have hn : ¬ (((m.size + n.size : Nat) : Int) > IntKind.i64.max) := by
        have : IntKind.i64.max = 9223372036854775807 := by decide
        rw [this]
        omega
      have : (binOp .add t (.string m) (.string n)) = (if ((m.size + n.size : Nat) : Int) > IntKind.i64.max then unsupported (.resourceLimit "string concatenation: a sum of the lengths that is no int") else pure (.string (m ++ n))) := rfl
      rw [this, if_neg hn]
      rfl
  case shl =>
    obtain ⟨k, kk, m, n, rfl, rfl, rfl, h1⟩ := sh2_ok h hx hy
    exact go h1 (guard_off rfl) (by simp [binOp, Op.shift]; rfl) (by rw [wrapF_eq]; rfl)
  case shr =>
    obtain ⟨k, kk, m, n, rfl, rfl, rfl, h1⟩ := sh2_ok h hx hy
    exact go h1 (guard_off rfl) (by simp [binOp, Op.shift]; rfl) (by rw [mkInt_eq]; rfl)
  case quo =>
    obtain ⟨k, m, n, rfl, rfl, h2, h1⟩ := int2_ok h hx hy
    by_cases hn : n = 0
    · rw [if_pos hn] at h2; cases h2
    · rw [if_neg hn] at h2
      simp only [Option.some.injEq] at h2
      subst h2
      exact go h1 (guard_off rfl) (by simp [binOp, Op.intDiv, hn]; rfl) (by rw [wrapF_eq]; rfl)
  case rem =>
    obtain ⟨k, m, n, rfl, rfl, h2, h1⟩ := int2_ok h hx hy
    by_cases hn : n = 0
    · rw [if_pos hn] at h2; cases h2
    · rw [if_neg hn] at h2
      simp only [Option.some.injEq] at h2
      subst h2
      exact go h1 (guard_off rfl) (by simp [binOp, Op.intDiv, hn]; rfl) (by rw [mkInt_eq]; rfl)
  case lss =>
    obtain ⟨h1, ⟨k, m, n, rfl, rfl, rfl⟩ | ⟨m, n, rfl, rfl, rfl⟩⟩ := cmp2_ok h hx hy
    · exact go h1 (guard_off rfl) (r := .bool (decide (m < n))) (by simp [binOp, Op.intCmp]) rfl
    · exact go h1 (guard_off rfl) (r := .bool (ltS m n)) (by simp [binOp, Op.stringOp, ltS]) rfl
  case leq =>
    obtain ⟨h1, ⟨k, m, n, rfl, rfl, rfl⟩ | ⟨m, n, rfl, rfl, rfl⟩⟩ := cmp2_ok h hx hy
    · exact go h1 (guard_off rfl) (r := .bool (decide (m ≤ n))) (by simp [binOp, Op.intCmp]) rfl
    · exact go h1 (guard_off rfl) (r := .bool (leS m n)) (by simp [binOp, Op.stringOp, leS]) rfl
  case gtr =>
    obtain ⟨h1, ⟨k, m, n, rfl, rfl, rfl⟩ | ⟨m, n, rfl, rfl, rfl⟩⟩ := cmp2_ok h hx hy
    · exact go h1 (guard_off rfl) (r := .bool (decide (m > n))) (by simp [binOp, Op.intCmp]) rfl
    · exact go h1 (guard_off rfl) (r := .bool (!(leS m n))) (by simp [binOp, Op.stringOp, leS]) rfl
  case geq =>
    obtain ⟨h1, ⟨k, m, n, rfl, rfl, rfl⟩ | ⟨m, n, rfl, rfl, rfl⟩⟩ := cmp2_ok h hx hy
    · exact go h1 (guard_off rfl) (r := .bool (decide (m ≥ n))) (by simp [binOp, Op.intCmp]) rfl
    · exact go h1 (guard_off rfl) (r := .bool (!(ltS m n))) (by simp [binOp, Op.stringOp, ltS]) rfl
  case andNot =>
    obtain ⟨k, m, n, rfl, rfl, h2, h1⟩ := int2_ok h hx hy
    simp only [bitsA, Option.some.injEq] at h2
    subst h2
    exact go h1 (guard_off rfl) (r := .int k (k.wrap ((BitVec.ofInt k.bits m &&& ~~~BitVec.ofInt k.bits n).toNat : Int))) (by simp [binOp, Op.intBits]) (by rw [wrapF_eq]; rfl)
  all_goals
    obtain ⟨k, m, n, rfl, rfl, h2, h1⟩ := int2_ok h hx hy
    simp only [bitsA, Option.some.injEq] at h2
    subst h2
    exact go h1 (guard_off rfl) (by simp [binOp, Op.intArith, Op.intBits]; rfl) (by rw [wrapF_eq]; rfl)
theorem un_does {op : UnOp} {x v : AV} {a : Value} (h : unF op x s = .ok v s') (hx : VRel ρ x a) (hw : WRel ρ s.h w) : Does P s s' ρ w (Op.unary op a) (fun ρ r => VRel ρ v r) := by
  cases op <;> simp only [unF] at h
  case neg =>
    obtain ⟨p, s1, h1, h2⟩ := M.bind_ok.1 h
    obtain ⟨hp, rfl⟩ := M.of_ok.1 h1
    obtain ⟨rfl, rfl⟩ := M.pure_ok.1 h2
    obtain rfl := intA_rel hp hx
    exact Does.read (Alike.refl _) hw (u := .int p.1 (p.1.wrap (0 - p.2))) (by simp [Op.unary, Op.intArith]) (by rw [wrapF_eq]; rfl)
  case xor =>
    obtain ⟨p, s1, h1, h2⟩ := M.bind_ok.1 h
    obtain ⟨hp, rfl⟩ := M.of_ok.1 h1
    obtain ⟨h3, rfl⟩ := M.of_ok.1 h2
    simp only [bitsA, Option.some.injEq] at h3
    subst h3
    obtain rfl := intA_rel hp hx
    exact Does.read (Alike.refl _) hw (u := .int p.1 (p.1.wrap (BitVec.ofInt p.1.bits (if p.1.signed then -1 else p.1.max) ^^^ BitVec.ofInt p.1.bits p.2).toNat)) (by simp [Op.unary, Op.intBits]) (by rw [wrapF_eq]; rfl)
  case not =>
    obtain ⟨p, s1, h1, h2⟩ := M.bind_ok.1 h
    obtain ⟨hp, rfl⟩ := M.of_ok.1 h1
    obtain ⟨rfl, rfl⟩ := M.pure_ok.1 h2
    obtain rfl := boolA_rel hp hx
    exact Does.read (Alike.refl _) hw (u := .bool (!p)) (by simp [Op.unary]) rfl
  case plus => exact (M.fail_ok.1 h).elim
theorem min_does {x y v : AV} {a b : Value} {ts : Array TypeId} {ty : TypeId} (h : min2A x y s = .ok v s') (hx : VRel ρ x a) (hy : VRel ρ y b) (hw : WRel ρ s.h w) : Does P s s' ρ w (Builtin.min_ ts ty #[a, b]) (fun ρ r => VRel ρ v r) := by
  obtain ⟨k, m, n, rfl, rfl, h2, rfl⟩ := int2_ok h hx hy
  simp only [Option.some.injEq] at h2
  subst h2
  exact Does.read (Alike.refl _) hw (u := .int k (if n < m then n else m)) (by simp [Builtin.min_, Builtin.min2]) rfl
theorem max_does {x y v : AV} {a b : Value} {ts : Array TypeId} {ty : TypeId} (h : max2A x y s = .ok v s') (hx : VRel ρ x a) (hy : VRel ρ y b) (hw : WRel ρ s.h w) : Does P s s' ρ w (Builtin.max_ ts ty #[a, b]) (fun ρ r => VRel ρ v r) := by
  obtain ⟨k, m, n, rfl, rfl, h2, rfl⟩ := int2_ok h hx hy
  simp only [Option.some.injEq] at h2
  subst h2
  exact Does.read (Alike.refl _) hw (u := .int k (if m < n then n else m)) (by simp [Builtin.max_, Builtin.max2]) rfl
theorem live_rel {x : AV} {a : Value} (h : liveA x = true) (hx : VRel ρ x a) : (∃ p, a = .pointer (some p)) ∨ (∃ m, a = .map (some m)) ∨ (∃ f x y, a = .func (.func f) x y) ∨ (∃ l x y, a = .func (.yield l) x y) ∨ ∃ t y, a = .iface t y := by
  cases x <;> first | (cases h; done) | skip
  · obtain ⟨p, _, rfl⟩ := hx; exact .inl ⟨_, rfl⟩
  · obtain ⟨p, _, rfl⟩ := hx; exact .inr (.inl ⟨_, rfl⟩)
  · obtain ⟨_, _, rfl, _⟩ := hx; exact .inr (.inr (.inl ⟨_, _, _, rfl⟩))
  · obtain ⟨_, _, rfl⟩ := hx; exact .inr (.inr (.inr (.inl ⟨_, _, _, rfl⟩)))
  · obtain ⟨_, rfl, _⟩ := hx; exact .inr (.inr (.inr (.inr ⟨_, _, rfl⟩)))
theorem bytesOfC_rel : ∀ {cs : List AV} {l : List UInt8} {us : List Value}, bytesOfC cs = some l → CRel ρ cs us → us = l.map byteV
  | [], l, us, h, hr => by
    simp only [bytesOfC, Option.some.injEq] at h
    subst h
    exact CRel.nil_iff.1 hr
  | a :: r, l, us, h, hr => by
    obtain ⟨us1, vs, rfl, h2, h3⟩ := CRel.cons_iff.1 hr
    unfold bytesOfC at h
    cases hb : isB a with
    | none => rw [hb] at h; cases h
    | some p =>
      rw [hb] at h h2
      simp only at h
      cases hbr : bytesOfC r with
      | none => rw [hbr] at h; cases h
      | some x =>
        rw [hbr] at h
        simp only [Option.some.injEq] at h
        subst h
        rw [h2.1, bytesOfC_rel hbr h3, List.map_append]
        rfl
theorem bytes_fold : ∀ (l : List UInt8) (b : ByteArray), (l.map fun c => (c.toNat : Int)).foldl (fun r n => r.push (UInt8.ofNat n.toNat)) b = ⟨b.data ++ l.toArray⟩
  | [], b => by simp
  | c :: r, b => by
    rw [List.map_cons, List.foldl_cons, bytes_fold r]
    have hc : UInt8.ofNat (((c.toNat : Nat) : Int).toNat) = c := by simp
    rw [hc]
    simp [ByteArray.push]
theorem conv_does {E : Env} (hE : EnvOK E P) {src dst : TypeId} {x v : AV} {a : Value} (h : convF E src dst x s = .ok v s') (hx : VRel ρ x a) (hw : WRel ρ s.h w) : Does P s s' ρ w (convert src dst a) (fun ρ r => VRel ρ v r) := by
  unfold convF at h
  obtain ⟨i, hi, h2⟩ := withTy_ok.1 h
  obtain ⟨j, hj, h3⟩ := withTy_ok.1 h2
  have hik := hE.ty _ _ hi
  have hjk := hE.ty _ _ hj
  obtain ⟨ds, hds, hdr⟩ := hik.desc
  cases hk : intD j.desc with
  | some k =>
    rw [hk] at h3
    obtain ⟨p, s1, h4, h5⟩ := M.bind_ok.1 h3
    obtain ⟨hp, rfl⟩ := M.of_ok.1 h4
    obtain ⟨rfl, rfl⟩ := M.pure_ok.1 h5
    obtain rfl := intA_rel hp hx
    refine Does.read (Alike.refl _) hw (u := .int k (k.wrap p.2)) ?_ (by rw [wrapF_eq]; rfl)
    simp [convert, run_underlying hds, run_underlying (hjk.int hk), Conv.intToInt]
  | none =>
    rw [hk] at h3
    simp only at h3
    cases hsd : strD j.desc with
    | false => simp only [hsd, cond_false] at h3; exact (M.fail_ok.1 h3).elim
    | true =>
      simp only [hsd, cond_true] at h3
      cases hss : strD i.desc with
      | true =>
        simp only [hss, cond_true] at h3
        obtain ⟨b, s1, h4, h5⟩ := M.bind_ok.1 h3
        obtain ⟨hb, rfl⟩ := M.of_ok.1 h4
        obtain ⟨rfl, rfl⟩ := M.pure_ok.1 h5
        obtain rfl := strA_rel hb hx
        refine Does.read (Alike.refl _) hw (u := .string b) ?_ rfl
        simp [convert, run_underlying hds, run_underlying (hjk.str hsd)]
      | false =>
        simp only [hss, cond_false] at h3
        cases hsl : sliceD i.desc with
        | none => rw [hsl] at h3; exact (M.fail_ok.1 h3).elim
        | some el =>
          rw [hsl] at h3
          obtain ⟨q, hq, h4⟩ := withTy_ok.1 h3
          have hqk := hE.ty _ _ hq
          cases hqd : intD q.desc with
          | none => rw [hqd] at h4; exact (M.fail_ok.1 h4).elim
          | some kk =>
            cases hs : slA x with
            | none => rw [hqd, hs] at h4; cases kk <;> exact (M.fail_ok.1 h4).elim
            | some sk =>
              rw [hqd, hs] at h4
              cases kk <;> first | (exact (M.fail_ok.1 h4).elim) | skip
              obtain ⟨⟨cs, n⟩, s1, h5, h6⟩ := M.bind_ok.1 h4
              obtain ⟨l, s2, h7, h8⟩ := M.bind_ok.1 h6
              obtain ⟨hl, rfl⟩ := M.of_ok.1 h7
              obtain ⟨rfl, rfl⟩ := M.pure_ok.1 h8
              obtain ⟨g1, us, g2, g3, g4⟩ := cellsM_rel (P := P) h5 hx hw
              have hus := bytesOfC_rel hl g2
              obtain ⟨g5, g6⟩ := g4 w rfl
              have g7 := g6 n (Nat.le_refl _)
              have hfull : (us.toList.take (n * 1)).toArray = us := by rw [← g3, ← Array.length_toList, List.take_length]
              rw [hfull] at g7
              have hsr := slA_rel hs hx
              refine Does.read g1 hw (u := .string ⟨l.toArray⟩) ?_ rfl
              have hu := run_underlying (hik.slice hsl) w
              have hu2 := run_underlying (hjk.str hsd) w
              have hu3 := run_underlying (hqk.int hqd) w
              have hbs : (Conv.bytesToString a).run P w = .ok (.string ⟨l.toArray⟩) w := by
                have some_ : ∀ {ad : Addr} {len c : Nat}, a = .slice (some ad) len c → (Conv.bytesToString a).run P w = .ok (.string ⟨l.toArray⟩) w := by
                  intro ad len c ha
                  subst ha
                  simp only [Builtin.lenOf, Sem.run_pure, Result.ok.injEq, and_true] at g5
                  subst g5
                  simp only [Builtin.firstCells, Nat.mul_one] at g7
                  have hns : us = ((l.map fun c => (c.toNat : Int)).map (Value.int .u8)).toArray := by
                    apply Array.ext'
                    rw [hus, List.map_map]
                    rfl
                  rw [hns] at g7
                  have hb := run_bytesToString (P := P) w ad len c (l.map fun c => (c.toNat : Int)) g7
                  rw [bytes_fold] at hb
                  rw [hb]
                  simp
                obtain _ | _ | ⟨m, off, len, cap, es⟩ := sk
                · obtain rfl : a = .slice none 0 0 := hsr
                  have : us = #[] := by
                    simp only [Builtin.firstCells, Sem.run_pure, Result.ok.injEq, and_true] at g7
                    exact g7.symm
                  rw [this] at hus
                  have hl0 : l = [] := by cases l with | nil => rfl | cons _ _ => cases hus
                  subst hl0
                  rfl
                · obtain ⟨ad, c, ha⟩ := hsr
                  exact some_ ha
                · obtain ⟨p, c, _, ha, _⟩ := hsr
                  exact some_ ha
              obtain ⟨p0, l0, c0, rfl⟩ : ∃ p l c, a = .slice p l c := by
                obtain _ | _ | ⟨m, off, len, cap, es⟩ := sk
                · exact ⟨_, _, _, hsr⟩
                · obtain ⟨ad, c, ha⟩ := hsr; exact ⟨_, _, _, ha⟩
                · obtain ⟨p, c, _, ha, _⟩ := hsr; exact ⟨_, _, _, ha⟩
              simp [convert, hu, hu2, hu3, hbs]
end
end Go.Proofs.YtceocfeckipihaaGreatDoor.Vm
