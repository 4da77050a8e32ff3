/-
  Texts of this claim, joined: VG, VH, VI, VJ, VK, VL.
-/
import Derived.IntWalk
import Derived.Room.Entries
import Derived.Test.YtdbgppknggaooaaGreatDoorBk05
set_option maxHeartbeats 6400000
set_option maxRecDepth 100000
namespace Go.Proofs.YtdbgppknggaooaaGreatDoor.Vm
open Go
section
variable {P : Program} {s s' s1 : St} {ρ ρ' : Ren} {w w' : World} {t e : TypeId} {i j : TyI}
theorem TyOK.sizeOf (hi : TyOK P t i) (w : World) : (sizeOf t).run P w = .ok i.size w := by
  obtain ⟨inf, d, z, h1, h2, h3, _⟩ := hi
  simp [Go.sizeOf, Go.typeInfo, run_program, h1, h3]
theorem TyOK.zeroValue (hi : TyOK P t i) : ∃ z, (∀ w, (zeroValue t).run P w = .ok z w) ∧ (∀ ρ, VRel ρ i.zero z) ∧ (∀ ρ, CRel ρ i.zc z.cells.toList) ∧ z.cells.size = i.size := by
  obtain ⟨inf, d, z, h1, h2, h3, h4, h5, h6, h7, _, _, _, h8⟩ := hi
  exact ⟨z, fun w => by simp [Go.zeroValue, Go.typeInfo, run_program, h1, h5], h6, h7, h8⟩
theorem TyOK.und (hi : TyOK P t i) : ∃ d, P.underlying t = some d ∧ (∀ w, (underlying t).run P w = .ok d w) ∧ DescR P i.desc d ∧ i.agg = d.isRow := by
  obtain ⟨inf, d, z, h1, h2, h3, h4, h5, h6, h7, h8, h9, _⟩ := hi
  exact ⟨d, h2, run_underlying h2, h8, h9⟩
theorem TyOK.isAgg (hi : TyOK P t i) (w : World) : (isAgg t).run P w = .ok i.agg w := by
  obtain ⟨d, _, h1, _, h3⟩ := hi.und
  unfold Go.isAgg
  rw [Sem.run_bind, h1 w, h3]
  cases d <;> rfl
theorem TyOK.slice (hi : TyOK P t i) (h : sliceD i.desc = some e) : P.underlying t = some (.slice e) := by
  obtain ⟨d, h0, _, h2, _⟩ := hi.und
  rw [h0]
  cases hd : i.desc <;> rw [hd] at h h2 <;> simp only [sliceD, Option.some.injEq, reduceCtorEq] at h
  subst h
  rw [show d = _ from h2]
theorem TyOK.arr {q : Nat × TypeId} (hi : TyOK P t i) (h : arrD i.desc = some q) : P.underlying t = some (.array q.1 q.2) := by
  obtain ⟨d, h0, _, h2, _⟩ := hi.und
  rw [h0]
  cases hd : i.desc <;> rw [hd] at h h2 <;> simp only [arrD, Option.some.injEq, reduceCtorEq] at h
  subst h
  rw [show d = _ from h2]
theorem TyOK.map {q : TypeId × TypeId} (hi : TyOK P t i) (h : mapD i.desc = some q) : P.underlying t = some (.map q.1 q.2) := by
  obtain ⟨d, h0, _, h2, _⟩ := hi.und
  rw [h0]
  cases hd : i.desc <;> rw [hd] at h h2 <;> simp only [mapD, Option.some.injEq, reduceCtorEq] at h
  subst h
  rw [show d = _ from h2]
theorem TyOK.int {k : IntKind} (hi : TyOK P t i) (h : intD i.desc = some k) : P.underlying t = some (.int k) := by
  obtain ⟨d, h0, _, h2, _⟩ := hi.und
  rw [h0]
  cases hd : i.desc <;> rw [hd] at h h2 <;> simp only [intD, Option.some.injEq, reduceCtorEq] at h
  subst h
  rw [show d = _ from h2]
theorem TyOK.str (hi : TyOK P t i) (h : strD i.desc = true) : P.underlying t = some .string := by
  obtain ⟨d, h0, _, h2, _⟩ := hi.und
  rw [h0]
  cases hd : i.desc <;> rw [hd] at h h2 <;> simp only [strD, Bool.false_eq_true] at h
  rw [show d = _ from h2]
theorem TyOK.struct {fs : List (Nat × TypeId)} (hi : TyOK P t i) (h : fieldsD i.desc = some fs) : ∃ l : Array Field, P.underlying t = some (.struct l) ∧ l.toList.map (fun f => (f.offset, f.type)) = fs ∧ l.toList.all (fun f => (P.info? f.type).isSome) = true := by
  obtain ⟨d, h0, _, h2, _⟩ := hi.und
  rw [h0]
  cases hd : i.desc <;> rw [hd] at h h2 <;> simp only [fieldsD, Option.some.injEq, reduceCtorEq] at h
  subst h
  obtain ⟨l, rfl, h3⟩ := h2
  exact ⟨l, rfl, h3⟩
theorem alloc_does {n : Nat} (hi : TyOK P e i) (h : newM (.row e i.zc) s = .ok n s') (hw : WRel ρ s.h w) : Does P s s' ρ w (Instr.alloc e true (.tuple #[])) (fun ρ u => VRel ρ (.ptr n 0) u) := by
  obtain ⟨z, h1, _, h3, _⟩ := hi.zeroValue
  intro hf
  obtain ⟨ρ', w', a, r1, ⟨b, r2, rfl⟩, r3, r4⟩ := newRow_does (P := P) h (h3 ρ) hw hf
  exact ⟨ρ', w', .pointer (some ⟨b, 0, none⟩), by simp [Instr.alloc, newVar, h1, r1], ⟨_, r2, rfl⟩, r3, r4⟩
theorem box_does {n : Nat} {v : AV} {u : Value} {cs : List AV} (hc : cellsO v = some cs) (h : newM (.row e cs) s = .ok n s') (hv : VRel ρ v u) (hw : WRel ρ s.h w) : Does P s s' ρ w (Instr.box e u) (fun ρ u => VRel ρ (.ptr n 0) u) := by
  intro hf
  obtain ⟨ρ', w', a, r1, ⟨b, r2, rfl⟩, r3, r4⟩ := newRow_does (P := P) h (cellsO_rel hc hv) hw hf
  exact ⟨ρ', w', .pointer (some ⟨b, 0, none⟩), by simp [Instr.box, newVar, r1], ⟨_, r2, rfl⟩, r3, r4⟩
theorem fields_at {l : Array Field} {fs : List (Nat × TypeId)} {f : Nat} {q : Nat × TypeId} (h : l.toList.map (fun f => (f.offset, f.type)) = fs) (hq : fs[f]? = some q) : ∃ fld, l[f]? = some fld ∧ fld.offset = q.1 ∧ fld.type = q.2 := by
  subst h
  rw [List.getElem?_map] at hq
  obtain ⟨fld, h1, h2⟩ := Option.map_eq_some_iff.1 hq
  exact ⟨fld, by simpa using h1, by rw [← h2], by rw [← h2]⟩
theorem fieldAddr_does {E : Env} (hE : EnvOK E P) {f : Nat} {x v : AV} {u : Value} (hi : TyOK P t i) (h : fieldAddrM E i f x s = .ok v s') (hx : VRel ρ x u) (hw : WRel ρ s.h w) : Does P s s' ρ w (Instr.fieldAt t u f) (fun ρ r => VRel ρ v r) := by
  unfold fieldAddrM at h
  cases hf : fieldsD i.desc with
  | none => rw [hf] at h; exact (M.fail_ok.1 h).elim
  | some fs =>
    rw [hf] at h
    simp only at h
    cases hq : fs[f]? with
    | none => rw [hq] at h; exact (M.fail_ok.1 h).elim
    | some q =>
      rw [hq] at h
      obtain ⟨j, hj, h2⟩ := withTy_ok.1 h
      cases hz : Nat.beq j.size 0 with
      | true => rw [bif_true _ _ hz] at h2; exact (M.fail_ok.1 h2).elim
      | false =>
        rw [bif_false _ _ hz] at h2
        obtain ⟨p, s1, h3, h4⟩ := M.bind_ok.1 h2
        obtain ⟨hp, rfl⟩ := M.of_ok.1 h3
        obtain ⟨rfl, rfl⟩ := M.pure_ok.1 h4
        obtain ⟨b, hb, rfl⟩ := addrA_rel hp hx
        obtain ⟨l, h5, h6, _⟩ := hi.struct hf
        obtain ⟨fld, h7, h8, h9⟩ := fields_at h6 hq
        have hsz := (hE.ty _ _ hj).sizeOf
        have hne : j.size ≠ 0 := fun e => by rw [beq_true.2 e] at hz; cases hz
        refine Does.read (Alike.refl _) hw (u := .pointer (some ⟨b.1, b.2.1 + p.2 + q.1, none⟩)) ?_ ?_
        · simp [Instr.fieldAt, run_underlying h5, h7, Instr.sureAddr, fieldPlace, h9, hsz, hne, h8, add_plain]
        · rw [forceN_eq]
          exact ⟨b, hb, by rw [Nat.add_assoc]; rfl⟩
theorem indexAddr_does {E : Env} (hE : EnvOK E P) {x ix v : AV} {u y : Value} (hi : TyOK P t i) (h : indexAddrM E i x ix s = .ok v s') (hx : VRel ρ x u) (hy : VRel ρ ix y) (hw : WRel ρ s.h w) : Does P s s' ρ w (Instr.indexAt t u y) (fun ρ r => VRel ρ v r) := by
  unfold indexAddrM at h
  replace h := M.bind_ok.1 h
  obtain ⟨k, s1, h1, h⟩ := h
  obtain ⟨hk, rfl⟩ := M.of_ok.1 h1
  obtain ⟨kk, rfl⟩ := natA_rel hk hy
  cases hd : sliceD i.desc with
  | some e =>
    rw [hd] at h
    obtain ⟨j, hj, h2⟩ := withTy_ok.1 h
    cases hs : slA x with
    | none => rw [hs] at h2; exact (M.fail_ok.1 h2).elim
    | some sk =>
      rw [hs] at h2
      cases sk with
      | nil => exact (M.fail_ok.1 h2).elim
      | empty => exact (M.fail_ok.1 h2).elim
      | some sv =>
        obtain ⟨n, off, len, cap, es⟩ := sv
        simp only at h2
        cases hc : (Nat.blt k len && Nat.beq j.size es) with
        | false => rw [bif_false _ _ hc] at h2; exact (M.fail_ok.1 h2).elim
        | true =>
          rw [bif_true _ _ hc] at h2
          obtain ⟨rfl, rfl⟩ := M.pure_ok.1 h2
          rw [Bool.and_eq_true] at hc
          have hlt := blt_true.1 hc.1
          have hsz := beq_true.1 hc.2
          obtain ⟨p, c, hp, rfl, hlc, _⟩ := slA_rel hs hx
          refine Does.read (Alike.refl _) hw (u := .pointer (some ⟨p.1, p.2.1 + off + k * es, none⟩)) ?_ ?_
          · simp [Instr.indexAt, asIntOf, run_underlying (hi.slice hd), (hE.ty _ _ hj).sizeOf, hsz, add_plain, hlt]
          · rw [forceN_eq]
            exact ⟨p, hp, by rw [Nat.add_assoc]; rfl⟩
  | none =>
    rw [hd] at h
    simp only at h
    cases ha : arrD i.desc with
    | none => rw [ha] at h; exact (M.fail_ok.1 h).elim
    | some q =>
      rw [ha] at h
      obtain ⟨j, hj, h2⟩ := withTy_ok.1 h
      obtain ⟨p, s2, h3, h4⟩ := M.bind_ok.1 h2
      obtain ⟨hp, rfl⟩ := M.of_ok.1 h3
      cases hc : Nat.blt k q.1 with
      | false => rw [bif_false _ _ hc] at h4; exact (M.fail_ok.1 h4).elim
      | true =>
        rw [bif_true _ _ hc] at h4
        obtain ⟨rfl, rfl⟩ := M.pure_ok.1 h4
        have hlt := blt_true.1 hc
        obtain ⟨b, hb, rfl⟩ := addrA_rel hp hx
        refine Does.read (Alike.refl _) hw (u := .pointer (some ⟨b.1, b.2.1 + p.2 + k * j.size, none⟩)) ?_ ?_
        · simp [Instr.indexAt, asIntOf, run_underlying (hi.arr ha), Instr.sureAddr, (hE.ty _ _ hj).sizeOf, add_plain, hlt]
        · rw [forceN_eq]
          exact ⟨b, hb, by rw [Nat.add_assoc]; rfl⟩
theorem part_val {cs l : List AV} {off : Nat} {v : AV} {xs : Array Value} (hj : TyOK P t j) (hl : loadC cs off j.size = some l) (hv : partA j.agg l s = .ok v s') (hc : CRel ρ cs xs.toList) :
    s' = s ∧ ∃ u, (part t xs off).run P w = .ok u w ∧ VRel ρ v u := by
  obtain ⟨f1, f2⟩ := loadC_rel hl hc
  have hag := hj.isAgg w
  have hsz := hj.sizeOf w
  have he : (xs.extract off (off + j.size)).toList = (xs.toList.drop off).take j.size := by
    rw [Array.toList_extract, List.extract_eq_take_drop, Nat.add_sub_cancel_left]
  rw [← he] at f1
  cases ha : j.agg with
  | true =>
    rw [ha] at hv hag
    simp only [partA, Rs.ok.injEq] at hv
    obtain ⟨rfl, rfl⟩ := hv
    exact ⟨rfl, _, by simp only [part, Sem.run_bind, hag, hsz, Result.andThen_ok, if_true, Sem.run_pure], _, rfl, f1⟩
  | false =>
    rw [ha] at hv hag
    obtain ⟨h10, rfl⟩ := M.of_ok.1 hv
    obtain ⟨u, h11, hu⟩ := oneA_rel h10 f1
    have hg : xs[off]? = some u := by
      have := congrArg (fun l => l[0]?) h11
      simp only [he, List.getElem?_cons_zero] at this
      rw [List.getElem?_take] at this
      split at this
      · rwa [List.getElem?_drop, Nat.add_zero, Array.getElem?_toList] at this
      · cases this
    exact ⟨rfl, u, by simp only [part, Sem.run_bind, hag, Result.andThen_ok, Bool.false_eq_true, if_false, hg, Sem.run_pure], hu⟩
theorem field_does {E : Env} (hE : EnvOK E P) {f : Nat} {x v : AV} {u : Value} (hi : TyOK P t i) (h : fieldM E i f x s = .ok v s') (hx : VRel ρ x u) (hw : WRel ρ s.h w) : Does P s s' ρ w (Instr.field t u f) (fun ρ r => VRel ρ v r) := by
  unfold fieldM at h
  cases hf : fieldsD i.desc with
  | none => rw [hf] at h; exact (M.fail_ok.1 h).elim
  | some fs =>
    rw [hf] at h
    simp only at h
    cases hq : fs[f]? with
    | none => rw [hq] at h; exact (M.fail_ok.1 h).elim
    | some q =>
      rw [hq] at h
      obtain ⟨j, hj, h2⟩ := withTy_ok.1 h
      obtain ⟨cs, s1, h3, h4⟩ := M.bind_ok.1 h2
      obtain ⟨hcs, rfl⟩ := M.of_ok.1 h3
      obtain ⟨l, s2, h5, h6⟩ := M.bind_ok.1 h4
      obtain ⟨hl, rfl⟩ := M.of_ok.1 h5
      obtain ⟨xs, rfl, hc⟩ := aggA_rel hcs hx
      obtain ⟨al, a1, a2, _⟩ := hi.struct hf
      obtain ⟨fld, a3, a4, a5⟩ := fields_at a2 hq
      obtain ⟨rfl, r, hr1, hr2⟩ := part_val (w := w) (hE.ty _ _ hj) hl h6 hc
      refine Does.read (Alike.refl _) hw ?_ hr2
      simp [Instr.field, run_underlying a1, a3, asAgg, a4, a5, hr1]
theorem extract_does {T v : AV} {vs : List AV} {k : Nat} {u : Value} (h : tupA T = some vs) (hv : vs[k]? = some v) (hx : VRel ρ T u) (hw : WRel ρ s.h w) : Does P s s ρ w (Instr.extract u k) (fun ρ r => VRel ρ v r) := by
  obtain ⟨x, rfl, hl⟩ := tupA_rel h hx
  obtain ⟨r, h1, h2⟩ := hl.get hv
  refine Does.read (Alike.refl _) hw ?_ h2
  rw [Array.getElem?_toList] at h1
  simp [Instr.extract, h1]
theorem str_get (b : ByteArray) (k : Nat) (x : UInt8) (h : b.toList[k]? = some x) : b[k]? = some x := by
  rw [ByteArray.toList_eq] at h
  obtain ⟨hk, he⟩ := List.getElem?_eq_some_iff.1 h
  have hs : k < b.size := by simpa using hk
  rw [getElem?_pos b k hs]
  congr 1
theorem index_does {E : Env} (hE : EnvOK E P) {x ix v : AV} {u y : Value} (hi : TyOK P t i) (h : indexM E i x ix s = .ok v s') (hx : VRel ρ x u) (hy : VRel ρ ix y) (hw : WRel ρ s.h w) : Does P s s' ρ w (Instr.index t u y) (fun ρ r => VRel ρ v r) := by
  unfold indexM at h
  replace h := M.bind_ok.1 h
  obtain ⟨k, s1, h1, h⟩ := h
  obtain ⟨hk, rfl⟩ := M.of_ok.1 h1
  obtain ⟨kk, rfl⟩ := natA_rel hk hy
  cases ha : arrD i.desc with
  | some q =>
    rw [ha] at h
    obtain ⟨j, hj, h2⟩ := withTy_ok.1 h
    obtain ⟨cs, s2, h3, h4⟩ := M.bind_ok.1 h2
    obtain ⟨hcs, rfl⟩ := M.of_ok.1 h3
    cases hc : Nat.blt k q.1 with
    | false => rw [bif_false _ _ hc] at h4; exact (M.fail_ok.1 h4).elim
    | true =>
      rw [bif_true _ _ hc] at h4
      obtain ⟨l, s3, h5, h6⟩ := M.bind_ok.1 h4
      obtain ⟨hl, rfl⟩ := M.of_ok.1 h5
      have hlt := blt_true.1 hc
      obtain ⟨xs, rfl, hr⟩ := aggA_rel hcs hx
      obtain ⟨rfl, r, hr1, hr2⟩ := part_val (w := w) (hE.ty _ _ hj) hl h6 hr
      refine Does.read (Alike.refl _) hw ?_ hr2
      have hr1' : (part q.2 xs (k * j.size)).run P w = .ok r w := hr1
      simp [Instr.index, asIntOf, run_underlying (hi.arr ha), (hE.ty _ _ hj).sizeOf, hlt, hr1']
  | none =>
    rw [ha] at h
    cases hs : strD i.desc with
    | false => simp only [hs, cond_false] at h; exact (M.fail_ok.1 h).elim
    | true =>
      simp only [hs, cond_true] at h
      obtain ⟨b, s2, h3, h4⟩ := M.bind_ok.1 h
      obtain ⟨hb, rfl⟩ := M.of_ok.1 h3
      obtain rfl := strA_rel hb hx
      cases hc : b.toList[k]? with
      | some c =>
        rw [hc] at h4
        obtain ⟨rfl, rfl⟩ := M.pure_ok.1 h4
        refine Does.read (Alike.refl _) hw (u := .int .u8 (c.toNat : Int)) ?_ rfl
        have := str_get b k c hc
        simp [Instr.index, asIntOf, run_underlying (hi.str hs), this]
      | none => rw [hc] at h4; exact (M.fail_ok.1 h4).elim
end
end Go.Proofs.YtdbgppknggaooaaGreatDoor.Vm
namespace Go.Proofs.YtdbgppknggaooaaGreatDoor.Vm
open Go
section
variable {P : Program} {s s' s1 : St} {ρ ρ' : Ren} {w w' : World} {t e : TypeId} {i j : TyI}
def PRel (ρ : Ren) : List (Nat × AV) → List (Nat × Value) → Prop
  | [], l => l = []
  | x :: r, l => ∃ v l', l = (x.1, v) :: l' ∧ VRel ρ x.2 v ∧ PRel ρ r l'
theorem rdsP_rel {T : Tr AV} {n : Nat} {a : Act} (hT : TRel ρ T n a.tmps) : ∀ {l : List (Nat × Operand)} {vs : List (Nat × AV)} {s s' : St}, rdsP T (opdsP l) s = .ok vs s' → s' = s ∧ PRel ρ vs (l.map fun x => (x.1, a.eval x.2))
  | [], vs, s, s', h => by
    obtain ⟨rfl, rfl⟩ := M.pure_ok.1 h
    exact ⟨rfl, rfl⟩
  | x :: r, vs, s, s', h => by
    unfold opdsP rdsP at h
    obtain ⟨v, s1, h1, h2⟩ := M.bind_ok.1 h
    obtain ⟨vs', s2, h3, h4⟩ := M.bind_ok.1 h2
    obtain ⟨rfl, rfl⟩ := M.pure_ok.1 h4
    obtain ⟨rfl, g1⟩ := rd_rel h1 hT
    obtain ⟨rfl, g2⟩ := rdsP_rel hT h3
    exact ⟨rfl, _, _, rfl, g1, g2⟩
theorem foldl_set (off : Nat) : ∀ (us : List Value) (k : Nat) (xs : Array Value), off + k + us.length ≤ xs.size →
    ((us.zipIdx k).foldl (fun cs (c : Value × Nat) => cs.setIfInBounds (off + c.2) c.1) xs).toList = xs.toList.take (off + k) ++ (us ++ xs.toList.drop (off + k + us.length))
  | [], k, xs, h => by simp
  | v :: r, k, xs, h => by
    rw [List.length_cons] at h
    rw [List.zipIdx_cons, List.foldl_cons, foldl_set off r (k + 1) _ (by rw [Array.size_setIfInBounds]; omega)]
    simp only [Array.toList_setIfInBounds, List.length_cons]
    have ho : off + k < xs.toList.length := by simpa using (by omega : off + k < xs.size)
    rw [show off + (k + 1) = off + k + 1 by omega, List.take_set, List.drop_set_of_lt (by omega), List.take_succ_eq_append_getElem ho, List.set_append_right _ _ (by rw [List.length_take]; omega)]
    simp only [List.length_take, Nat.min_eq_left (Nat.le_of_lt ho), Nat.sub_self, List.set_cons_zero, List.append_assoc, List.cons_append, List.nil_append]
    rw [show off + k + 1 + r.length = off + k + (r.length + 1) by omega]
theorem fill_rel {place place' : Nat → Option (Nat × Nat)} (hp : ∀ i p, place i = some p → place' i = some p) : ∀ {parts : List (Nat × AV)} {cs cs' : List AV} {xs : Array Value} {ps : List (Nat × Value)},
    fillA place cs parts = some cs' → CRel ρ cs xs.toList → PRel ρ parts ps → ∃ ys, Instr.fill place' xs ps = some ys ∧ CRel ρ cs' ys.toList
  | [], cs, cs', xs, ps, h, hc, hr => by
    simp only [fillA, Option.some.injEq] at h
    subst h
    rw [show ps = [] from hr]
    exact ⟨xs, rfl, hc⟩
  | x :: r, cs, cs', xs, ps, h, hc, hr => by
    obtain ⟨v, l', rfl, h2, h3⟩ := hr
    unfold fillA at h
    cases hpl : place x.1 with
    | none => rw [hpl] at h; cases h
    | some p =>
      rw [hpl] at h
      simp only at h
      cases hco : cellsO x.2 with
      | none => rw [hco] at h; cases h
      | some new =>
        rw [hco] at h
        simp only at h
        cases hb : Nat.beq (lenC new) p.2 with
        | false => rw [bif_false _ _ hb] at h; cases h
        | true =>
          rw [bif_true _ _ hb] at h
          cases hst : storeC cs p.1 p.2 new with
          | none => rw [hst] at h; cases h
          | some cs2 =>
            rw [hst] at h
            simp only at h
            have hcv := cellsO_rel hco h2
            have hlen : v.cells.size = p.2 := by rw [← Array.length_toList, CRel.length _ hcv, beq_true.1 hb]
            obtain ⟨f1, f2⟩ := storeC_rel hst hc hcv
            rw [Array.length_toList] at f2
            have hfold := foldl_set p.1 v.cells.toList 0 xs (by rw [Array.length_toList, hlen]; omega)
            rw [Nat.add_zero, Array.length_toList, hlen] at hfold
            rw [← hfold] at f1
            obtain ⟨ys, g1, g2⟩ := fill_rel hp h f1 h3
            refine ⟨ys, ?_, g2⟩
            rw [Instr.fill, hp _ _ hpl]
            simp only [hlen]
            have e1 : (decide (p.2 ≠ p.2) || decide (p.1 + p.2 > xs.size)) = false := by simp; omega
            rw [if_neg (by rw [e1]; exact Bool.false_ne_true)]
            rw [← Array.foldl_toList, Array.toList_zipIdx]
            exact g1
theorem mapM_run {α β : Type} {f : α → Sem β} {g : α → β} (w : World) : ∀ (l : List α), (∀ x ∈ l, (f x).run P w = .ok (g x) w) → (l.mapM f).run P w = .ok (l.map g) w
  | [], _ => by simp
  | x :: r, h => by
    have h1 := h x List.mem_cons_self
    have h2 := mapM_run w r (fun y hy => h y (List.mem_cons_of_mem _ hy))
    simp [List.mapM_cons, h1, h2]
theorem build_does {E : Env} (hE : EnvOK E P) {parts : List (Nat × AV)} {ps : Array (Nat × Value)} {v : AV} (hi : TyOK P t i) (h : buildM E i parts s = .ok v s') (hr : PRel ρ parts ps.toList) (hw : WRel ρ s.h w) : Does P s s' ρ w (Instr.build t ps) (fun ρ r => VRel ρ v r) := by
  obtain ⟨z, z1, _, z3, z4⟩ := hi.zeroValue
  unfold buildM at h
  cases hf : fieldsD i.desc with
  | some fs =>
    rw [hf] at h
    obtain ⟨cs, s1, h1, h2⟩ := M.bind_ok.1 h
    obtain ⟨hfil, rfl⟩ := M.of_ok.1 h1
    obtain ⟨rfl, rfl⟩ := M.pure_ok.1 h2
    obtain ⟨l, a1, a2, a3⟩ := hi.struct hf
    let sz : Field → Nat × Nat := fun f => (f.offset, ((P.info? f.type).map (·.size)).getD 0)
    have hm : ∀ w, (l.mapM fun f : Field => Prod.mk f.offset <$> Go.sizeOf f.type).run P w = .ok (l.map sz) w := by
      intro w
      have := mapM_run (P := P) (f := fun f : Field => Prod.mk f.offset <$> Go.sizeOf f.type) (g := sz) w l.toList (fun f hf => by
        have := List.all_eq_true.1 a3 f hf
        obtain ⟨q, hq⟩ := Option.isSome_iff_exists.1 this
        simp [Go.sizeOf, Go.typeInfo, run_program, hq, sz])
      rw [Array.mapM_eq_mapM_toList, Sem.run_map, this]
      simp only [Result.andThen_ok]
      congr 1
      exact Array.ext' (by simp)
    obtain ⟨ys, g1, g2⟩ := fill_rel (place' := fun k => Option.map sz l[k]?) (by
      intro k p hp
      unfold placeS at hp
      cases hk : fs[k]? with
      | none => rw [hk] at hp; cases hp
      | some q =>
        rw [hk] at hp
        simp only at hp
        cases hj : E.ty.get q.2 with
        | none => rw [hj] at hp; cases hp
        | some j =>
          rw [hj] at hp
          simp only [Option.some.injEq] at hp
          subst hp
          obtain ⟨fld, b1, b2, b3⟩ := fields_at a2 hk
          obtain ⟨inf, d, zz, c1, c2, c3, _⟩ := hE.ty _ _ hj
          simp [b1, sz, b2, b3, c1, c3]) hfil (z3 ρ) hr
    refine Does.read (Alike.refl _) hw (u := .agg ys) ?_ ⟨ys, rfl, g2⟩
    simp [Instr.build, z1, run_underlying a1, hm, g1]
  | none =>
    rw [hf] at h
    simp only at h
    cases ha : arrD i.desc with
    | none => rw [ha] at h; exact (M.fail_ok.1 h).elim
    | some q =>
      rw [ha] at h
      obtain ⟨j, hj, h2⟩ := withTy_ok.1 h
      obtain ⟨cs, s1, h3, h4⟩ := M.bind_ok.1 h2
      obtain ⟨hfil, rfl⟩ := M.of_ok.1 h3
      obtain ⟨rfl, rfl⟩ := M.pure_ok.1 h4
      obtain ⟨ys, g1, g2⟩ := fill_rel (place' := fun k => some (k * j.size, j.size)) (fun k p hp => hp) hfil (z3 ρ) hr
      refine Does.read (Alike.refl _) hw (u := .agg ys) ?_ ⟨ys, rfl, g2⟩
      simp [Instr.build, z1, run_underlying (hi.arr ha), (hE.ty _ _ hj).sizeOf, g1]
theorem rep_cells (z : Array Value) : ∀ n : Nat, ((Array.range (n * z.size)).map (fun i => z[i % z.size]!)).toList = (List.replicate n z.toList).flatten
  | 0 => by simp
  | n + 1 => by
    rw [List.replicate_succ', List.flatten_append, ← rep_cells z n]
    simp only [Array.toList_map, Array.toList_range, List.flatten_cons, List.flatten_nil, List.append_nil]
    rw [Nat.add_mul, Nat.one_mul, List.range_add, List.map_append]
    congr 1
    rw [List.map_map]
    apply List.ext_getElem (by simp)
    intro k h1 h2
    have hk : k < z.size := by simpa using h2
    simp only [List.getElem_map, List.getElem_range, Function.comp_apply]
    rw [Nat.mul_add_mod_of_lt' hk]
    simp [hk]
where
  Nat.mul_add_mod_of_lt' {n m k : Nat} (h : k < m) : (n * m + k) % m = k := by
    rw [Nat.mul_comm, Nat.mul_add_mod, Nat.mod_eq_of_lt h]
theorem zerosA_rel {z : List AV} {us : List Value} (h : CRel ρ z us) : ∀ n, CRel ρ (zerosA z n) (List.replicate n us).flatten
  | 0 => CRel.nil
  | n + 1 => by
    rw [List.replicate_succ, List.flatten_cons]
    exact joinC_rel z h (zerosA_rel h n)
theorem buildSlice_does {E : Env} (hE : EnvOK E P) {parts : List (Nat × AV)} {ps : Array (Nat × Value)} {v : AV} {len : Nat} (hi : TyOK P t i) (h : buildSliceM E i len parts s = .ok v s') (hr : PRel ρ parts ps.toList) (hw : WRel ρ s.h w) : Does P s s' ρ w (Instr.buildSlice t len ps) (fun ρ r => VRel ρ v r) := by
  unfold buildSliceM at h
  cases hd : sliceD i.desc with
  | none => rw [hd] at h; exact (M.fail_ok.1 h).elim
  | some e =>
    rw [hd] at h
    obtain ⟨j, hj, h2⟩ := withTy_ok.1 h
    have hjk := hE.ty _ _ hj
    obtain ⟨z, z1, _, z3, z4⟩ := hjk.zeroValue
    cases hc : (Nat.ble (Nat.mul len j.size) 100000 && !(Nat.beq j.size 0)) with
    | false => rw [bif_false _ _ hc] at h2; exact (M.fail_ok.1 h2).elim
    | true =>
      rw [bif_true _ _ hc] at h2
      rw [Bool.and_eq_true] at hc
      have hle := ble_true.1 hc.1
      have hne : j.size ≠ 0 := fun e => by rw [beq_true.2 e] at hc; exact absurd hc.2 (by decide)
      obtain ⟨cs, s1, h3, h4⟩ := M.bind_ok.1 h2
      obtain ⟨hfil, rfl⟩ := M.of_ok.1 h3
      obtain ⟨n, s2, h5, h6⟩ := M.bind_ok.1 h4
      obtain ⟨rfl, rfl⟩ := M.pure_ok.1 h6
      have hzs : CRel ρ (zerosA j.zc len) ((Array.range (len * z.cells.size)).map (fun i => z.cells[i % z.cells.size]!)).toList := by
        rw [rep_cells]
        exact zerosA_rel (z3 ρ) len
      rw [z4] at hzs
      obtain ⟨ys, g1, g2⟩ := fill_rel (place' := fun k => some (k * j.size, j.size)) (fun k p hp => hp) hfil hzs hr
      intro hf
      obtain ⟨ρ', w', a, r1, ⟨b, r2, rfl⟩, r3, r4⟩ := newRow_does (P := P) h5 g2 hw hf
      refine ⟨ρ', w', .slice (some ⟨b, 0, none⟩) len len, ?_, ⟨_, len, r2, rfl, Nat.le_refl _, rfl⟩, r3, r4⟩
      have h24 : ¬ (len * j.size > 2 ^ 24) := by
        have : len * j.size ≤ 100000 := hle
        omega
      by_cases h0 : len * j.size = 0
      · have hl0 : len = 0 := by
          rcases Nat.mul_eq_zero.1 h0 with h | h
          · exact h
          · exact absurd h hne
        subst hl0
        have e0 : ∀ f : Nat → Value, Array.map f (Array.range 0) = #[] := fun f => Array.ext' (by simp)
        rw [Nat.zero_mul, e0] at g1
        simp [Instr.buildSlice, run_underlying (hi.slice hd), hjk.sizeOf, e0, g1, r1]
      · simp [Instr.buildSlice, run_underlying (hi.slice hd), hjk.sizeOf, h24, h0, z1, z4, g1, r1]
end
end Go.Proofs.YtdbgppknggaooaaGreatDoor.Vm
namespace Go.Proofs.YtdbgppknggaooaaGreatDoor.Vm
open Go
section
variable {P : Program} {s s' s1 : St} {ρ ρ' : Ren} {w w' : World} {t e : TypeId} {i j : TyI}
theorem makeSlice_does {E : Env} (hE : EnvOK E P) {l c v : AV} {u x : Value} (hi : TyOK P t i) (h : makeSliceM E i l c s = .ok v s') (hl : VRel ρ l u) (hc : VRel ρ c x) (hw : WRel ρ s.h w) : Does P s s' ρ w (Instr.makeSlice t u x) (fun ρ r => VRel ρ v r) := by
  unfold makeSliceM at h
  cases hd : sliceD i.desc with
  | none => rw [hd] at h; exact (M.fail_ok.1 h).elim
  | some e =>
    rw [hd] at h
    obtain ⟨j, hj, h2⟩ := withTy_ok.1 h
    have hjk := hE.ty _ _ hj
    obtain ⟨a, s1, h3, h4⟩ := M.bind_ok.1 h2
    obtain ⟨ha, rfl⟩ := M.of_ok.1 h3
    obtain ⟨b, s2, h5, h6⟩ := M.bind_ok.1 h4
    obtain ⟨hb, rfl⟩ := M.of_ok.1 h5
    obtain ⟨ka, rfl⟩ := natA_rel ha hl
    obtain ⟨kb, rfl⟩ := natA_rel hb hc
    cases hq : (Nat.ble a b && Nat.ble b 100000 && Nat.ble (Nat.mul j.bytes b) 100000000 && !(Nat.beq j.size 0)) with
    | false => rw [bif_false _ _ hq] at h6; exact (M.fail_ok.1 h6).elim
    | true =>
      rw [bif_true _ _ hq] at h6
      rw [Bool.and_eq_true, Bool.and_eq_true, Bool.and_eq_true] at hq
      have q1 := ble_true.1 hq.1.1.1
      have q2 := ble_true.1 hq.1.1.2
      have q3 : j.bytes * b ≤ 100000000 := ble_true.1 hq.1.2
      obtain ⟨n, s3, h7, h8⟩ := M.bind_ok.1 h6
      obtain ⟨rfl, rfl⟩ := M.pure_ok.1 h8
      obtain ⟨rfl, hs'⟩ := newM_ok.1 h7
      intro hf
      have hfr : ρ s2.c = none := hf s2.c (Nat.le_refl _) (by rw [hs']; exact Nat.lt_succ_self _)
      obtain ⟨inf, d, z, i1, i2, i3, i4, i5, i6, i7, i8, i9, i10, i11⟩ := hjk
      have hrun := run_make_rowN (P := P) t e inf z (hi.slice hd) i1 i5 ka kb a b q1 (by rw [i4]; omega) (by omega) w
      have hz : CRel ρ (zerosA j.zc b) (madeCells z.cells (b * inf.size)).toList := by
        unfold madeCells
        rw [i3, ← i11, rep_cells]
        exact zerosA_rel (i7 ρ) b
      have hsz : (madeCells z.cells (b * inf.size)).size = b * j.size := by unfold madeCells; simp [i3]
      have := new_rel (s' := s') (o := .row e (zerosA j.zc b)) (ob := .cells (madeCells z.cells (b * inf.size)) e (0, 0)) (κ := b * j.size) hw hfr (by rw [hs']; rfl) (by rw [hs']; rfl)
        ⟨_, _, [], rfl, by simp [hsz], by simp, CRel.mono (Ren.put_le hfr _) _ _ hz⟩
      exact ⟨_, _, _, hrun, ⟨_, b, Ren.put_same _ _ _, rfl, q1, rfl⟩, this.1, this.2⟩
def ORelO (ρ : Ren) (a : Option AV) (v : Option Value) : Prop :=
  match a, v with
  | none, none => True
  | some a, some v => VRel ρ a v
  | _, _ => False
theorem bound1_rel {a : Option AV} {v : Option Value} {d most n : Nat} (h : bound1 a d most = some n) (hr : ORelO ρ a v) : (a = none ∧ v = none ∧ n = d) ∨ ∃ k, v = some (.int k (n : Int)) ∧ n ≤ most ∧ a.isSome = true := by
  unfold bound1 at h
  cases a with
  | none =>
    cases v with
    | none => simp only [Option.some.injEq] at h; exact .inl ⟨rfl, rfl, h.symm⟩
    | some v => exact hr.elim
  | some a =>
    cases v with
    | none => exact hr.elim
    | some v =>
      simp only at h
      cases hn : natA a with
      | none => rw [hn] at h; cases h
      | some m =>
        rw [hn] at h
        simp only at h
        cases hb : Nat.ble m most with
        | false => rw [bif_false _ _ hb] at h; cases h
        | true =>
          rw [bif_true _ _ hb] at h
          simp only [Option.some.injEq] at h
          subst h
          obtain ⟨k, rfl⟩ := natA_rel hn hr
          exact .inr ⟨k, rfl, ble_true.1 hb, rfl⟩
theorem bounds_run {len cap c l h m : Nat} {lo hi mx : Option AV} {lo' hi' mx' : Option Value} (b : Bool) (hc : cap ≤ c) (hb : boundsA len cap lo hi mx = some (l, h, m)) (r1 : ORelO ρ lo lo') (r2 : ORelO ρ hi hi') (r3 : ORelO ρ mx mx') :
    (Instr.sliceBounds b len c lo' hi' mx').run P w = .ok (l, h, if mx.isSome = true then m else c) w ∧ l ≤ h ∧ h ≤ m ∧ m ≤ cap ∧ (mx = none → m = cap) := by
  unfold boundsA at hb
  cases hq : (mx.isSome && hi.isNone) with
  | true => rw [bif_true _ _ hq] at hb; cases hb
  | false =>
    rw [bif_false _ _ hq] at hb
    cases e1 : bound1 mx cap cap with
    | none => rw [e1] at hb; cases hb
    | some m1 =>
      rw [e1] at hb
      simp only at hb
      cases e2 : bound1 hi len m1 with
      | none => rw [e2] at hb; cases hb
      | some h1 =>
        rw [e2] at hb
        simp only at hb
        cases e3 : bound1 lo 0 h1 with
        | none => rw [e3] at hb; cases hb
        | some l1 =>
          rw [e3] at hb
          simp only at hb
          cases e4 : (Nat.ble h1 m1 && Nat.ble l1 h1) with
          | false => rw [bif_false _ _ e4] at hb; cases hb
          | true =>
            rw [bif_true _ _ e4] at hb
            simp only [Option.some.injEq, Prod.mk.injEq] at hb
            obtain ⟨rfl, rfl, rfl⟩ := hb
            rw [Bool.and_eq_true] at e4
            have k1 := ble_true.1 e4.1
            have k2 := ble_true.1 e4.2
            have km : m1 ≤ cap := by rcases bound1_rel e1 r3 with ⟨_, _, h⟩ | ⟨_, _, h, _⟩ <;> omega
            refine ⟨?_, k2, k1, km, fun hn => ?_⟩
            · rcases bound1_rel e1 r3 with ⟨rfl, rfl, rfl⟩ | ⟨k3, rfl, g3, g3'⟩ <;> rcases bound1_rel e2 r2 with ⟨rfl, rfl, rfl⟩ | ⟨k4, rfl, g4, g4'⟩ <;> rcases bound1_rel e3 r1 with ⟨rfl, rfl, rfl⟩ | ⟨k5, rfl, g5, g5'⟩
              all_goals first
                | (rw [g3'] at hq; cases hq; done)
                | (have hh : (h1 : Int) ≤ (c : Int) := by omega
                   have hm : (m1 : Int) ≤ (c : Int) := by omega
                   try have hl : (l1 : Int) ≤ (h1 : Int) := by omega
                   have hhm : (h1 : Int) ≤ (m1 : Int) := by omega
                   simp_all [Instr.sliceBounds, run_sliceBound])
            · rcases bound1_rel e1 r3 with ⟨_, _, h⟩ | ⟨_, _, _, h⟩
              · exact h
              · rw [hn] at h; cases h
theorem slice_does {E : Env} (hE : EnvOK E P) {x v : AV} {lo hi mx : Option AV} {u : Value} {lo' hi' mx' : Option Value} (hi0 : TyOK P t i) (h : sliceM E i x lo hi mx s = .ok v s') (hx : VRel ρ x u) (r1 : ORelO ρ lo lo') (r2 : ORelO ρ hi hi') (r3 : ORelO ρ mx mx') (hw : WRel ρ s.h w) :
    Does P s s' ρ w (Instr.sliceAt t u lo' hi' mx') (fun ρ r => VRel ρ v r) := by
  unfold sliceM at h
  cases hd : sliceD i.desc with
  | some e =>
    rw [hd] at h
    obtain ⟨j, hj, h2⟩ := withTy_ok.1 h
    have hjk := hE.ty _ _ hj
    have hu := hi0.slice hd
    cases hs : slA x with
    | none => rw [hs] at h2; exact (M.fail_ok.1 h2).elim
    | some sk =>
      rw [hs] at h2
      cases sk with
      | nil =>
        obtain ⟨q, s1, h3, h4⟩ := M.bind_ok.1 h2
        obtain ⟨hb, rfl⟩ := M.of_ok.1 h3
        obtain ⟨rfl, rfl⟩ := M.pure_ok.1 h4
        obtain ⟨l, hh, m⟩ := q
        obtain ⟨b1, b2, b3, b4, b5⟩ := bounds_run (P := P) (w := w) true (Nat.le_refl 0) hb r1 r2 r3
        obtain rfl : u = .slice none 0 0 := slA_rel hs hx
        refine Does.read (Alike.refl _) hw (u := .slice none 0 0) ?_ rfl
        have e1 : l = 0 := by omega
        have e2 : hh = 0 := by omega
        have e3 : m = 0 := by omega
        subst e1 e2 e3
        have b1' : (Instr.sliceBounds true 0 0 lo' hi' mx').run P w = .ok (0, 0, 0) w := by rw [b1]; split <;> rfl
        simp [Instr.sliceAt, Instr.slice, run_underlying hu, b1', hjk.sizeOf]
      | empty => exact (M.fail_ok.1 h2).elim
      | some sv =>
        obtain ⟨n, off, len, cap, es⟩ := sv
        obtain ⟨p, c, hp, rfl, hlc, hcap⟩ := slA_rel hs hx
        cases cap with
        | some c0 =>
          have hcc : c = c0 := hcap
          subst hcc
          simp only at h2
          cases hes : Nat.beq es j.size with
          | false => rw [bif_false _ _ hes] at h2; exact (M.fail_ok.1 h2).elim
          | true =>
            rw [bif_true _ _ hes] at h2
            have hse := beq_true.1 hes
            obtain ⟨q, s1, h3, h4⟩ := M.bind_ok.1 h2
            obtain ⟨hb, rfl⟩ := M.of_ok.1 h3
            obtain ⟨rfl, rfl⟩ := M.pure_ok.1 h4
            obtain ⟨l, hh, m⟩ := q
            obtain ⟨b1, b2, b3, b4, b5⟩ := bounds_run (P := P) (w := w) true (Nat.le_refl c) hb r1 r2 r3
            have b1' : (Instr.sliceBounds true len c lo' hi' mx').run P w = .ok (l, hh, m) w := by
              rw [b1]
              split
              · rfl
              · rename_i hn
                have : mx = none := by cases mx <;> simp_all
                rw [b5 this]
            refine Does.read (Alike.refl _) hw (u := .slice (some (if m = l then ⟨p.1, p.2.1 + off, none⟩ else ⟨p.1, p.2.1 + off + l * es, none⟩)) (hh - l) (m - l)) ?_ ?_
            · simp only [Instr.sliceAt, Instr.slice, Sem.run_bind, run_underlying hu, Result.andThen_ok, b1', hjk.sizeOf, ← hse, Sem.run_pure]
              by_cases hml : m = l
              · simp [hml]
              · simp [hml, add_plain]
            · refine ⟨p, m - l, hp, ?_, Nat.sub_le_sub_right (by omega) l, rfl⟩
              by_cases hml : m = l
              · rw [if_pos hml]
                simp [hml, Nat.beq_refl]
              · have : Nat.beq m l = false := by cases hq : Nat.beq m l with | false => rfl | true => exact absurd (beq_true.1 hq) hml
                rw [if_neg hml]
                simp only [this, cond_false]
                rw [Nat.add_assoc]
                rfl
        | none =>
          have hcc : off + c * es = p.2.2 := hcap
          simp only at h2
          obtain ⟨r, s1, h3, h4⟩ := M.bind_ok.1 h2
          obtain ⟨g1, _, ha2⟩ := rowM_ok h3
          cases hes : (Nat.beq es 0 || !(Nat.beq es j.size)) with
          | true => rw [bif_true _ _ hes] at h4; exact (M.fail_ok.1 h4).elim
          | false =>
            rw [bif_false _ _ hes] at h4
            have he0 : es ≠ 0 := fun e => by rw [beq_true.2 e] at hes; cases hes
            have hse : es = j.size := by
              cases hq : Nat.beq es j.size with
              | true => exact beq_true.1 hq
              | false => rw [hq] at hes; simp at hes
            obtain ⟨q, s2, h5, h6⟩ := M.bind_ok.1 h4
            obtain ⟨hb, rfl⟩ := M.of_ok.1 h5
            obtain ⟨l, hh, m⟩ := q
            obtain ⟨ob, hob, vs, known, junk, rfl, k2, k3, k4⟩ := hw.row g1 hp
            have hkn : lenC r.2 ≤ p.2.2 := by
              rw [← CRel.length _ k4]
              have := congrArg List.length k3
              rw [List.length_drop, List.length_append, Array.length_toList, k2] at this
              omega
            have hcap0 : (lenC r.2 - off) / es ≤ c := by
              rw [Nat.div_le_iff_le_mul_add_pred (by omega)]
              rw [Nat.mul_comm] at hcc
              omega
            obtain ⟨b1, b2, b3, b4, b5⟩ := bounds_run (P := P) (w := w) true hcap0 hb r1 r2 r3
            cases mx with
            | some mv =>
              simp only at h6
              obtain ⟨rfl, rfl⟩ := M.pure_ok.1 h6
              have b1' : (Instr.sliceBounds true len c lo' hi' mx').run P w = .ok (l, hh, m) w := by rw [b1]; rfl
              refine Does.read ha2 hw (u := .slice (some (if m = l then ⟨p.1, p.2.1 + off, none⟩ else ⟨p.1, p.2.1 + off + l * es, none⟩)) (hh - l) (m - l)) ?_ ?_
              · simp only [Instr.sliceAt, Instr.slice, Sem.run_bind, run_underlying hu, Result.andThen_ok, b1', hjk.sizeOf, ← hse, Sem.run_pure]
                by_cases hml : m = l
                · simp [hml]
                · simp [hml, add_plain]
              · refine ⟨p, m - l, hp, ?_, Nat.sub_le_sub_right (by omega) l, rfl⟩
                by_cases hml : m = l
                · rw [if_pos hml]
                  simp [hml, Nat.beq_refl]
                · have : Nat.beq m l = false := by cases hq : Nat.beq m l with | false => rfl | true => exact absurd (beq_true.1 hq) hml
                  rw [if_neg hml]
                  simp only [this, cond_false]
                  rw [Nat.add_assoc]
                  rfl
            | none =>
              simp only at h6
              have hm := b5 rfl
              have b1' : (Instr.sliceBounds true len c lo' hi' mx').run P w = .ok (l, hh, c) w := by rw [b1]; rfl
              have hrun : (Instr.sliceAt t (.slice (some ⟨p.1, p.2.1 + off, none⟩) len c) lo' hi' mx').run P w = .ok (.slice (some (if c = l then ⟨p.1, p.2.1 + off, none⟩ else ⟨p.1, p.2.1 + off + l * es, none⟩)) (hh - l) (c - l)) w := by
                simp only [Instr.sliceAt, Instr.slice, Sem.run_bind, run_underlying hu, Result.andThen_ok, b1', hjk.sizeOf, ← hse, Sem.run_pure]
                by_cases hml : c = l
                · simp [hml]
                · simp [hml, add_plain]
              cases hlt : Nat.blt l m with
              | true =>
                rw [bif_true _ _ hlt] at h6
                obtain ⟨rfl, rfl⟩ := M.pure_ok.1 h6
                have hl := blt_true.1 hlt
                rw [if_neg (by omega)] at hrun
                refine Does.read ha2 hw hrun ⟨p, c - l, hp, ?_, Nat.sub_le_sub_right (by omega) l, ?_⟩
                · rw [Nat.add_assoc]
                  rfl
                · show off + l * es + (c - l) * es = p.2.2
                  rw [← hcc, Nat.add_assoc, ← Nat.add_mul]
                  congr 2
                  omega
              | false =>
                rw [bif_false _ _ hlt] at h6
                obtain ⟨rfl, rfl⟩ := M.pure_ok.1 h6
                have hl : ¬ l < m := fun e => by rw [blt_true.2 e] at hlt; cases hlt
                rw [show hh - l = 0 by omega] at hrun
                exact Does.read ha2 hw hrun ⟨_, _, rfl⟩
  | none =>
    rw [hd] at h
    simp only at h
    cases ha : arrD i.desc with
    | some q =>
      rw [ha] at h
      obtain ⟨j, hj, h2⟩ := withTy_ok.1 h
      have hjk := hE.ty _ _ hj
      obtain ⟨a, s1, h3, h4⟩ := M.bind_ok.1 h2
      obtain ⟨hp, rfl⟩ := M.of_ok.1 h3
      obtain ⟨b, s2, h5, h6⟩ := M.bind_ok.1 h4
      obtain ⟨hb, rfl⟩ := M.of_ok.1 h5
      obtain ⟨rfl, rfl⟩ := M.pure_ok.1 h6
      obtain ⟨l, hh, m⟩ := b
      obtain ⟨p, hpp, rfl⟩ := addrA_rel hp hx
      obtain ⟨b1, b2, b3, b4, b5⟩ := bounds_run (P := P) (w := w) false (Nat.le_refl q.1) hb r1 r2 r3
      have b1' : (Instr.sliceBounds false q.1 q.1 lo' hi' mx').run P w = .ok (l, hh, m) w := by
        rw [b1]
        split
        · rfl
        · rename_i hn
          have : mx = none := by cases mx <;> simp_all
          rw [b5 this]
      refine Does.read (Alike.refl _) hw (u := .slice (some (if m = l then ⟨p.1, p.2.1 + a.2, none⟩ else ⟨p.1, p.2.1 + a.2 + l * j.size, none⟩)) (hh - l) (m - l)) ?_ ?_
      · simp only [Instr.sliceAt, Sem.run_bind, run_underlying (hi0.arr ha), Result.andThen_ok, Instr.sureAddr, b1', hjk.sizeOf, Sem.run_pure]
        by_cases hml : m = l
        · simp [hml]
        · simp [hml, add_plain]
      · refine ⟨p, m - l, hpp, ?_, Nat.sub_le_sub_right (by omega) l, rfl⟩
        by_cases hml : m = l
        · rw [if_pos hml]
          simp [hml, Nat.beq_refl]
        · have : Nat.beq m l = false := by cases hq : Nat.beq m l with | false => rfl | true => exact absurd (beq_true.1 hq) hml
          rw [if_neg hml]
          simp only [this, cond_false]
          rw [Nat.add_assoc]
          rfl
    | none =>
      rw [ha] at h
      cases hs : strD i.desc with
      | false => simp only [hs, cond_false] at h; exact (M.fail_ok.1 h).elim
      | true =>
        simp only [hs, cond_true] at h
        obtain ⟨b, s2, h3, h4⟩ := M.bind_ok.1 h
        obtain ⟨hb, rfl⟩ := M.of_ok.1 h3
        obtain rfl := strA_rel hb hx
        cases mx with
        | some mv => exact (M.fail_ok.1 h4).elim
        | none =>
          cases mx' with
          | some _ => exact r3.elim
          | none =>
            obtain ⟨q, s3, h5, h6⟩ := M.bind_ok.1 h4
            obtain ⟨hbb, rfl⟩ := M.of_ok.1 h5
            obtain ⟨rfl, rfl⟩ := M.pure_ok.1 h6
            obtain ⟨l, hh, m⟩ := q
            have hsz : b.toList.length = b.size := by rw [ByteArray.toList_eq]; simp
            rw [hsz] at hbb
            obtain ⟨b1, b2, b3, b4, b5⟩ := bounds_run (P := P) (w := w) false (Nat.le_refl b.size) hbb r1 r2 (mx' := none) (ρ := ρ) trivial
            have b1' : (Instr.sliceBounds false b.size b.size lo' hi' none).run P w = .ok (l, hh, b.size) w := by rw [b1]; rfl
            refine Does.read (Alike.refl _) hw (u := .string (b.extract l hh)) ?_ rfl
            simp [Instr.sliceAt, Instr.slice, run_underlying (hi0.str hs), b1']
end
end Go.Proofs.YtdbgppknggaooaaGreatDoor.Vm
namespace Go.Proofs.YtdbgppknggaooaaGreatDoor.Vm
open Go
section
variable {P : Program} {s s' s1 : St} {ρ ρ' : Ren} {w w' : World} {t e : TypeId} {i j : TyI}
theorem str_len (b : ByteArray) : b.toList.length = b.size := by rw [ByteArray.toList_eq]; simp
theorem mkNat_eq (n : Nat) : mkNat n = .int .i64 (n : Int) := by unfold mkNat; rw [forceN_eq]; rfl
theorem mapO_some {o : AObj} {q : List Ent × Nat} (h : mapO o = some q) : o = .map q.1 q.2 := by
  cases o <;> simp only [mapO, Option.some.injEq, reduceCtorEq] at h
  subst h
  rfl
theorem mapM_ok {n : Nat} {q : List Ent × Nat} (h : mapM n s = .ok q s') : s.h.get n = some (.map q.1 q.2) ∧ n < s.c ∧ Alike s s' := by
  unfold mapM at h
  obtain ⟨o, s1, h1, h2⟩ := M.bind_ok.1 h
  obtain ⟨hlt, h3, rfl⟩ := getM_ok.1 h1
  obtain ⟨h4, rfl⟩ := M.of_ok.1 h2
  rw [mapO_some h4] at h3
  exact ⟨h3, hlt, rfl, rfl⟩
theorem WRel.map {n : Nat} {es : List Ent} {c : Nat} {p : Nat × Nat × Nat} (hw : WRel ρ s.h w) (h : s.h.get n = some (.map es c)) (hp : ρ n = some p) : ∃ es' : Array MapEntry, w.heap[p.1]? = some (.map es' c) ∧ ERel ρ es es'.toList := by
  obtain ⟨q, ob, h1, h2, es', rfl, h4⟩ := hw.at_ n _ h
  rw [hp] at h1
  injection h1 with h1
  subst h1
  exact ⟨es', h2, h4⟩
theorem ERel.length : ∀ {l : List Ent} {m : List MapEntry}, ERel ρ l m → m.length = l.length
  | [], _, h => by rw [show _ = [] from h]; rfl
  | _ :: _, _, ⟨x, l', h1, _, _, _, h5⟩ => by subst h1; rw [List.length_cons, List.length_cons, ERel.length h5]
theorem run_getObj_map {b : Nat} {es : Array MapEntry} {c : Nat} (h : w.heap[b]? = some (.map es c)) : (getObj b).run P w = .ok (.map es c) w := by
  simp [getObj, Sem.run, h]
theorem lenS_rel {k : SlK} {u : Value} (h : SlR ρ k u) : ∃ a c, u = .slice a (lenS k) c := by
  cases k with
  | nil => exact ⟨none, 0, h⟩
  | empty => obtain ⟨a, c, rfl⟩ := h; exact ⟨some a, c, rfl⟩
  | some v => obtain ⟨n, off, len, cap, es⟩ := v; obtain ⟨p, c, _, rfl, _⟩ := h; exact ⟨_, c, rfl⟩
theorem len_does {E : Env} (hE : EnvOK E P) {x v : AV} {u : Value} {ts : Array TypeId} {ty : TypeId} (ht : ts[0]? = some t) (h : lenF E t x s = .ok v s') (hx : VRel ρ x u) (hw : WRel ρ s.h w) : Does P s s' ρ w (Builtin.len_ ts ty #[u]) (fun ρ r => VRel ρ v r) := by
  unfold lenF at h
  obtain ⟨i, hi, h2⟩ := withTy_ok.1 h
  have hik := hE.ty _ _ hi
  cases ha : arrD i.desc with
  | some q =>
    rw [ha] at h2
    obtain ⟨rfl, rfl⟩ := M.pure_ok.1 h2
    refine Does.read (Alike.refl _) hw (u := goInt q.1) ?_ (by rw [mkNat_eq]; rfl)
    simp [Builtin.len_, ht, run_underlying (hik.arr ha)]
  | none =>
    rw [ha] at h2
    simp only at h2
    cases hd : sliceD i.desc with
    | some e =>
      rw [hd] at h2
      obtain ⟨k, s1, h3, h4⟩ := M.bind_ok.1 h2
      obtain ⟨hk, rfl⟩ := M.of_ok.1 h3
      obtain ⟨rfl, rfl⟩ := M.pure_ok.1 h4
      obtain ⟨a, c, rfl⟩ := lenS_rel (slA_rel hk hx)
      refine Does.read (Alike.refl _) hw (u := goInt (lenS k)) ?_ (by rw [mkNat_eq]; rfl)
      simp [Builtin.len_, ht, run_underlying (hik.slice hd)]
    | none =>
      rw [hd] at h2
      simp only at h2
      cases hm : mapD i.desc with
      | some q =>
        rw [hm] at h2
        obtain ⟨m, s1, h3, h4⟩ := M.bind_ok.1 h2
        obtain ⟨hk, rfl⟩ := M.of_ok.1 h3
        have hmr := mapA_rel hk hx
        cases m with
        | none =>
          obtain ⟨rfl, rfl⟩ := M.pure_ok.1 h4
          obtain rfl : u = .map none := hmr
          refine Does.read (Alike.refl _) hw (u := goInt 0) ?_ (by rw [mkNat_eq]; rfl)
          simp [Builtin.len_, ht, run_underlying (hik.map hm)]
        | some n =>
          obtain ⟨p, hp, rfl⟩ := hmr
          obtain ⟨r, s2, h5, h6⟩ := M.bind_ok.1 h4
          obtain ⟨rfl, rfl⟩ := M.pure_ok.1 h6
          obtain ⟨g1, _, g2⟩ := mapM_ok h5
          obtain ⟨es', k1, k2⟩ := hw.map g1 hp
          refine Does.read g2 hw (u := goInt es'.size) ?_ (by rw [mkNat_eq, ← ERel.length k2, Array.length_toList]; rfl)
          simp [Builtin.len_, ht, run_underlying (hik.map hm), run_getObj_map k1]
      | none =>
        rw [hm] at h2
        cases hs : strD i.desc with
        | false => simp only [hs, cond_false] at h2; exact (M.fail_ok.1 h2).elim
        | true =>
          simp only [hs, cond_true] at h2
          obtain ⟨b, s1, h3, h4⟩ := M.bind_ok.1 h2
          obtain ⟨hb, rfl⟩ := M.of_ok.1 h3
          obtain ⟨rfl, rfl⟩ := M.pure_ok.1 h4
          obtain rfl := strA_rel hb hx
          refine Does.read (Alike.refl _) hw (u := goInt b.size) ?_ (by rw [mkNat_eq, str_len]; rfl)
          simp [Builtin.len_, ht, run_underlying (hik.str hs)]
theorem cap_does {x v : AV} {u : Value} {ts : Array TypeId} {ty : TypeId} (ht : ts[0]? = some t) (hi : TyOK P t i) (h : capM i x s = .ok v s') (hx : VRel ρ x u) (hw : WRel ρ s.h w) : Does P s s' ρ w (Builtin.cap_ ts ty #[u]) (fun ρ r => VRel ρ v r) := by
  unfold capM at h
  cases hd : sliceD i.desc with
  | none => rw [hd] at h; exact (M.fail_ok.1 h).elim
  | some e =>
    rw [hd] at h
    simp only at h
    cases hs : slA x with
    | none => rw [hs] at h; exact (M.fail_ok.1 h).elim
    | some k =>
      rw [hs] at h
      cases k with
      | nil =>
        obtain ⟨rfl, rfl⟩ := M.pure_ok.1 h
        obtain rfl : u = .slice none 0 0 := slA_rel hs hx
        refine Does.read (Alike.refl _) hw (u := goInt 0) ?_ (by rw [mkNat_eq]; rfl)
        simp [Builtin.cap_, ht, run_underlying (hi.slice hd)]
      | empty => exact (M.fail_ok.1 h).elim
      | some sv =>
        obtain ⟨n, off, len, cap, es⟩ := sv
        cases cap with
        | none => exact (M.fail_ok.1 h).elim
        | some c =>
          obtain ⟨rfl, rfl⟩ := M.pure_ok.1 h
          obtain ⟨p, c', hp, rfl, _, hc⟩ := slA_rel hs hx
          have hcc : c' = c := hc
          subst hcc
          refine Does.read (Alike.refl _) hw (u := goInt c') ?_ (by rw [mkNat_eq]; rfl)
          simp [Builtin.cap_, ht, run_underlying (hi.slice hd)]
theorem pack_lt : ∀ l : List UInt8, pack l < 2 ^ (8 * l.length)
  | [] => by decide
  | b :: r => by
    have h1 := pack_lt r
    have h2 := b.toNat_lt
    show b.toNat + 256 * pack r < _
    rw [List.length_cons, show 8 * (r.length + 1) = 8 * r.length + 8 by omega, Nat.pow_add]
    omega
theorem unpack_pack : ∀ l : List UInt8, unpack l.length (pack l) = l
  | [] => rfl
  | b :: r => by
    have h2 := b.toNat_lt
    show UInt8.ofNat ((b.toNat + 256 * pack r) % 256) :: unpack r.length ((b.toNat + 256 * pack r) / 256) = _
    rw [show (b.toNat + 256 * pack r) % 256 = b.toNat by omega, show (b.toNat + 256 * pack r) / 256 = pack r by omega, unpack_pack r, UInt8.ofNat_toNat]
theorem packS_rel (b : ByteArray) : CRel ρ (packS b) (b.toList.map byteV) := by
  unfold packS
  cases h : b.toList with
  | nil => exact CRel.nil
  | cons x r =>
    refine CRel.bytes_iff.2 ⟨[], ?_, pack_lt _, CRel.nil⟩
    unfold bytesV
    rw [unpack_pack, List.append_nil]
theorem cellsM_rel {x : AV} {u : Value} {size n : Nat} {cs : List AV} (h : cellsM size x s = .ok (cs, n) s') (hx : VRel ρ x u) (hw : WRel ρ s.h w) :
    Alike s s' ∧ ∃ us : Array Value, CRel ρ cs us.toList ∧ us.size = n * size ∧ ∀ w', w'.heap = w.heap → (Builtin.lenOf u).run P w' = .ok n w' ∧ ∀ m, m ≤ n → (Builtin.firstCells size m u).run P w' = .ok (us.toList.take (m * size)).toArray w' := by
  unfold cellsM at h
  cases hs : slA x with
  | none =>
    rw [hs] at h
    simp only at h
    cases h1 : Nat.beq size 1 with
    | false => rw [bif_false _ _ h1] at h; exact (M.fail_ok.1 h).elim
    | true =>
      rw [bif_true _ _ h1] at h
      obtain rfl := beq_true.1 h1
      obtain ⟨b, s1, h3, h4⟩ := M.bind_ok.1 h
      obtain ⟨hb, rfl⟩ := M.of_ok.1 h3
      obtain ⟨h5, rfl⟩ := M.pure_ok.1 h4
      injection h5 with h5 h6
      subst h5 h6
      obtain rfl := strA_rel hb hx
      refine ⟨Alike.refl _, (b.toList.map byteV).toArray, by simpa using packS_rel b, by simp, fun w' _ => ⟨by simp [Builtin.lenOf, str_len], fun m hm => ?_⟩⟩
      have : (b.data.map fun b => Value.int .u8 b.toNat).extract 0 m = ((b.toList.map byteV).take m).toArray := by
        apply Array.ext'
        rw [ByteArray.toList_eq]
        simp only [Array.toList_extract, Array.toList_map, List.extract_eq_take_drop, List.drop_zero, Nat.sub_zero]
        rfl
      simp [Builtin.firstCells, this]
  | some k =>
    rw [hs] at h
    cases k with
    | nil =>
      obtain ⟨h5, rfl⟩ := M.pure_ok.1 h
      injection h5 with h5 h6
      subst h5 h6
      obtain rfl : u = .slice none 0 0 := slA_rel hs hx
      exact ⟨Alike.refl _, #[], CRel.nil, by simp, fun w' _ => ⟨by simp [Builtin.lenOf], fun m _ => by simp [Builtin.firstCells]⟩⟩
    | empty =>
      obtain ⟨h5, rfl⟩ := M.pure_ok.1 h
      injection h5 with h5 h6
      subst h5 h6
      obtain ⟨a, c, rfl⟩ := slA_rel hs hx
      exact ⟨Alike.refl _, #[], CRel.nil, by simp, fun w' _ => ⟨by simp [Builtin.lenOf], fun m hm => by obtain rfl : m = 0 := Nat.le_zero.1 hm; simp [Builtin.firstCells, loadCells, loadCellsFrom]⟩⟩
    | some sv =>
      obtain ⟨m, off, len, cap, es⟩ := sv
      simp only at h
      cases h1 : Nat.beq es size with
      | false => rw [bif_false _ _ h1] at h; exact (M.fail_ok.1 h).elim
      | true =>
        rw [bif_true _ _ h1] at h
        obtain rfl := beq_true.1 h1
        obtain ⟨q, s1, h3, h4⟩ := M.bind_ok.1 h
        obtain ⟨g1, _, g2⟩ := rowM_ok h3
        obtain ⟨l, s2, h5, h6⟩ := M.bind_ok.1 h4
        obtain ⟨hl, rfl⟩ := M.of_ok.1 h5
        obtain ⟨h7, rfl⟩ := M.pure_ok.1 h6
        injection h7 with h7 h8
        subst h7 h8
        obtain ⟨p, c, hp, rfl, _, _⟩ := slA_rel hs hx
        obtain ⟨ob, hob, vs, known, junk, rfl, k2, k3, k4⟩ := hw.row g1 hp
        obtain ⟨f1, f2⟩ := loadC_rel hl k4
        have f2' : off + n * es ≤ known.length := f2
        have hlen : ((known.drop off).take (n * es)).length = n * es := by rw [List.length_take, List.length_drop]; omega
        refine ⟨g2, ((known.drop off).take (n * es)).toArray, by simpa using f1, by simpa using hlen, fun w' hw' => ⟨by simp [Builtin.lenOf], fun k hk => ?_⟩⟩
        have hrg := row_range (w := w') (by rw [hw']; exact hob) k3 off (n * es) f2'
        have hkn : k * es ≤ n * es := Nat.mul_le_mul_right _ hk
        refine run_firstCells_some (P := P) w' es k ⟨p.1, p.2.1 + off, none⟩ n c _ ?_ (fun j v hv => ?_)
        · rw [List.length_take]
          simp only [hlen]
          omega
        · rw [add_plain]
          refine hrg j v ?_
          simp only [List.getElem?_take] at hv ⊢
          split at hv
          · exact hv
          · cases hv
end
end Go.Proofs.YtdbgppknggaooaaGreatDoor.Vm
namespace Go.Proofs.YtdbgppknggaooaaGreatDoor.Vm
open Go
section
variable {P : Program} {s s' s1 : St} {ρ ρ' : Ren} {w w' : World} {t e : TypeId} {i j : TyI}
theorem put_does {n off k : Nat} {q : TypeId × List AV} {cs new : List AV} {us : List Value} {p : Nat × Nat × Nat} (hw : WRel ρ s.h w) (g1 : s.h.get n = some (.row q.1 q.2)) (hp : ρ n = some p) (hst : storeC q.2 off k new = some cs) (hn : CRel ρ new us) (hk : us.length = k)
    (h : setM n (some (.row q.1 cs)) s = .ok () s') : (storeCells ⟨p.1, p.2.1 + off, none⟩ us).run P w = .ok () (w.setCells p.1 (p.2.1 + off) us) ∧ WRel ρ s'.h (w.setCells p.1 (p.2.1 + off) us) ∧ Stp s s' ρ ρ w (w.setCells p.1 (p.2.1 + off) us) := by
  obtain ⟨_, hs'⟩ := setM_ok.1 h
  obtain ⟨ob, hb, hr⟩ := hw.row g1 hp
  obtain ⟨hth, ob', k1, k2⟩ := row_store hb hr hst hn hk
  have := set_rel (s' := s') (o := .row q.1 cs) hw (by rw [g1]; rfl) hp (by rw [hs']; rfl) (only_setCells p.1 us (p.2.1 + off) w) k1 k2
  refine ⟨?_, this.1, this.2⟩
  have hrun := run_storeCells_cells (P := P) p.1 (p.2.1 + off) us 0 w (fun j hj => by simpa using (hth j hj).1) (fun j hj => by simpa using (hth j hj).2) (cells_one hn)
  simpa using hrun
theorem copy_does {E : Env} (hE : EnvOK E P) {d x v : AV} {u y : Value} {ts : Array TypeId} {ty : TypeId} (ht : ts[0]? = some t) (h : copyF E t d x s = .ok v s') (hd : VRel ρ d u) (hx : VRel ρ x y) (hw : WRel ρ s.h w) : Does P s s' ρ w (Builtin.copy_ ts ty #[u, y]) (fun ρ r => VRel ρ v r) := by
  unfold copyF at h
  obtain ⟨i, hi, h2⟩ := withTy_ok.1 h
  have hik := hE.ty _ _ hi
  cases hsd : sliceD i.desc with
  | none => rw [hsd] at h2; exact (M.fail_ok.1 h2).elim
  | some e =>
    rw [hsd] at h2
    obtain ⟨j, hj, h3⟩ := withTy_ok.1 h2
    have hjk := hE.ty _ _ hj
    obtain ⟨⟨cs, n⟩, s1, h4, h5⟩ := M.bind_ok.1 h3
    obtain ⟨g1, us, g2, g3, g4⟩ := cellsM_rel (P := P) h4 hx hw
    obtain ⟨g5, g6⟩ := g4 w rfl
    cases hs : slA d with
    | none => rw [hs] at h5; exact (M.fail_ok.1 h5).elim
    | some k =>
      rw [hs] at h5
      cases k with
      | nil =>
        obtain ⟨rfl, rfl⟩ := M.pure_ok.1 h5
        obtain rfl : u = .slice none 0 0 := slA_rel hs hd
        refine Does.read g1 hw (u := goInt 0) ?_ (by rw [mkNat_eq]; rfl)
        simp [Builtin.copy_, ht, run_underlying (hik.slice hsd), g5, hjk.sizeOf, g6 0 (Nat.zero_le _)]
      | empty =>
        obtain ⟨rfl, rfl⟩ := M.pure_ok.1 h5
        obtain ⟨a, c, rfl⟩ := slA_rel hs hd
        refine Does.read g1 hw (u := goInt 0) ?_ (by rw [mkNat_eq]; rfl)
        simp [Builtin.copy_, ht, run_underlying (hik.slice hsd), g5, hjk.sizeOf, g6 0 (Nat.zero_le _), storeCells]
      | some sv =>
        obtain ⟨m, off, len, cap, es⟩ := sv
        simp only at h5
        cases hes : Nat.beq es j.size with
        | false => simp only [hes, Bool.not_false, cond_true] at h5; exact (M.fail_ok.1 h5).elim
        | true =>
          rw [hes] at h5
          obtain rfl := beq_true.1 hes
          obtain ⟨q, s2, h6, h7⟩ := M.bind_ok.1 h5
          obtain ⟨f1, _, f2⟩ := rowM_ok h6
          rw [forceN_eq] at h7
          obtain ⟨b, hb⟩ : ∃ b, b = (bif Nat.ble n len then n else len) := ⟨_, rfl⟩
          rw [← hb] at h7
          have hbm : Nat.min n len = b := by
            rw [hb]
            cases hq : Nat.ble n len with
            | true => rw [bif_true _ _ rfl]; exact Nat.min_eq_left (ble_true.1 hq)
            | false =>
              rw [bif_false _ _ rfl]
              exact Nat.min_eq_right (Nat.le_of_not_le fun e => by rw [ble_true.2 e] at hq; cases hq)
          have hbn : b ≤ n := by rw [← hbm]; exact Nat.min_le_left _ _
          obtain ⟨p, c, hp, rfl, _, _⟩ := slA_rel hs hd
          have hal := g1.trans f2
          cases h0 : Nat.beq b 0 with
          | true =>
            rw [bif_true _ _ h0] at h7
            obtain ⟨rfl, rfl⟩ := M.pure_ok.1 h7
            have hb0 := beq_true.1 h0
            rw [hb0] at hbm
            refine Does.read hal hw (u := goInt 0) ?_ (by rw [mkNat_eq]; rfl)
            simp [Builtin.copy_, ht, run_underlying (hik.slice hsd), g5, hjk.sizeOf, g6 0 (Nat.zero_le _), hbm, storeCells]
          | false =>
            rw [bif_false _ _ h0] at h7
            obtain ⟨new, s3, h8, h9⟩ := M.bind_ok.1 h7
            obtain ⟨hnew, rfl⟩ := M.of_ok.1 h8
            obtain ⟨cs', s4, h10, h11⟩ := M.bind_ok.1 h9
            obtain ⟨hst, rfl⟩ := M.of_ok.1 h10
            obtain ⟨_, s5, h12, h13⟩ := M.bind_ok.1 h11
            obtain ⟨rfl, rfl⟩ := M.pure_ok.1 h13
            obtain ⟨l1, l2⟩ := loadC_rel hnew g2
            rw [List.drop_zero] at l1
            have hlen : (us.toList.take (b * j.size)).length = b * j.size := by
              have l2' : 0 + b * j.size ≤ us.toList.length := l2
              rw [List.length_take]
              omega
            have hw4 := hw.alike hal
            obtain ⟨r1, r2, r3⟩ := put_does (P := P) (us := us.toList.take (b * j.size)) hw4 (by rw [hal.1, ← g1.1]; exact f1) hp hst l1 hlen h12
            refine Does.after hal (fun _ => ⟨ρ, _, goInt b, ?_, by rw [mkNat_eq]; rfl, r2, r3⟩)
            simp [Builtin.copy_, ht, run_underlying (hik.slice hsd), g5, hjk.sizeOf, hbm, g6 b hbn, r1]
theorem clear_does {E : Env} (hE : EnvOK E P) {x v : AV} {u : Value} {ts : Array TypeId} {ty : TypeId} (ht : ts[0]? = some t) (h : clearF E t x s = .ok v s') (hx : VRel ρ x u) (hw : WRel ρ s.h w) : Does P s s' ρ w (Builtin.clear_ ts ty #[u]) (fun ρ r => VRel ρ v r) := by
  have hv0 : ∀ ρ, VRel ρ undefA (.tuple #[]) := fun ρ => ⟨#[], rfl, by simp [LRel]⟩
  unfold clearF at h
  obtain ⟨i, hi, h2⟩ := withTy_ok.1 h
  have hik := hE.ty _ _ hi
  obtain ⟨d, hd0, hdr, _, _⟩ := hik.und
  cases hs : slA x with
  | none =>
    rw [hs] at h2
    obtain ⟨m, s1, h3, h4⟩ := M.bind_ok.1 h2
    obtain ⟨hm, rfl⟩ := M.of_ok.1 h3
    have hmr := mapA_rel hm hx
    cases m with
    | none =>
      obtain ⟨rfl, rfl⟩ := M.pure_ok.1 h4
      obtain rfl : u = .map none := hmr
      refine Does.read (Alike.refl _) hw (u := .tuple #[]) ?_ (hv0 _)
      simp [Builtin.clear_, ht, hdr]
    | some n =>
      obtain ⟨p, hp, rfl⟩ := hmr
      obtain ⟨q, s2, h5, h6⟩ := M.bind_ok.1 h4
      obtain ⟨g1, _, g2⟩ := mapM_ok h5
      obtain ⟨_, s3, h7, h8⟩ := M.bind_ok.1 h6
      obtain ⟨rfl, rfl⟩ := M.pure_ok.1 h8
      obtain ⟨_, hs'⟩ := setM_ok.1 h7
      obtain ⟨es', k1, k2⟩ := hw.map g1 hp
      have hw2 := hw.alike g2
      have ho : Only p.1 w { w with heap := w.heap.setIfInBounds p.1 (.map #[] q.2) } := ⟨rfl, rfl, rfl, by simp, fun q hq => by simp [Ne.symm hq]⟩
      have hlt := (Array.getElem?_eq_some_iff.1 k1).1
      have := set_rel (s' := s') (o := .map [] q.2) hw2 (by rw [g2.1, g1]; rfl) hp (by rw [hs']; rfl) ho (ob := .map #[] q.2) (by simp [hlt]) ⟨#[], rfl, rfl⟩
      refine Does.after g2 (fun _ => ⟨ρ, _, .tuple #[], ?_, hv0 _, this.1, this.2⟩)
      have hg : (getObj p.1).run P w = .ok (.map es' q.2) w := run_getObj_map k1
      have hset : (setObj p.1 (.map #[] q.2)).run P w = .ok () { w with heap := w.heap.setIfInBounds p.1 (.map #[] q.2) } := by simp [setObj, Sem.run, k1]
      cases d <;> simp [Builtin.clear_, ht, hdr, hg, hset]
  | some k =>
    rw [hs] at h2
    cases k with
    | nil =>
      obtain ⟨rfl, rfl⟩ := M.pure_ok.1 h2
      obtain rfl : u = .slice none 0 0 := slA_rel hs hx
      refine Does.read (Alike.refl _) hw (u := .tuple #[]) ?_ (hv0 _)
      simp [Builtin.clear_, ht, hdr]
    | empty =>
      obtain ⟨rfl, rfl⟩ := M.pure_ok.1 h2
      obtain ⟨a, c, rfl⟩ := slA_rel hs hx
      refine Does.read (Alike.refl _) hw (u := .tuple #[]) ?_ (hv0 _)
      cases d <;> simp [Builtin.clear_, ht, hdr]
    | some sv =>
      obtain ⟨n, off, len, cap, es⟩ := sv
      simp only at h2
      cases hsd : sliceD i.desc with
      | none => rw [hsd] at h2; exact (M.fail_ok.1 h2).elim
      | some e =>
        rw [hsd] at h2
        obtain ⟨j, hj, h3⟩ := withTy_ok.1 h2
        have hjk := hE.ty _ _ hj
        obtain ⟨q, s2, h6, h7⟩ := M.bind_ok.1 h3
        obtain ⟨f1, _, f2⟩ := rowM_ok h6
        obtain ⟨p, c, hp, rfl, _, _⟩ := slA_rel hs hx
        cases h0 : Nat.beq len 0 with
        | true =>
          rw [bif_true _ _ h0] at h7
          obtain ⟨rfl, rfl⟩ := M.pure_ok.1 h7
          obtain rfl := beq_true.1 h0
          refine Does.read f2 hw (u := .tuple #[]) ?_ (hv0 _)
          cases d <;> simp [Builtin.clear_, ht, hdr]
        | false =>
          rw [bif_false _ _ h0] at h7
          have hl0 : len ≠ 0 := fun e => by rw [beq_true.2 e] at h0; cases h0
          cases hes : Nat.beq es j.size with
          | false => simp only [hes, Bool.not_false, cond_true] at h7; exact (M.fail_ok.1 h7).elim
          | true =>
            rw [hes] at h7
            obtain rfl := beq_true.1 hes
            obtain ⟨cs', s4, h10, h11⟩ := M.bind_ok.1 h7
            obtain ⟨hst, rfl⟩ := M.of_ok.1 h10
            obtain ⟨_, s5, h12, h13⟩ := M.bind_ok.1 h11
            obtain ⟨rfl, rfl⟩ := M.pure_ok.1 h13
            obtain ⟨z, z1, _, z3, z4⟩ := hjk.zeroValue
            have hz := zerosA_rel (z3 ρ) len
            have hze : (Builtin.zeroCells z.cells len).toList = (List.replicate len z.cells.toList).flatten := rep_cells z.cells len
            rw [← hze] at hz
            have hlen : (Builtin.zeroCells z.cells len).toList.length = len * j.size := by rw [Array.length_toList, size_zeroCells, z4]
            obtain ⟨r1, r2, r3⟩ := put_does (P := P) (hw.alike f2) (by rw [f2.1]; exact f1) hp hst hz hlen h12
            refine Does.after f2 (fun _ => ⟨ρ, _, .tuple #[], ?_, hv0 _, r2, r3⟩)
            obtain ⟨l1, rfl⟩ : ∃ k, len = k + 1 := ⟨len - 1, by omega⟩
            simp [Builtin.clear_, ht, run_underlying (hik.slice hsd), z1, r1]
end
end Go.Proofs.YtdbgppknggaooaaGreatDoor.Vm
namespace Go.Proofs.YtdbgppknggaooaaGreatDoor.Vm
open Go
section
variable {P : Program} {s s' s1 : St} {ρ ρ' : Ren} {w w' : World} {t e : TypeId} {i j : TyI}
def AppX (P : Program) (w : World) (d : TypeDesc) (j : TyI) (z : Value) (y : Value) (n : Nat) (us : Array Value) : Prop :=
  (∃ k kk, d = .int k ∧ y = .int kk (n : Int) ∧ n ≤ 100000 ∧ n * j.bytes ≤ 100000000 ∧ us = Builtin.zeroCells z.cells n) ∨
  (((∃ k, d = .slice k) ∨ d = .string) ∧ ∀ w', w'.heap = w.heap → (Builtin.lenOf y).run P w' = .ok n w' ∧ (Builtin.firstCells j.size n y).run P w' = .ok us w')
theorem wrap_small (n : Nat) (h : n ≤ 100000) : IntKind.i64.wrap (n : Int) = n := IntWalk.i64_in (n : Int) ⟨by omega, by omega⟩
theorem append_place_run {y : Value} {n b o len c : Nat} {us : Array Value} {ts : Array TypeId} {tx ty : TypeId} {d : TypeDesc} {inf : TypeInfo} {z : Value} (ht : ts[0]? = some t) (htx : ts[1]? = some tx) (hu : P.underlying t = some (.slice e)) (hd : P.underlying tx = some d)
    (i1 : P.info? e = some inf) (i2 : inf.size = j.size) (i3 : inf.bytes = j.bytes) (i4 : inf.zero = some z) (hn0 : n ≠ 0) (hs0 : j.size ≠ 0) (hx : AppX P w d j z y n us) (hle : len + n ≤ c) :
    (Builtin.append_ ts ty #[.slice (some ⟨b, o, none⟩) len c, y]).run P w = ((storeCells ⟨b, o + len * j.size, none⟩ us.toList).run P w).andThen fun _ w' => .ok (.slice (some ⟨b, o, none⟩) (len + n) c) w' := by
  have hsz : (sizeOf e).run P w = .ok j.size w := by simp [sizeOf, typeInfo, run_program, i1, i2]
  have hti : ∀ w, (typeInfo e).run P w = .ok inf w := fun w => by simp [typeInfo, run_program, i1]
  have hzv : ∀ w, (zeroValue e).run P w = .ok z w := fun w => by simp [zeroValue, typeInfo, run_program, i1, i4]
  rcases hx with ⟨k, kk, rfl, rfl, h1, h2, rfl⟩ | ⟨h1, h2⟩
  · have e1 : ¬ ((n : Int) * (j.bytes : Int) > 2 ^ 48) := by
      have : ((n * j.bytes : Nat) : Int) ≤ 100000000 := by omega
      rw [Int.natCast_mul] at this
      omega
    have e2 : ¬ (n * j.size = 0) := fun e => by rcases Nat.mul_eq_zero.1 e with h | h <;> omega
    have e3 : ¬ ((n : Int) < 0) := by omega
    have e1' : ¬ (281474976710656 < (n : Int) * (j.bytes : Int)) := by simpa using e1
    simp [Builtin.append_, ht, htx, run_underlying hu, run_underlying hd, hsz, asInt, asIntOf, wrap_small n h1, hti, i3, e1', e2, e3, hle, hzv, add_plain]
  · obtain ⟨g1, g2⟩ := h2 w rfl
    rcases h1 with ⟨k, rfl⟩ | rfl <;> simp [Builtin.append_, ht, htx, run_underlying hu, run_underlying hd, hsz, g1, g2, hle, add_plain]
theorem append_none_run {y : Value} {base : Option Addr} {len c : Nat} {us : Array Value} {ts : Array TypeId} {tx ty : TypeId} {d : TypeDesc} {inf : TypeInfo} {z : Value} (ht : ts[0]? = some t) (htx : ts[1]? = some tx) (hu : P.underlying t = some (.slice e)) (hd : P.underlying tx = some d)
    (i1 : P.info? e = some inf) (i2 : inf.size = j.size) (hx : AppX P w d j z y 0 us) (hus : us.size = 0) (hle : len ≤ c) :
    (Builtin.append_ ts ty #[.slice base len c, y]).run P w = .ok (.slice base len c) w := by
  have hsz : (sizeOf e).run P w = .ok j.size w := by simp [sizeOf, typeInfo, run_program, i1, i2]
  have hti : ∀ w, (typeInfo e).run P w = .ok inf w := fun w => by simp [typeInfo, run_program, i1]
  have hst : ∀ a, (storeCells a []).run P w = .ok () w := fun a => by simp [storeCells]
  obtain rfl : us = #[] := Array.eq_empty_of_size_eq_zero hus
  rcases hx with ⟨k, kk, rfl, rfl, h1, h2, h3⟩ | ⟨h1, h2⟩
  · have hw : IntKind.i64.wrap 0 = 0 := wrap_small 0 (by omega)
    cases base <;> simp [Builtin.append_, ht, htx, run_underlying hu, run_underlying hd, hsz, asInt, asIntOf, hw, hti, hle, hst]
  · obtain ⟨g1, g2⟩ := h2 w rfl
    rcases h1 with ⟨k, rfl⟩ | rfl <;> cases base <;> simp [Builtin.append_, ht, htx, run_underlying hu, run_underlying hd, hsz, g1, g2, hle, hst]
theorem append_grow_run {y : Value} {n len c : Nat} {base : Option Addr} {us old : Array Value} {ts : Array TypeId} {tx ty : TypeId} {d : TypeDesc} {inf : TypeInfo} {z : Value} (ht : ts[0]? = some t) (htx : ts[1]? = some tx) (hu : P.underlying t = some (.slice e)) (hd : P.underlying tx = some d)
    (i1 : P.info? e = some inf) (i2 : inf.size = j.size) (i3 : inf.bytes = j.bytes) (i4 : inf.zero = some z) (hn0 : n ≠ 0) (hs0 : j.size ≠ 0) (hx : AppX P w d j z y n us) (hlt : c < len + n)
    (hb1 : (len + n) * j.bytes ≤ 100000000) (hb2 : len + n ≤ 100000000) (hold : (Builtin.firstCells j.size len (.slice base len c)).run P w.drew = .ok old w.drew) :
    ∃ cap, len + n ≤ cap ∧ (Builtin.append_ ts ty #[.slice base len c, y]).run P w = .ok (.slice (some ⟨w.heap.size, 0, none⟩) (len + n) cap) (w.drew.alloc (.cells (old ++ us ++ Builtin.zeroCells z.cells (cap - (len + n))) e (0, 0))) := by
  have hsz : ∀ w, (sizeOf e).run P w = .ok j.size w := by simp [sizeOf, typeInfo, run_program, i1, i2]
  have hti : ∀ w, (typeInfo e).run P w = .ok inf w := fun w => by simp [typeInfo, run_program, i1]
  have hzv : ∀ w, (zeroValue e).run P w = .ok z w := fun w => by simp [zeroValue, typeInfo, run_program, i1, i4]
  have hroom : ∀ m w, (askRoom m).run P w = .ok () w := fun m w => by unfold askRoom; split <;> rfl
  have e5 : ¬ (len + n ≤ c) := by omega
  have e6 : ¬ (9223372036854775807 < (len : Int) + (n : Int)) := by omega
  have e7 : ¬ (281474976710656 < Builtin.nextslicecap (len + n) c * j.bytes) := by
    have := Room.nextslicecap_le' hlt
    have h2 : Builtin.nextslicecap (len + n) c * j.bytes ≤ 2 * (len + n) * j.bytes := Nat.mul_le_mul_right _ this
    rw [Nat.mul_assoc] at h2
    omega
  refine ⟨grownCap w (len + n) c e, Nat.le_add_right _ _, ?_⟩
  rcases hx with ⟨k, kk, rfl, rfl, h1, h2, rfl⟩ | ⟨h1, h2⟩
  · have e1 : ¬ ((n : Int) * (j.bytes : Int) > 2 ^ 48) := by
      have : ((n * j.bytes : Nat) : Int) ≤ 100000000 := by omega
      rw [Int.natCast_mul] at this
      omega
    have e2 : ¬ (n * j.size = 0) := fun e => by rcases Nat.mul_eq_zero.1 e with h | h <;> omega
    have e3 : ¬ ((n : Int) < 0) := by omega
    have e1' : ¬ (281474976710656 < (n : Int) * (j.bytes : Int)) := by simpa using e1
    simp [Builtin.append_, ht, htx, run_underlying hu, run_underlying hd, hsz, asInt, asIntOf, wrap_small n h1, hti, i3, e1', e2, e3, e5, e6, e7, hzv, Question.forced, grownCap, hroom, hold, newRow]
  · obtain ⟨g1, g2⟩ := h2 w rfl
    obtain ⟨g3, g4⟩ := h2 w.drew rfl
    rcases h1 with ⟨k, rfl⟩ | rfl <;> simp [Builtin.append_, ht, htx, run_underlying hu, run_underlying hd, hsz, g1, g4, e5, e6, e7, hti, i3, Question.forced, grownCap, hroom, hold, hzv, newRow]
end
end Go.Proofs.YtdbgppknggaooaaGreatDoor.Vm
