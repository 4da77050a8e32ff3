/-
  Texts of this claim, joined: VT, VU.
-/
import Derived.Test.YtdbgppknggaooaaGreatDoorBk08
set_option maxHeartbeats 6400000
set_option maxRecDepth 100000
namespace Go.Proofs.YtdbgppknggaooaaGreatDoor.Vm
open Go
section
variable {α β : Type}
theorem Loc.cond {b : Bool} {x y : M α} (hx : Loc x) (hy : Loc y) : Loc (bif b then x else y) := by cases b <;> assumption
theorem Loc.ite {p : Prop} [Decidable p] {x y : M α} (hx : Loc x) (hy : Loc y) : Loc (if p then x else y) := by split <;> assumption
theorem Loc.withTy {E : Env} {t : TypeId} {k : TyI → M α} (h : ∀ i, Loc (k i)) : Loc (withTy E t k) := by
  cases hi : E.ty.get t with
  | none => exact Loc.congr (Loc.fail "type") (by funext s; unfold Go.Proofs.YtdbgppknggaooaaGreatDoor.Vm.withTy; rw [hi]; rfl)
  | some i => exact Loc.congr (h i) (by funext s; unfold Go.Proofs.YtdbgppknggaooaaGreatDoor.Vm.withTy; rw [hi])
theorem Loc.partA (b : Bool) (l : List AV) : Loc (partA b l) := by
  cases b with
  | true => exact Loc.congr (Loc.pure (.agg l)) rfl
  | false => exact Loc.congr (Loc.of (oneA l) "one") rfl
theorem Loc.force {n : Nat} {k : Nat → M α} (h : ∀ n, Loc (k n)) : Loc (forceN n k) := by
  rw [forceN_eq]
  exact h n
theorem Loc.cmp2 (f : Int → Int → Bool) (g : ByteArray → ByteArray → Bool) (x y : AV) : Loc (cmp2 f g x y) := Loc.same fun s v s' h => by
  unfold Go.Proofs.YtdbgppknggaooaaGreatDoor.Vm.cmp2 at h ⊢
  split at h
  · rename_i p q ha hb
    by_cases hpq : p.1 = q.1
    · simp only [if_pos hpq] at h ⊢
      injection h with h1 h2
      exact ⟨h2.symm, fun _ => by rw [h1]⟩
    · rw [if_neg hpq] at h
      cases h
  · rename_i hn
    split at h
    · rename_i p q ha hb
      injection h with h1 h2
      exact ⟨h2.symm, fun s2 => by rw [h1]⟩
    · cases h
theorem Loc.int2 (f : IntKind → Int → Int → Option AV) (x y : AV) : Loc (int2 f x y) := by
  unfold Go.Proofs.YtdbgppknggaooaaGreatDoor.Vm.int2
  split
  · exact Loc.ite (Loc.of _ _) (Loc.fail _)
  · exact Loc.fail _
theorem Loc.eqNil (f : AV → Option Bool) (x y : AV) : Loc (eqNil f x y) := Loc.same fun s v s' h => by
  unfold Go.Proofs.YtdbgppknggaooaaGreatDoor.Vm.eqNil at h ⊢
  cases hx : f x with
  | none => rw [hx] at h; cases h
  | some b =>
    cases hy : f y with
    | none => rw [hx, hy] at h; cases b <;> cases h
    | some c =>
      rw [hx, hy] at h
      cases b with
      | true =>
        injection h with h1 h2
        subst h1
        exact ⟨h2.symm, fun _ => rfl⟩
      | false =>
        cases c with
        | true =>
          injection h with h1 h2
          subst h1
          exact ⟨h2.symm, fun _ => rfl⟩
        | false => cases h
theorem Loc.eqAgg (i : TyI) (x y : AV) : Loc (eqAgg i x y) := Loc.same fun s v s' h => by
  unfold Go.Proofs.YtdbgppknggaooaaGreatDoor.Vm.eqAgg at h ⊢
  cases hx : aggA x with
  | none => rw [hx] at h; cases h
  | some p =>
    cases hy : aggA y with
    | none => rw [hx, hy] at h; cases h
    | some q =>
      rw [hx, hy] at h
      cases hb : (i.flat && shapeB (isArrD i.desc) i.size i.zc p) with
      | true =>
        simp only [hb, cond_true] at h ⊢
        obtain ⟨h1, h2⟩ := M.of_ok.1 h
        exact ⟨h2, fun s2 => M.of_ok.2 ⟨h1, rfl⟩⟩
      | false => simp only [hb, cond_false] at h; cases h
theorem Loc.rd (T : Tr AV) (x : Opd) : Loc (rd T x) := Loc.same fun s v s' h => by
  unfold Go.Proofs.YtdbgppknggaooaaGreatDoor.Vm.rd at h ⊢
  cases x with
  | slot t =>
    injection h with h1 h2
    subst h1
    exact ⟨h2.symm, fun _ => rfl⟩
  | val t =>
    injection h with h1 h2
    subst h1
    exact ⟨h2.symm, fun _ => rfl⟩
  | no => cases h
theorem Loc.rowM (n : Nat) : Loc (rowM n) := by
  unfold Go.Proofs.YtdbgppknggaooaaGreatDoor.Vm.rowM
  repeat (first | exact Loc.pure _ | exact Loc.fail _ | exact Loc.of _ _ | exact Loc.getM _ | exact Loc.setM _ _ | exact Loc.newM _ | exact Loc.partA _ _ | exact Loc.cmp2 _ _ _ _ | exact Loc.int2 _ _ _ | exact Loc.eqNil _ _ _ | exact Loc.eqAgg _ _ _ | exact Loc.rd _ _ | refine Loc.withTy (fun _ => ?_) | refine Loc.bind ?_ (fun _ => ?_) | refine Loc.cond ?_ ?_ | refine Loc.ite ?_ ?_ | refine Loc.force (fun _ => ?_) | (split <;> skip))
theorem Loc.loadI (b : Bool) (n : Nat) (a : AV) : Loc (loadI b n a) := by
  unfold Go.Proofs.YtdbgppknggaooaaGreatDoor.Vm.loadI
  repeat (first | exact Loc.pure _ | exact Loc.fail _ | exact Loc.of _ _ | exact Loc.getM _ | exact Loc.setM _ _ | exact Loc.newM _ | exact Loc.partA _ _ | exact Loc.cmp2 _ _ _ _ | exact Loc.int2 _ _ _ | exact Loc.eqNil _ _ _ | exact Loc.eqAgg _ _ _ | exact Loc.rd _ _ | exact Loc.rowM _ | refine Loc.withTy (fun _ => ?_) | refine Loc.bind ?_ (fun _ => ?_) | refine Loc.cond ?_ ?_ | refine Loc.ite ?_ ?_ | refine Loc.force (fun _ => ?_) | (split <;> skip))
theorem Loc.loadM (i : TyI) (a : AV) : Loc (loadM i a) := by
  unfold Go.Proofs.YtdbgppknggaooaaGreatDoor.Vm.loadM
  repeat (first | exact Loc.pure _ | exact Loc.fail _ | exact Loc.of _ _ | exact Loc.getM _ | exact Loc.setM _ _ | exact Loc.newM _ | exact Loc.partA _ _ | exact Loc.cmp2 _ _ _ _ | exact Loc.int2 _ _ _ | exact Loc.eqNil _ _ _ | exact Loc.eqAgg _ _ _ | exact Loc.rd _ _ | exact Loc.rowM _ | exact Loc.loadI _ _ _ | refine Loc.withTy (fun _ => ?_) | refine Loc.bind ?_ (fun _ => ?_) | refine Loc.cond ?_ ?_ | refine Loc.ite ?_ ?_ | refine Loc.force (fun _ => ?_) | (split <;> skip))
theorem Loc.storeM (i : TyI) (a : AV) (v : AV) : Loc (storeM i a v) := by
  unfold Go.Proofs.YtdbgppknggaooaaGreatDoor.Vm.storeM
  repeat (first | exact Loc.pure _ | exact Loc.fail _ | exact Loc.of _ _ | exact Loc.getM _ | exact Loc.setM _ _ | exact Loc.newM _ | exact Loc.partA _ _ | exact Loc.cmp2 _ _ _ _ | exact Loc.int2 _ _ _ | exact Loc.eqNil _ _ _ | exact Loc.eqAgg _ _ _ | exact Loc.rd _ _ | exact Loc.rowM _ | exact Loc.loadI _ _ _ | exact Loc.loadM _ _ | refine Loc.withTy (fun _ => ?_) | refine Loc.bind ?_ (fun _ => ?_) | refine Loc.cond ?_ ?_ | refine Loc.ite ?_ ?_ | refine Loc.force (fun _ => ?_) | (split <;> skip))
theorem Loc.buildM (E : Env) (i : TyI) (ps : List (Nat × AV)) : Loc (buildM E i ps) := by
  unfold Go.Proofs.YtdbgppknggaooaaGreatDoor.Vm.buildM
  repeat (first | exact Loc.pure _ | exact Loc.fail _ | exact Loc.of _ _ | exact Loc.getM _ | exact Loc.setM _ _ | exact Loc.newM _ | exact Loc.partA _ _ | exact Loc.cmp2 _ _ _ _ | exact Loc.int2 _ _ _ | exact Loc.eqNil _ _ _ | exact Loc.eqAgg _ _ _ | exact Loc.rd _ _ | exact Loc.rowM _ | exact Loc.loadI _ _ _ | exact Loc.loadM _ _ | exact Loc.storeM _ _ _ | refine Loc.withTy (fun _ => ?_) | refine Loc.bind ?_ (fun _ => ?_) | refine Loc.cond ?_ ?_ | refine Loc.ite ?_ ?_ | refine Loc.force (fun _ => ?_) | (split <;> skip))
theorem Loc.buildSliceM (E : Env) (i : TyI) (n : Nat) (ps : List (Nat × AV)) : Loc (buildSliceM E i n ps) := by
  unfold Go.Proofs.YtdbgppknggaooaaGreatDoor.Vm.buildSliceM
  repeat (first | exact Loc.pure _ | exact Loc.fail _ | exact Loc.of _ _ | exact Loc.getM _ | exact Loc.setM _ _ | exact Loc.newM _ | exact Loc.partA _ _ | exact Loc.cmp2 _ _ _ _ | exact Loc.int2 _ _ _ | exact Loc.eqNil _ _ _ | exact Loc.eqAgg _ _ _ | exact Loc.rd _ _ | exact Loc.rowM _ | exact Loc.loadI _ _ _ | exact Loc.loadM _ _ | exact Loc.storeM _ _ _ | exact Loc.buildM _ _ _ | refine Loc.withTy (fun _ => ?_) | refine Loc.bind ?_ (fun _ => ?_) | refine Loc.cond ?_ ?_ | refine Loc.ite ?_ ?_ | refine Loc.force (fun _ => ?_) | (split <;> skip))
theorem Loc.eqP (E : Env) (d : TyD) (x y : AV) : Loc (eqP E d x y) := by
  cases hx : addrA x with
  | none => exact Loc.congr (Loc.eqNil nilP x y) (by funext s; unfold Go.Proofs.YtdbgppknggaooaaGreatDoor.Vm.eqP; rw [hx])
  | some p =>
    cases hy : addrA y with
    | none => exact Loc.congr (Loc.eqNil nilP x y) (by funext s; unfold Go.Proofs.YtdbgppknggaooaaGreatDoor.Vm.eqP; rw [hx, hy])
    | some q =>
      refine Loc.congr (m := M.bind (M.of (ptrD d) "eq: pointer") fun e => Go.Proofs.YtdbgppknggaooaaGreatDoor.Vm.withTy E e fun j => bif Nat.beq j.size 0 then M.fail "eq: no cells" else
        M.bind (Go.Proofs.YtdbgppknggaooaaGreatDoor.Vm.rowM p.1) fun _ => M.bind (Go.Proofs.YtdbgppknggaooaaGreatDoor.Vm.rowM q.1) fun _ => M.pure (Nat.beq p.1 q.1 && Nat.beq p.2 q.2)) ?_ (by funext s; unfold Go.Proofs.YtdbgppknggaooaaGreatDoor.Vm.eqP; rw [hx, hy])
      repeat (first | exact Loc.pure _ | exact Loc.fail _ | exact Loc.of _ _ | exact Loc.getM _ | exact Loc.setM _ _ | exact Loc.newM _ | exact Loc.partA _ _ | exact Loc.cmp2 _ _ _ _ | exact Loc.int2 _ _ _ | exact Loc.eqNil _ _ _ | exact Loc.eqAgg _ _ _ | exact Loc.rd _ _ | exact Loc.rowM _ | exact Loc.loadI _ _ _ | exact Loc.loadM _ _ | exact Loc.storeM _ _ _ | exact Loc.buildM _ _ _ | exact Loc.buildSliceM _ _ _ _ | refine Loc.withTy (fun _ => ?_) | refine Loc.bind ?_ (fun _ => ?_) | refine Loc.cond ?_ ?_ | refine Loc.ite ?_ ?_ | refine Loc.force (fun _ => ?_) | (split <;> skip))
theorem Loc.eqRef (d : TyD) (x : AV) (y : AV) : Loc (eqRef d x y) := by
  unfold Go.Proofs.YtdbgppknggaooaaGreatDoor.Vm.eqRef
  repeat (first | exact Loc.pure _ | exact Loc.fail _ | exact Loc.of _ _ | exact Loc.getM _ | exact Loc.setM _ _ | exact Loc.newM _ | exact Loc.partA _ _ | exact Loc.cmp2 _ _ _ _ | exact Loc.int2 _ _ _ | exact Loc.eqNil _ _ _ | exact Loc.eqAgg _ _ _ | exact Loc.rd _ _ | exact Loc.rowM _ | exact Loc.loadI _ _ _ | exact Loc.loadM _ _ | exact Loc.storeM _ _ _ | exact Loc.buildM _ _ _ | exact Loc.buildSliceM _ _ _ _ | exact Loc.eqP _ _ _ _ | refine Loc.withTy (fun _ => ?_) | refine Loc.bind ?_ (fun _ => ?_) | refine Loc.cond ?_ ?_ | refine Loc.ite ?_ ?_ | refine Loc.force (fun _ => ?_) | (split <;> skip))
theorem Loc.eqT (E : Env) (i : TyI) (b : Bool) (x : AV) (y : AV) : Loc (eqT E i b x y) := by
  unfold Go.Proofs.YtdbgppknggaooaaGreatDoor.Vm.eqT
  repeat (first | exact Loc.pure _ | exact Loc.fail _ | exact Loc.of _ _ | exact Loc.getM _ | exact Loc.setM _ _ | exact Loc.newM _ | exact Loc.partA _ _ | exact Loc.cmp2 _ _ _ _ | exact Loc.int2 _ _ _ | exact Loc.eqNil _ _ _ | exact Loc.eqAgg _ _ _ | exact Loc.rd _ _ | exact Loc.rowM _ | exact Loc.loadI _ _ _ | exact Loc.loadM _ _ | exact Loc.storeM _ _ _ | exact Loc.buildM _ _ _ | exact Loc.buildSliceM _ _ _ _ | exact Loc.eqP _ _ _ _ | exact Loc.eqRef _ _ _ | refine Loc.withTy (fun _ => ?_) | refine Loc.bind ?_ (fun _ => ?_) | refine Loc.cond ?_ ?_ | refine Loc.ite ?_ ?_ | refine Loc.force (fun _ => ?_) | (split <;> skip))
theorem Loc.sh2 (f : IntKind → Int → Nat → AV) (x : AV) (y : AV) : Loc (sh2 f x y) := by
  unfold Go.Proofs.YtdbgppknggaooaaGreatDoor.Vm.sh2
  repeat (first | exact Loc.pure _ | exact Loc.fail _ | exact Loc.of _ _ | exact Loc.getM _ | exact Loc.setM _ _ | exact Loc.newM _ | exact Loc.partA _ _ | exact Loc.cmp2 _ _ _ _ | exact Loc.int2 _ _ _ | exact Loc.eqNil _ _ _ | exact Loc.eqAgg _ _ _ | exact Loc.rd _ _ | exact Loc.rowM _ | exact Loc.loadI _ _ _ | exact Loc.loadM _ _ | exact Loc.storeM _ _ _ | exact Loc.buildM _ _ _ | exact Loc.buildSliceM _ _ _ _ | exact Loc.eqP _ _ _ _ | exact Loc.eqRef _ _ _ | exact Loc.eqT _ _ _ _ _ | refine Loc.withTy (fun _ => ?_) | refine Loc.bind ?_ (fun _ => ?_) | refine Loc.cond ?_ ?_ | refine Loc.ite ?_ ?_ | refine Loc.force (fun _ => ?_) | (split <;> skip))
theorem Loc.addA (x y : AV) : Loc (addA x y) := by
  cases hx : strA x with
  | none => exact Loc.congr (Loc.int2 _ x y) (by funext s; unfold Go.Proofs.YtdbgppknggaooaaGreatDoor.Vm.addA; rw [hx])
  | some p =>
    cases hy : strA y with
    | none => exact Loc.congr (Loc.int2 _ x y) (by funext s; unfold Go.Proofs.YtdbgppknggaooaaGreatDoor.Vm.addA; rw [hx, hy])
    | some q =>
      refine Loc.congr (m := bif Nat.ble (Nat.add p.data.size q.data.size) 1000000 then M.pure (.str (p ++ q)) else M.fail "string: great") (Loc.cond (Loc.pure _) (Loc.fail _)) ?_
      funext s
      unfold Go.Proofs.YtdbgppknggaooaaGreatDoor.Vm.addA
      simp only [hx, hy]
      cases Nat.ble (Nat.add p.data.size q.data.size) 1000000 <;> rfl
theorem Loc.binF (E : Env) (op : BinOp) (t : TypeId) (b : Bool) (x : AV) (y : AV) : Loc (binF E op t b x y) := by
  cases op <;>
  unfold Go.Proofs.YtdbgppknggaooaaGreatDoor.Vm.binF
  repeat (first | exact Loc.pure _ | exact Loc.fail _ | exact Loc.of _ _ | exact Loc.getM _ | exact Loc.setM _ _ | exact Loc.newM _ | exact Loc.partA _ _ | exact Loc.cmp2 _ _ _ _ | exact Loc.int2 _ _ _ | exact Loc.eqNil _ _ _ | exact Loc.eqAgg _ _ _ | exact Loc.rd _ _ | exact Loc.rowM _ | exact Loc.loadI _ _ _ | exact Loc.loadM _ _ | exact Loc.storeM _ _ _ | exact Loc.buildM _ _ _ | exact Loc.buildSliceM _ _ _ _ | exact Loc.eqP _ _ _ _ | exact Loc.eqRef _ _ _ | exact Loc.eqT _ _ _ _ _ | exact Loc.sh2 _ _ _ | exact Loc.addA _ _ | refine Loc.withTy (fun _ => ?_) | refine Loc.bind ?_ (fun _ => ?_) | refine Loc.cond ?_ ?_ | refine Loc.ite ?_ ?_ | refine Loc.force (fun _ => ?_) | (split <;> skip))
theorem Loc.unF (op : UnOp) (x : AV) : Loc (unF op x) := by
  cases op <;>
  unfold Go.Proofs.YtdbgppknggaooaaGreatDoor.Vm.unF
  repeat (first | exact Loc.pure _ | exact Loc.fail _ | exact Loc.of _ _ | exact Loc.getM _ | exact Loc.setM _ _ | exact Loc.newM _ | exact Loc.partA _ _ | exact Loc.cmp2 _ _ _ _ | exact Loc.int2 _ _ _ | exact Loc.eqNil _ _ _ | exact Loc.eqAgg _ _ _ | exact Loc.rd _ _ | exact Loc.rowM _ | exact Loc.loadI _ _ _ | exact Loc.loadM _ _ | exact Loc.storeM _ _ _ | exact Loc.buildM _ _ _ | exact Loc.buildSliceM _ _ _ _ | exact Loc.eqP _ _ _ _ | exact Loc.eqRef _ _ _ | exact Loc.eqT _ _ _ _ _ | exact Loc.sh2 _ _ _ | exact Loc.addA _ _ | exact Loc.binF _ _ _ _ _ _ | refine Loc.withTy (fun _ => ?_) | refine Loc.bind ?_ (fun _ => ?_) | refine Loc.cond ?_ ?_ | refine Loc.ite ?_ ?_ | refine Loc.force (fun _ => ?_) | (split <;> skip))
theorem Loc.cellsM (n : Nat) (x : AV) : Loc (cellsM n x) := by
  unfold Go.Proofs.YtdbgppknggaooaaGreatDoor.Vm.cellsM
  repeat (first | exact Loc.pure _ | exact Loc.fail _ | exact Loc.of _ _ | exact Loc.getM _ | exact Loc.setM _ _ | exact Loc.newM _ | exact Loc.partA _ _ | exact Loc.cmp2 _ _ _ _ | exact Loc.int2 _ _ _ | exact Loc.eqNil _ _ _ | exact Loc.eqAgg _ _ _ | exact Loc.rd _ _ | exact Loc.rowM _ | exact Loc.loadI _ _ _ | exact Loc.loadM _ _ | exact Loc.storeM _ _ _ | exact Loc.buildM _ _ _ | exact Loc.buildSliceM _ _ _ _ | exact Loc.eqP _ _ _ _ | exact Loc.eqRef _ _ _ | exact Loc.eqT _ _ _ _ _ | exact Loc.sh2 _ _ _ | exact Loc.addA _ _ | exact Loc.binF _ _ _ _ _ _ | exact Loc.unF _ _ | refine Loc.withTy (fun _ => ?_) | refine Loc.bind ?_ (fun _ => ?_) | refine Loc.cond ?_ ?_ | refine Loc.ite ?_ ?_ | refine Loc.force (fun _ => ?_) | (split <;> skip))
theorem Loc.convF (E : Env) (a : TypeId) (b : TypeId) (x : AV) : Loc (convF E a b x) := by
  unfold Go.Proofs.YtdbgppknggaooaaGreatDoor.Vm.convF
  repeat (first | exact Loc.pure _ | exact Loc.fail _ | exact Loc.of _ _ | exact Loc.getM _ | exact Loc.setM _ _ | exact Loc.newM _ | exact Loc.partA _ _ | exact Loc.cmp2 _ _ _ _ | exact Loc.int2 _ _ _ | exact Loc.eqNil _ _ _ | exact Loc.eqAgg _ _ _ | exact Loc.rd _ _ | exact Loc.rowM _ | exact Loc.loadI _ _ _ | exact Loc.loadM _ _ | exact Loc.storeM _ _ _ | exact Loc.buildM _ _ _ | exact Loc.buildSliceM _ _ _ _ | exact Loc.eqP _ _ _ _ | exact Loc.eqRef _ _ _ | exact Loc.eqT _ _ _ _ _ | exact Loc.sh2 _ _ _ | exact Loc.addA _ _ | exact Loc.binF _ _ _ _ _ _ | exact Loc.unF _ _ | exact Loc.cellsM _ _ | refine Loc.withTy (fun _ => ?_) | refine Loc.bind ?_ (fun _ => ?_) | refine Loc.cond ?_ ?_ | refine Loc.ite ?_ ?_ | refine Loc.force (fun _ => ?_) | (split <;> skip))
theorem Loc.makeSliceM (E : Env) (i : TyI) (l : AV) (c : AV) : Loc (makeSliceM E i l c) := by
  unfold Go.Proofs.YtdbgppknggaooaaGreatDoor.Vm.makeSliceM
  repeat (first | exact Loc.pure _ | exact Loc.fail _ | exact Loc.of _ _ | exact Loc.getM _ | exact Loc.setM _ _ | exact Loc.newM _ | exact Loc.partA _ _ | exact Loc.cmp2 _ _ _ _ | exact Loc.int2 _ _ _ | exact Loc.eqNil _ _ _ | exact Loc.eqAgg _ _ _ | exact Loc.rd _ _ | exact Loc.rowM _ | exact Loc.loadI _ _ _ | exact Loc.loadM _ _ | exact Loc.storeM _ _ _ | exact Loc.buildM _ _ _ | exact Loc.buildSliceM _ _ _ _ | exact Loc.eqP _ _ _ _ | exact Loc.eqRef _ _ _ | exact Loc.eqT _ _ _ _ _ | exact Loc.sh2 _ _ _ | exact Loc.addA _ _ | exact Loc.binF _ _ _ _ _ _ | exact Loc.unF _ _ | exact Loc.cellsM _ _ | exact Loc.convF _ _ _ _ | refine Loc.withTy (fun _ => ?_) | refine Loc.bind ?_ (fun _ => ?_) | refine Loc.cond ?_ ?_ | refine Loc.ite ?_ ?_ | refine Loc.force (fun _ => ?_) | (split <;> skip))
theorem Loc.fieldAddrM (E : Env) (i : TyI) (f : Nat) (x : AV) : Loc (fieldAddrM E i f x) := by
  unfold Go.Proofs.YtdbgppknggaooaaGreatDoor.Vm.fieldAddrM
  repeat (first | exact Loc.pure _ | exact Loc.fail _ | exact Loc.of _ _ | exact Loc.getM _ | exact Loc.setM _ _ | exact Loc.newM _ | exact Loc.partA _ _ | exact Loc.cmp2 _ _ _ _ | exact Loc.int2 _ _ _ | exact Loc.eqNil _ _ _ | exact Loc.eqAgg _ _ _ | exact Loc.rd _ _ | exact Loc.rowM _ | exact Loc.loadI _ _ _ | exact Loc.loadM _ _ | exact Loc.storeM _ _ _ | exact Loc.buildM _ _ _ | exact Loc.buildSliceM _ _ _ _ | exact Loc.eqP _ _ _ _ | exact Loc.eqRef _ _ _ | exact Loc.eqT _ _ _ _ _ | exact Loc.sh2 _ _ _ | exact Loc.addA _ _ | exact Loc.binF _ _ _ _ _ _ | exact Loc.unF _ _ | exact Loc.cellsM _ _ | exact Loc.convF _ _ _ _ | exact Loc.makeSliceM _ _ _ _ | refine Loc.withTy (fun _ => ?_) | refine Loc.bind ?_ (fun _ => ?_) | refine Loc.cond ?_ ?_ | refine Loc.ite ?_ ?_ | refine Loc.force (fun _ => ?_) | (split <;> skip))
theorem Loc.fieldM (E : Env) (i : TyI) (f : Nat) (x : AV) : Loc (fieldM E i f x) := by
  unfold Go.Proofs.YtdbgppknggaooaaGreatDoor.Vm.fieldM
  repeat (first | exact Loc.pure _ | exact Loc.fail _ | exact Loc.of _ _ | exact Loc.getM _ | exact Loc.setM _ _ | exact Loc.newM _ | exact Loc.partA _ _ | exact Loc.cmp2 _ _ _ _ | exact Loc.int2 _ _ _ | exact Loc.eqNil _ _ _ | exact Loc.eqAgg _ _ _ | exact Loc.rd _ _ | exact Loc.rowM _ | exact Loc.loadI _ _ _ | exact Loc.loadM _ _ | exact Loc.storeM _ _ _ | exact Loc.buildM _ _ _ | exact Loc.buildSliceM _ _ _ _ | exact Loc.eqP _ _ _ _ | exact Loc.eqRef _ _ _ | exact Loc.eqT _ _ _ _ _ | exact Loc.sh2 _ _ _ | exact Loc.addA _ _ | exact Loc.binF _ _ _ _ _ _ | exact Loc.unF _ _ | exact Loc.cellsM _ _ | exact Loc.convF _ _ _ _ | exact Loc.makeSliceM _ _ _ _ | exact Loc.fieldAddrM _ _ _ _ | refine Loc.withTy (fun _ => ?_) | refine Loc.bind ?_ (fun _ => ?_) | refine Loc.cond ?_ ?_ | refine Loc.ite ?_ ?_ | refine Loc.force (fun _ => ?_) | (split <;> skip))
theorem Loc.indexAddrM (E : Env) (i : TyI) (x : AV) (y : AV) : Loc (indexAddrM E i x y) := by
  unfold Go.Proofs.YtdbgppknggaooaaGreatDoor.Vm.indexAddrM
  repeat (first | exact Loc.pure _ | exact Loc.fail _ | exact Loc.of _ _ | exact Loc.getM _ | exact Loc.setM _ _ | exact Loc.newM _ | exact Loc.partA _ _ | exact Loc.cmp2 _ _ _ _ | exact Loc.int2 _ _ _ | exact Loc.eqNil _ _ _ | exact Loc.eqAgg _ _ _ | exact Loc.rd _ _ | exact Loc.rowM _ | exact Loc.loadI _ _ _ | exact Loc.loadM _ _ | exact Loc.storeM _ _ _ | exact Loc.buildM _ _ _ | exact Loc.buildSliceM _ _ _ _ | exact Loc.eqP _ _ _ _ | exact Loc.eqRef _ _ _ | exact Loc.eqT _ _ _ _ _ | exact Loc.sh2 _ _ _ | exact Loc.addA _ _ | exact Loc.binF _ _ _ _ _ _ | exact Loc.unF _ _ | exact Loc.cellsM _ _ | exact Loc.convF _ _ _ _ | exact Loc.makeSliceM _ _ _ _ | exact Loc.fieldAddrM _ _ _ _ | exact Loc.fieldM _ _ _ _ | refine Loc.withTy (fun _ => ?_) | refine Loc.bind ?_ (fun _ => ?_) | refine Loc.cond ?_ ?_ | refine Loc.ite ?_ ?_ | refine Loc.force (fun _ => ?_) | (split <;> skip))
theorem Loc.indexM (E : Env) (i : TyI) (x : AV) (y : AV) : Loc (indexM E i x y) := by
  unfold Go.Proofs.YtdbgppknggaooaaGreatDoor.Vm.indexM
  repeat (first | exact Loc.pure _ | exact Loc.fail _ | exact Loc.of _ _ | exact Loc.getM _ | exact Loc.setM _ _ | exact Loc.newM _ | exact Loc.partA _ _ | exact Loc.cmp2 _ _ _ _ | exact Loc.int2 _ _ _ | exact Loc.eqNil _ _ _ | exact Loc.eqAgg _ _ _ | exact Loc.rd _ _ | exact Loc.rowM _ | exact Loc.loadI _ _ _ | exact Loc.loadM _ _ | exact Loc.storeM _ _ _ | exact Loc.buildM _ _ _ | exact Loc.buildSliceM _ _ _ _ | exact Loc.eqP _ _ _ _ | exact Loc.eqRef _ _ _ | exact Loc.eqT _ _ _ _ _ | exact Loc.sh2 _ _ _ | exact Loc.addA _ _ | exact Loc.binF _ _ _ _ _ _ | exact Loc.unF _ _ | exact Loc.cellsM _ _ | exact Loc.convF _ _ _ _ | exact Loc.makeSliceM _ _ _ _ | exact Loc.fieldAddrM _ _ _ _ | exact Loc.fieldM _ _ _ _ | exact Loc.indexAddrM _ _ _ _ | refine Loc.withTy (fun _ => ?_) | refine Loc.bind ?_ (fun _ => ?_) | refine Loc.cond ?_ ?_ | refine Loc.ite ?_ ?_ | refine Loc.force (fun _ => ?_) | (split <;> skip))
theorem Loc.sliceM (E : Env) (i : TyI) (x : AV) (l : Option AV) (h : Option AV) (m : Option AV) : Loc (sliceM E i x l h m) := by
  unfold Go.Proofs.YtdbgppknggaooaaGreatDoor.Vm.sliceM
  repeat (first | exact Loc.pure _ | exact Loc.fail _ | exact Loc.of _ _ | exact Loc.getM _ | exact Loc.setM _ _ | exact Loc.newM _ | exact Loc.partA _ _ | exact Loc.cmp2 _ _ _ _ | exact Loc.int2 _ _ _ | exact Loc.eqNil _ _ _ | exact Loc.eqAgg _ _ _ | exact Loc.rd _ _ | exact Loc.rowM _ | exact Loc.loadI _ _ _ | exact Loc.loadM _ _ | exact Loc.storeM _ _ _ | exact Loc.buildM _ _ _ | exact Loc.buildSliceM _ _ _ _ | exact Loc.eqP _ _ _ _ | exact Loc.eqRef _ _ _ | exact Loc.eqT _ _ _ _ _ | exact Loc.sh2 _ _ _ | exact Loc.addA _ _ | exact Loc.binF _ _ _ _ _ _ | exact Loc.unF _ _ | exact Loc.cellsM _ _ | exact Loc.convF _ _ _ _ | exact Loc.makeSliceM _ _ _ _ | exact Loc.fieldAddrM _ _ _ _ | exact Loc.fieldM _ _ _ _ | exact Loc.indexAddrM _ _ _ _ | exact Loc.indexM _ _ _ _ | refine Loc.withTy (fun _ => ?_) | refine Loc.bind ?_ (fun _ => ?_) | refine Loc.cond ?_ ?_ | refine Loc.ite ?_ ?_ | refine Loc.force (fun _ => ?_) | (split <;> skip))
theorem Loc.mapM (n : Nat) : Loc (mapM n) := by
  unfold Go.Proofs.YtdbgppknggaooaaGreatDoor.Vm.mapM
  repeat (first | exact Loc.pure _ | exact Loc.fail _ | exact Loc.of _ _ | exact Loc.getM _ | exact Loc.setM _ _ | exact Loc.newM _ | exact Loc.partA _ _ | exact Loc.cmp2 _ _ _ _ | exact Loc.int2 _ _ _ | exact Loc.eqNil _ _ _ | exact Loc.eqAgg _ _ _ | exact Loc.rd _ _ | exact Loc.rowM _ | exact Loc.loadI _ _ _ | exact Loc.loadM _ _ | exact Loc.storeM _ _ _ | exact Loc.buildM _ _ _ | exact Loc.buildSliceM _ _ _ _ | exact Loc.eqP _ _ _ _ | exact Loc.eqRef _ _ _ | exact Loc.eqT _ _ _ _ _ | exact Loc.sh2 _ _ _ | exact Loc.addA _ _ | exact Loc.binF _ _ _ _ _ _ | exact Loc.unF _ _ | exact Loc.cellsM _ _ | exact Loc.convF _ _ _ _ | exact Loc.makeSliceM _ _ _ _ | exact Loc.fieldAddrM _ _ _ _ | exact Loc.fieldM _ _ _ _ | exact Loc.indexAddrM _ _ _ _ | exact Loc.indexM _ _ _ _ | exact Loc.sliceM _ _ _ _ _ _ | refine Loc.withTy (fun _ => ?_) | refine Loc.bind ?_ (fun _ => ?_) | refine Loc.cond ?_ ?_ | refine Loc.ite ?_ ?_ | refine Loc.force (fun _ => ?_) | (split <;> skip))
theorem Loc.withKey {E : Env} {t : TypeId} {a : AV} {k : KeyC → M α} (h : ∀ i, Loc (k i)) : Loc (withKey E t a k) := by
  unfold Go.Proofs.YtdbgppknggaooaaGreatDoor.Vm.withKey
  exact Loc.withTy fun i => Loc.cond (h _) (Loc.cond (h _) (Loc.fail _))
theorem Loc.lookDone (b : Bool) (z : AV) (r : Option (Nat × AV)) : Loc (lookDone b z r) := by
  unfold Go.Proofs.YtdbgppknggaooaaGreatDoor.Vm.lookDone
  repeat (first | exact Loc.pure _ | exact Loc.fail _ | exact Loc.of _ _ | exact Loc.getM _ | exact Loc.setM _ _ | exact Loc.newM _ | exact Loc.partA _ _ | exact Loc.cmp2 _ _ _ _ | exact Loc.int2 _ _ _ | exact Loc.eqNil _ _ _ | exact Loc.eqAgg _ _ _ | exact Loc.rd _ _ | exact Loc.rowM _ | exact Loc.loadI _ _ _ | exact Loc.loadM _ _ | exact Loc.storeM _ _ _ | exact Loc.buildM _ _ _ | exact Loc.buildSliceM _ _ _ _ | exact Loc.eqP _ _ _ _ | exact Loc.eqRef _ _ _ | exact Loc.eqT _ _ _ _ _ | exact Loc.sh2 _ _ _ | exact Loc.addA _ _ | exact Loc.binF _ _ _ _ _ _ | exact Loc.unF _ _ | exact Loc.cellsM _ _ | exact Loc.convF _ _ _ _ | exact Loc.makeSliceM _ _ _ _ | exact Loc.fieldAddrM _ _ _ _ | exact Loc.fieldM _ _ _ _ | exact Loc.indexAddrM _ _ _ _ | exact Loc.indexM _ _ _ _ | exact Loc.sliceM _ _ _ _ _ _ | exact Loc.mapM _ | refine Loc.withTy (fun _ => ?_) | refine Loc.bind ?_ (fun _ => ?_) | refine Loc.cond ?_ ?_ | refine Loc.ite ?_ ?_ | refine Loc.force (fun _ => ?_) | (split <;> skip))
theorem Loc.lookupM (E : Env) (i : TyI) (b : Bool) (x : AV) (k : AV) : Loc (lookupM E i b x k) := by
  unfold Go.Proofs.YtdbgppknggaooaaGreatDoor.Vm.lookupM
  repeat (first | exact Loc.pure _ | exact Loc.fail _ | exact Loc.of _ _ | exact Loc.getM _ | exact Loc.setM _ _ | exact Loc.newM _ | exact Loc.partA _ _ | exact Loc.cmp2 _ _ _ _ | exact Loc.int2 _ _ _ | exact Loc.eqNil _ _ _ | exact Loc.eqAgg _ _ _ | exact Loc.rd _ _ | exact Loc.rowM _ | exact Loc.loadI _ _ _ | exact Loc.loadM _ _ | exact Loc.storeM _ _ _ | exact Loc.buildM _ _ _ | exact Loc.buildSliceM _ _ _ _ | exact Loc.eqP _ _ _ _ | exact Loc.eqRef _ _ _ | exact Loc.eqT _ _ _ _ _ | exact Loc.sh2 _ _ _ | exact Loc.addA _ _ | exact Loc.binF _ _ _ _ _ _ | exact Loc.unF _ _ | exact Loc.cellsM _ _ | exact Loc.convF _ _ _ _ | exact Loc.makeSliceM _ _ _ _ | exact Loc.fieldAddrM _ _ _ _ | exact Loc.fieldM _ _ _ _ | exact Loc.indexAddrM _ _ _ _ | exact Loc.indexM _ _ _ _ | exact Loc.sliceM _ _ _ _ _ _ | exact Loc.mapM _ | exact Loc.lookDone _ _ _ | refine Loc.withTy (fun _ => ?_) | refine Loc.bind ?_ (fun _ => ?_) | refine Loc.cond ?_ ?_ | refine Loc.ite ?_ ?_ | refine Loc.force (fun _ => ?_) | refine Loc.withKey (fun _ => ?_) | (split <;> skip))
theorem Loc.updateM (E : Env) (i : TyI) (x : AV) (k : AV) (v : AV) : Loc (updateM E i x k v) := by
  unfold Go.Proofs.YtdbgppknggaooaaGreatDoor.Vm.updateM
  repeat (first | exact Loc.pure _ | exact Loc.fail _ | exact Loc.of _ _ | exact Loc.getM _ | exact Loc.setM _ _ | exact Loc.newM _ | exact Loc.partA _ _ | exact Loc.cmp2 _ _ _ _ | exact Loc.int2 _ _ _ | exact Loc.eqNil _ _ _ | exact Loc.eqAgg _ _ _ | exact Loc.rd _ _ | exact Loc.rowM _ | exact Loc.loadI _ _ _ | exact Loc.loadM _ _ | exact Loc.storeM _ _ _ | exact Loc.buildM _ _ _ | exact Loc.buildSliceM _ _ _ _ | exact Loc.eqP _ _ _ _ | exact Loc.eqRef _ _ _ | exact Loc.eqT _ _ _ _ _ | exact Loc.sh2 _ _ _ | exact Loc.addA _ _ | exact Loc.binF _ _ _ _ _ _ | exact Loc.unF _ _ | exact Loc.cellsM _ _ | exact Loc.convF _ _ _ _ | exact Loc.makeSliceM _ _ _ _ | exact Loc.fieldAddrM _ _ _ _ | exact Loc.fieldM _ _ _ _ | exact Loc.indexAddrM _ _ _ _ | exact Loc.indexM _ _ _ _ | exact Loc.sliceM _ _ _ _ _ _ | exact Loc.mapM _ | exact Loc.lookDone _ _ _ | exact Loc.lookupM _ _ _ _ _ | refine Loc.withTy (fun _ => ?_) | refine Loc.bind ?_ (fun _ => ?_) | refine Loc.cond ?_ ?_ | refine Loc.ite ?_ ?_ | refine Loc.force (fun _ => ?_) | refine Loc.withKey (fun _ => ?_) | (split <;> skip))
theorem Loc.deleteM (E : Env) (i : TyI) (x : AV) (k : AV) : Loc (deleteM E i x k) := by
  unfold Go.Proofs.YtdbgppknggaooaaGreatDoor.Vm.deleteM
  repeat (first | exact Loc.pure _ | exact Loc.fail _ | exact Loc.of _ _ | exact Loc.getM _ | exact Loc.setM _ _ | exact Loc.newM _ | exact Loc.partA _ _ | exact Loc.cmp2 _ _ _ _ | exact Loc.int2 _ _ _ | exact Loc.eqNil _ _ _ | exact Loc.eqAgg _ _ _ | exact Loc.rd _ _ | exact Loc.rowM _ | exact Loc.loadI _ _ _ | exact Loc.loadM _ _ | exact Loc.storeM _ _ _ | exact Loc.buildM _ _ _ | exact Loc.buildSliceM _ _ _ _ | exact Loc.eqP _ _ _ _ | exact Loc.eqRef _ _ _ | exact Loc.eqT _ _ _ _ _ | exact Loc.sh2 _ _ _ | exact Loc.addA _ _ | exact Loc.binF _ _ _ _ _ _ | exact Loc.unF _ _ | exact Loc.cellsM _ _ | exact Loc.convF _ _ _ _ | exact Loc.makeSliceM _ _ _ _ | exact Loc.fieldAddrM _ _ _ _ | exact Loc.fieldM _ _ _ _ | exact Loc.indexAddrM _ _ _ _ | exact Loc.indexM _ _ _ _ | exact Loc.sliceM _ _ _ _ _ _ | exact Loc.mapM _ | exact Loc.lookDone _ _ _ | exact Loc.lookupM _ _ _ _ _ | exact Loc.updateM _ _ _ _ _ | refine Loc.withTy (fun _ => ?_) | refine Loc.bind ?_ (fun _ => ?_) | refine Loc.cond ?_ ?_ | refine Loc.ite ?_ ?_ | refine Loc.force (fun _ => ?_) | refine Loc.withKey (fun _ => ?_) | (split <;> skip))
theorem Loc.rangeM (i : TyI) (x : AV) : Loc (rangeM i x) := by
  unfold Go.Proofs.YtdbgppknggaooaaGreatDoor.Vm.rangeM
  repeat (first | exact Loc.pure _ | exact Loc.fail _ | exact Loc.of _ _ | exact Loc.getM _ | exact Loc.setM _ _ | exact Loc.newM _ | exact Loc.partA _ _ | exact Loc.cmp2 _ _ _ _ | exact Loc.int2 _ _ _ | exact Loc.eqNil _ _ _ | exact Loc.eqAgg _ _ _ | exact Loc.rd _ _ | exact Loc.rowM _ | exact Loc.loadI _ _ _ | exact Loc.loadM _ _ | exact Loc.storeM _ _ _ | exact Loc.buildM _ _ _ | exact Loc.buildSliceM _ _ _ _ | exact Loc.eqP _ _ _ _ | exact Loc.eqRef _ _ _ | exact Loc.eqT _ _ _ _ _ | exact Loc.sh2 _ _ _ | exact Loc.addA _ _ | exact Loc.binF _ _ _ _ _ _ | exact Loc.unF _ _ | exact Loc.cellsM _ _ | exact Loc.convF _ _ _ _ | exact Loc.makeSliceM _ _ _ _ | exact Loc.fieldAddrM _ _ _ _ | exact Loc.fieldM _ _ _ _ | exact Loc.indexAddrM _ _ _ _ | exact Loc.indexM _ _ _ _ | exact Loc.sliceM _ _ _ _ _ _ | exact Loc.mapM _ | exact Loc.lookDone _ _ _ | exact Loc.lookupM _ _ _ _ _ | exact Loc.updateM _ _ _ _ _ | exact Loc.deleteM _ _ _ _ | refine Loc.withTy (fun _ => ?_) | refine Loc.bind ?_ (fun _ => ?_) | refine Loc.cond ?_ ?_ | refine Loc.ite ?_ ?_ | refine Loc.force (fun _ => ?_) | refine Loc.withKey (fun _ => ?_) | (split <;> skip))
theorem Loc.next1 (n : Nat) (m : Nat) (since : Nat) (seen : List Nat) (last : Nat) (c : Nat) (l : List Ent) : Loc (next1 n m since seen last c l) := by
  unfold Go.Proofs.YtdbgppknggaooaaGreatDoor.Vm.next1
  repeat (first | exact Loc.pure _ | exact Loc.fail _ | exact Loc.of _ _ | exact Loc.getM _ | exact Loc.setM _ _ | exact Loc.newM _ | exact Loc.partA _ _ | exact Loc.cmp2 _ _ _ _ | exact Loc.int2 _ _ _ | exact Loc.eqNil _ _ _ | exact Loc.eqAgg _ _ _ | exact Loc.rd _ _ | exact Loc.rowM _ | exact Loc.loadI _ _ _ | exact Loc.loadM _ _ | exact Loc.storeM _ _ _ | exact Loc.buildM _ _ _ | exact Loc.buildSliceM _ _ _ _ | exact Loc.eqP _ _ _ _ | exact Loc.eqRef _ _ _ | exact Loc.eqT _ _ _ _ _ | exact Loc.sh2 _ _ _ | exact Loc.addA _ _ | exact Loc.binF _ _ _ _ _ _ | exact Loc.unF _ _ | exact Loc.cellsM _ _ | exact Loc.convF _ _ _ _ | exact Loc.makeSliceM _ _ _ _ | exact Loc.fieldAddrM _ _ _ _ | exact Loc.fieldM _ _ _ _ | exact Loc.indexAddrM _ _ _ _ | exact Loc.indexM _ _ _ _ | exact Loc.sliceM _ _ _ _ _ _ | exact Loc.mapM _ | exact Loc.lookDone _ _ _ | exact Loc.lookupM _ _ _ _ _ | exact Loc.updateM _ _ _ _ _ | exact Loc.deleteM _ _ _ _ | exact Loc.rangeM _ _ | refine Loc.withTy (fun _ => ?_) | refine Loc.bind ?_ (fun _ => ?_) | refine Loc.cond ?_ ?_ | refine Loc.ite ?_ ?_ | refine Loc.force (fun _ => ?_) | refine Loc.withKey (fun _ => ?_) | (split <;> skip))
theorem Loc.nextM (x : AV) : Loc (nextM x) := by
  unfold Go.Proofs.YtdbgppknggaooaaGreatDoor.Vm.nextM
  repeat (first | exact Loc.pure _ | exact Loc.fail _ | exact Loc.of _ _ | exact Loc.getM _ | exact Loc.setM _ _ | exact Loc.newM _ | exact Loc.partA _ _ | exact Loc.cmp2 _ _ _ _ | exact Loc.int2 _ _ _ | exact Loc.eqNil _ _ _ | exact Loc.eqAgg _ _ _ | exact Loc.rd _ _ | exact Loc.rowM _ | exact Loc.loadI _ _ _ | exact Loc.loadM _ _ | exact Loc.storeM _ _ _ | exact Loc.buildM _ _ _ | exact Loc.buildSliceM _ _ _ _ | exact Loc.eqP _ _ _ _ | exact Loc.eqRef _ _ _ | exact Loc.eqT _ _ _ _ _ | exact Loc.sh2 _ _ _ | exact Loc.addA _ _ | exact Loc.binF _ _ _ _ _ _ | exact Loc.unF _ _ | exact Loc.cellsM _ _ | exact Loc.convF _ _ _ _ | exact Loc.makeSliceM _ _ _ _ | exact Loc.fieldAddrM _ _ _ _ | exact Loc.fieldM _ _ _ _ | exact Loc.indexAddrM _ _ _ _ | exact Loc.indexM _ _ _ _ | exact Loc.sliceM _ _ _ _ _ _ | exact Loc.mapM _ | exact Loc.lookDone _ _ _ | exact Loc.lookupM _ _ _ _ _ | exact Loc.updateM _ _ _ _ _ | exact Loc.deleteM _ _ _ _ | exact Loc.rangeM _ _ | exact Loc.next1 _ _ _ _ _ _ _ | refine Loc.withTy (fun _ => ?_) | refine Loc.bind ?_ (fun _ => ?_) | refine Loc.cond ?_ ?_ | refine Loc.ite ?_ ?_ | refine Loc.force (fun _ => ?_) | refine Loc.withKey (fun _ => ?_) | (split <;> skip))
theorem Loc.step1 (n : Nat) (s : ByteArray) (pos : Nat) (c : Nat) (k : Nat) : Loc (step1 n s pos c k) := by
  unfold Go.Proofs.YtdbgppknggaooaaGreatDoor.Vm.step1
  repeat (first | exact Loc.pure _ | exact Loc.fail _ | exact Loc.of _ _ | exact Loc.getM _ | exact Loc.setM _ _ | exact Loc.newM _ | exact Loc.partA _ _ | exact Loc.cmp2 _ _ _ _ | exact Loc.int2 _ _ _ | exact Loc.eqNil _ _ _ | exact Loc.eqAgg _ _ _ | exact Loc.rd _ _ | exact Loc.rowM _ | exact Loc.loadI _ _ _ | exact Loc.loadM _ _ | exact Loc.storeM _ _ _ | exact Loc.buildM _ _ _ | exact Loc.buildSliceM _ _ _ _ | exact Loc.eqP _ _ _ _ | exact Loc.eqRef _ _ _ | exact Loc.eqT _ _ _ _ _ | exact Loc.sh2 _ _ _ | exact Loc.addA _ _ | exact Loc.binF _ _ _ _ _ _ | exact Loc.unF _ _ | exact Loc.cellsM _ _ | exact Loc.convF _ _ _ _ | exact Loc.makeSliceM _ _ _ _ | exact Loc.fieldAddrM _ _ _ _ | exact Loc.fieldM _ _ _ _ | exact Loc.indexAddrM _ _ _ _ | exact Loc.indexM _ _ _ _ | exact Loc.sliceM _ _ _ _ _ _ | exact Loc.mapM _ | exact Loc.lookDone _ _ _ | exact Loc.lookupM _ _ _ _ _ | exact Loc.updateM _ _ _ _ _ | exact Loc.deleteM _ _ _ _ | exact Loc.rangeM _ _ | exact Loc.next1 _ _ _ _ _ _ _ | exact Loc.nextM _ | refine Loc.withTy (fun _ => ?_) | refine Loc.bind ?_ (fun _ => ?_) | refine Loc.cond ?_ ?_ | refine Loc.ite ?_ ?_ | refine Loc.force (fun _ => ?_) | refine Loc.withKey (fun _ => ?_) | (split <;> skip))
theorem Loc.nextS (x : AV) : Loc (nextS x) := by
  unfold Go.Proofs.YtdbgppknggaooaaGreatDoor.Vm.nextS
  repeat (first | exact Loc.pure _ | exact Loc.fail _ | exact Loc.of _ _ | exact Loc.getM _ | exact Loc.setM _ _ | exact Loc.newM _ | exact Loc.partA _ _ | exact Loc.cmp2 _ _ _ _ | exact Loc.int2 _ _ _ | exact Loc.eqNil _ _ _ | exact Loc.eqAgg _ _ _ | exact Loc.rd _ _ | exact Loc.rowM _ | exact Loc.loadI _ _ _ | exact Loc.loadM _ _ | exact Loc.storeM _ _ _ | exact Loc.buildM _ _ _ | exact Loc.buildSliceM _ _ _ _ | exact Loc.eqP _ _ _ _ | exact Loc.eqRef _ _ _ | exact Loc.eqT _ _ _ _ _ | exact Loc.sh2 _ _ _ | exact Loc.addA _ _ | exact Loc.binF _ _ _ _ _ _ | exact Loc.unF _ _ | exact Loc.cellsM _ _ | exact Loc.convF _ _ _ _ | exact Loc.makeSliceM _ _ _ _ | exact Loc.fieldAddrM _ _ _ _ | exact Loc.fieldM _ _ _ _ | exact Loc.indexAddrM _ _ _ _ | exact Loc.indexM _ _ _ _ | exact Loc.sliceM _ _ _ _ _ _ | exact Loc.mapM _ | exact Loc.lookDone _ _ _ | exact Loc.lookupM _ _ _ _ _ | exact Loc.updateM _ _ _ _ _ | exact Loc.deleteM _ _ _ _ | exact Loc.rangeM _ _ | exact Loc.next1 _ _ _ _ _ _ _ | exact Loc.nextM _ | exact Loc.step1 _ _ _ _ _ | refine Loc.withTy (fun _ => ?_) | refine Loc.bind ?_ (fun _ => ?_) | refine Loc.cond ?_ ?_ | refine Loc.ite ?_ ?_ | refine Loc.force (fun _ => ?_) | refine Loc.withKey (fun _ => ?_) | (split <;> skip))
theorem Loc.entryM (x : AV) : Loc (entryM x) := by
  unfold Go.Proofs.YtdbgppknggaooaaGreatDoor.Vm.entryM
  repeat (first | exact Loc.pure _ | exact Loc.fail _ | exact Loc.of _ _ | exact Loc.getM _ | exact Loc.setM _ _ | exact Loc.newM _ | exact Loc.partA _ _ | exact Loc.cmp2 _ _ _ _ | exact Loc.int2 _ _ _ | exact Loc.eqNil _ _ _ | exact Loc.eqAgg _ _ _ | exact Loc.rd _ _ | exact Loc.rowM _ | exact Loc.loadI _ _ _ | exact Loc.loadM _ _ | exact Loc.storeM _ _ _ | exact Loc.buildM _ _ _ | exact Loc.buildSliceM _ _ _ _ | exact Loc.eqP _ _ _ _ | exact Loc.eqRef _ _ _ | exact Loc.eqT _ _ _ _ _ | exact Loc.sh2 _ _ _ | exact Loc.addA _ _ | exact Loc.binF _ _ _ _ _ _ | exact Loc.unF _ _ | exact Loc.cellsM _ _ | exact Loc.convF _ _ _ _ | exact Loc.makeSliceM _ _ _ _ | exact Loc.fieldAddrM _ _ _ _ | exact Loc.fieldM _ _ _ _ | exact Loc.indexAddrM _ _ _ _ | exact Loc.indexM _ _ _ _ | exact Loc.sliceM _ _ _ _ _ _ | exact Loc.mapM _ | exact Loc.lookDone _ _ _ | exact Loc.lookupM _ _ _ _ _ | exact Loc.updateM _ _ _ _ _ | exact Loc.deleteM _ _ _ _ | exact Loc.rangeM _ _ | exact Loc.next1 _ _ _ _ _ _ _ | exact Loc.nextM _ | exact Loc.step1 _ _ _ _ _ | exact Loc.nextS _ | refine Loc.withTy (fun _ => ?_) | refine Loc.bind ?_ (fun _ => ?_) | refine Loc.cond ?_ ?_ | refine Loc.ite ?_ ?_ | refine Loc.force (fun _ => ?_) | refine Loc.withKey (fun _ => ?_) | (split <;> skip))
theorem Loc.appS (e : TypeId) (a : Nat) (b : Nat) (s : SlV) (new : List AV) (k : Nat) : Loc (appS e a b s new k) := by
  unfold Go.Proofs.YtdbgppknggaooaaGreatDoor.Vm.appS
  repeat (first | exact Loc.pure _ | exact Loc.fail _ | exact Loc.of _ _ | exact Loc.getM _ | exact Loc.setM _ _ | exact Loc.newM _ | exact Loc.partA _ _ | exact Loc.cmp2 _ _ _ _ | exact Loc.int2 _ _ _ | exact Loc.eqNil _ _ _ | exact Loc.eqAgg _ _ _ | exact Loc.rd _ _ | exact Loc.rowM _ | exact Loc.loadI _ _ _ | exact Loc.loadM _ _ | exact Loc.storeM _ _ _ | exact Loc.buildM _ _ _ | exact Loc.buildSliceM _ _ _ _ | exact Loc.eqP _ _ _ _ | exact Loc.eqRef _ _ _ | exact Loc.eqT _ _ _ _ _ | exact Loc.sh2 _ _ _ | exact Loc.addA _ _ | exact Loc.binF _ _ _ _ _ _ | exact Loc.unF _ _ | exact Loc.cellsM _ _ | exact Loc.convF _ _ _ _ | exact Loc.makeSliceM _ _ _ _ | exact Loc.fieldAddrM _ _ _ _ | exact Loc.fieldM _ _ _ _ | exact Loc.indexAddrM _ _ _ _ | exact Loc.indexM _ _ _ _ | exact Loc.sliceM _ _ _ _ _ _ | exact Loc.mapM _ | exact Loc.lookDone _ _ _ | exact Loc.lookupM _ _ _ _ _ | exact Loc.updateM _ _ _ _ _ | exact Loc.deleteM _ _ _ _ | exact Loc.rangeM _ _ | exact Loc.next1 _ _ _ _ _ _ _ | exact Loc.nextM _ | exact Loc.step1 _ _ _ _ _ | exact Loc.nextS _ | exact Loc.entryM _ | refine Loc.withTy (fun _ => ?_) | refine Loc.bind ?_ (fun _ => ?_) | refine Loc.cond ?_ ?_ | refine Loc.ite ?_ ?_ | refine Loc.force (fun _ => ?_) | refine Loc.withKey (fun _ => ?_) | (split <;> skip))
theorem Loc.appM (e : TypeId) (j : TyI) (s : AV) (new : List AV) (k : Nat) : Loc (appM e j s new k) := by
  unfold Go.Proofs.YtdbgppknggaooaaGreatDoor.Vm.appM
  repeat (first | exact Loc.pure _ | exact Loc.fail _ | exact Loc.of _ _ | exact Loc.getM _ | exact Loc.setM _ _ | exact Loc.newM _ | exact Loc.partA _ _ | exact Loc.cmp2 _ _ _ _ | exact Loc.int2 _ _ _ | exact Loc.eqNil _ _ _ | exact Loc.eqAgg _ _ _ | exact Loc.rd _ _ | exact Loc.rowM _ | exact Loc.loadI _ _ _ | exact Loc.loadM _ _ | exact Loc.storeM _ _ _ | exact Loc.buildM _ _ _ | exact Loc.buildSliceM _ _ _ _ | exact Loc.eqP _ _ _ _ | exact Loc.eqRef _ _ _ | exact Loc.eqT _ _ _ _ _ | exact Loc.sh2 _ _ _ | exact Loc.addA _ _ | exact Loc.binF _ _ _ _ _ _ | exact Loc.unF _ _ | exact Loc.cellsM _ _ | exact Loc.convF _ _ _ _ | exact Loc.makeSliceM _ _ _ _ | exact Loc.fieldAddrM _ _ _ _ | exact Loc.fieldM _ _ _ _ | exact Loc.indexAddrM _ _ _ _ | exact Loc.indexM _ _ _ _ | exact Loc.sliceM _ _ _ _ _ _ | exact Loc.mapM _ | exact Loc.lookDone _ _ _ | exact Loc.lookupM _ _ _ _ _ | exact Loc.updateM _ _ _ _ _ | exact Loc.deleteM _ _ _ _ | exact Loc.rangeM _ _ | exact Loc.next1 _ _ _ _ _ _ _ | exact Loc.nextM _ | exact Loc.step1 _ _ _ _ _ | exact Loc.nextS _ | exact Loc.entryM _ | exact Loc.appS _ _ _ _ _ _ | refine Loc.withTy (fun _ => ?_) | refine Loc.bind ?_ (fun _ => ?_) | refine Loc.cond ?_ ?_ | refine Loc.ite ?_ ?_ | refine Loc.force (fun _ => ?_) | refine Loc.withKey (fun _ => ?_) | (split <;> skip))
theorem Loc.appendF (E : Env) (t : TypeId) (u : TypeId) (s : AV) (x : AV) : Loc (appendF E t u s x) := by
  unfold Go.Proofs.YtdbgppknggaooaaGreatDoor.Vm.appendF
  repeat (first | exact Loc.pure _ | exact Loc.fail _ | exact Loc.of _ _ | exact Loc.getM _ | exact Loc.setM _ _ | exact Loc.newM _ | exact Loc.partA _ _ | exact Loc.cmp2 _ _ _ _ | exact Loc.int2 _ _ _ | exact Loc.eqNil _ _ _ | exact Loc.eqAgg _ _ _ | exact Loc.rd _ _ | exact Loc.rowM _ | exact Loc.loadI _ _ _ | exact Loc.loadM _ _ | exact Loc.storeM _ _ _ | exact Loc.buildM _ _ _ | exact Loc.buildSliceM _ _ _ _ | exact Loc.eqP _ _ _ _ | exact Loc.eqRef _ _ _ | exact Loc.eqT _ _ _ _ _ | exact Loc.sh2 _ _ _ | exact Loc.addA _ _ | exact Loc.binF _ _ _ _ _ _ | exact Loc.unF _ _ | exact Loc.cellsM _ _ | exact Loc.convF _ _ _ _ | exact Loc.makeSliceM _ _ _ _ | exact Loc.fieldAddrM _ _ _ _ | exact Loc.fieldM _ _ _ _ | exact Loc.indexAddrM _ _ _ _ | exact Loc.indexM _ _ _ _ | exact Loc.sliceM _ _ _ _ _ _ | exact Loc.mapM _ | exact Loc.lookDone _ _ _ | exact Loc.lookupM _ _ _ _ _ | exact Loc.updateM _ _ _ _ _ | exact Loc.deleteM _ _ _ _ | exact Loc.rangeM _ _ | exact Loc.next1 _ _ _ _ _ _ _ | exact Loc.nextM _ | exact Loc.step1 _ _ _ _ _ | exact Loc.nextS _ | exact Loc.entryM _ | exact Loc.appS _ _ _ _ _ _ | exact Loc.appM _ _ _ _ _ | refine Loc.withTy (fun _ => ?_) | refine Loc.bind ?_ (fun _ => ?_) | refine Loc.cond ?_ ?_ | refine Loc.ite ?_ ?_ | refine Loc.force (fun _ => ?_) | refine Loc.withKey (fun _ => ?_) | (split <;> skip))
theorem Loc.lenF (E : Env) (t : TypeId) (x : AV) : Loc (lenF E t x) := by
  unfold Go.Proofs.YtdbgppknggaooaaGreatDoor.Vm.lenF
  repeat (first | exact Loc.pure _ | exact Loc.fail _ | exact Loc.of _ _ | exact Loc.getM _ | exact Loc.setM _ _ | exact Loc.newM _ | exact Loc.partA _ _ | exact Loc.cmp2 _ _ _ _ | exact Loc.int2 _ _ _ | exact Loc.eqNil _ _ _ | exact Loc.eqAgg _ _ _ | exact Loc.rd _ _ | exact Loc.rowM _ | exact Loc.loadI _ _ _ | exact Loc.loadM _ _ | exact Loc.storeM _ _ _ | exact Loc.buildM _ _ _ | exact Loc.buildSliceM _ _ _ _ | exact Loc.eqP _ _ _ _ | exact Loc.eqRef _ _ _ | exact Loc.eqT _ _ _ _ _ | exact Loc.sh2 _ _ _ | exact Loc.addA _ _ | exact Loc.binF _ _ _ _ _ _ | exact Loc.unF _ _ | exact Loc.cellsM _ _ | exact Loc.convF _ _ _ _ | exact Loc.makeSliceM _ _ _ _ | exact Loc.fieldAddrM _ _ _ _ | exact Loc.fieldM _ _ _ _ | exact Loc.indexAddrM _ _ _ _ | exact Loc.indexM _ _ _ _ | exact Loc.sliceM _ _ _ _ _ _ | exact Loc.mapM _ | exact Loc.lookDone _ _ _ | exact Loc.lookupM _ _ _ _ _ | exact Loc.updateM _ _ _ _ _ | exact Loc.deleteM _ _ _ _ | exact Loc.rangeM _ _ | exact Loc.next1 _ _ _ _ _ _ _ | exact Loc.nextM _ | exact Loc.step1 _ _ _ _ _ | exact Loc.nextS _ | exact Loc.entryM _ | exact Loc.appS _ _ _ _ _ _ | exact Loc.appM _ _ _ _ _ | exact Loc.appendF _ _ _ _ _ | refine Loc.withTy (fun _ => ?_) | refine Loc.bind ?_ (fun _ => ?_) | refine Loc.cond ?_ ?_ | refine Loc.ite ?_ ?_ | refine Loc.force (fun _ => ?_) | refine Loc.withKey (fun _ => ?_) | (split <;> skip))
theorem Loc.copyF (E : Env) (t : TypeId) (d : AV) (x : AV) : Loc (copyF E t d x) := by
  unfold Go.Proofs.YtdbgppknggaooaaGreatDoor.Vm.copyF
  repeat (first | exact Loc.pure _ | exact Loc.fail _ | exact Loc.of _ _ | exact Loc.getM _ | exact Loc.setM _ _ | exact Loc.newM _ | exact Loc.partA _ _ | exact Loc.cmp2 _ _ _ _ | exact Loc.int2 _ _ _ | exact Loc.eqNil _ _ _ | exact Loc.eqAgg _ _ _ | exact Loc.rd _ _ | exact Loc.rowM _ | exact Loc.loadI _ _ _ | exact Loc.loadM _ _ | exact Loc.storeM _ _ _ | exact Loc.buildM _ _ _ | exact Loc.buildSliceM _ _ _ _ | exact Loc.eqP _ _ _ _ | exact Loc.eqRef _ _ _ | exact Loc.eqT _ _ _ _ _ | exact Loc.sh2 _ _ _ | exact Loc.addA _ _ | exact Loc.binF _ _ _ _ _ _ | exact Loc.unF _ _ | exact Loc.cellsM _ _ | exact Loc.convF _ _ _ _ | exact Loc.makeSliceM _ _ _ _ | exact Loc.fieldAddrM _ _ _ _ | exact Loc.fieldM _ _ _ _ | exact Loc.indexAddrM _ _ _ _ | exact Loc.indexM _ _ _ _ | exact Loc.sliceM _ _ _ _ _ _ | exact Loc.mapM _ | exact Loc.lookDone _ _ _ | exact Loc.lookupM _ _ _ _ _ | exact Loc.updateM _ _ _ _ _ | exact Loc.deleteM _ _ _ _ | exact Loc.rangeM _ _ | exact Loc.next1 _ _ _ _ _ _ _ | exact Loc.nextM _ | exact Loc.step1 _ _ _ _ _ | exact Loc.nextS _ | exact Loc.entryM _ | exact Loc.appS _ _ _ _ _ _ | exact Loc.appM _ _ _ _ _ | exact Loc.appendF _ _ _ _ _ | exact Loc.lenF _ _ _ | refine Loc.withTy (fun _ => ?_) | refine Loc.bind ?_ (fun _ => ?_) | refine Loc.cond ?_ ?_ | refine Loc.ite ?_ ?_ | refine Loc.force (fun _ => ?_) | refine Loc.withKey (fun _ => ?_) | (split <;> skip))
theorem Loc.clearF (E : Env) (t : TypeId) (x : AV) : Loc (clearF E t x) := by
  unfold Go.Proofs.YtdbgppknggaooaaGreatDoor.Vm.clearF
  repeat (first | exact Loc.pure _ | exact Loc.fail _ | exact Loc.of _ _ | exact Loc.getM _ | exact Loc.setM _ _ | exact Loc.newM _ | exact Loc.partA _ _ | exact Loc.cmp2 _ _ _ _ | exact Loc.int2 _ _ _ | exact Loc.eqNil _ _ _ | exact Loc.eqAgg _ _ _ | exact Loc.rd _ _ | exact Loc.rowM _ | exact Loc.loadI _ _ _ | exact Loc.loadM _ _ | exact Loc.storeM _ _ _ | exact Loc.buildM _ _ _ | exact Loc.buildSliceM _ _ _ _ | exact Loc.eqP _ _ _ _ | exact Loc.eqRef _ _ _ | exact Loc.eqT _ _ _ _ _ | exact Loc.sh2 _ _ _ | exact Loc.addA _ _ | exact Loc.binF _ _ _ _ _ _ | exact Loc.unF _ _ | exact Loc.cellsM _ _ | exact Loc.convF _ _ _ _ | exact Loc.makeSliceM _ _ _ _ | exact Loc.fieldAddrM _ _ _ _ | exact Loc.fieldM _ _ _ _ | exact Loc.indexAddrM _ _ _ _ | exact Loc.indexM _ _ _ _ | exact Loc.sliceM _ _ _ _ _ _ | exact Loc.mapM _ | exact Loc.lookDone _ _ _ | exact Loc.lookupM _ _ _ _ _ | exact Loc.updateM _ _ _ _ _ | exact Loc.deleteM _ _ _ _ | exact Loc.rangeM _ _ | exact Loc.next1 _ _ _ _ _ _ _ | exact Loc.nextM _ | exact Loc.step1 _ _ _ _ _ | exact Loc.nextS _ | exact Loc.entryM _ | exact Loc.appS _ _ _ _ _ _ | exact Loc.appM _ _ _ _ _ | exact Loc.appendF _ _ _ _ _ | exact Loc.lenF _ _ _ | exact Loc.copyF _ _ _ _ | refine Loc.withTy (fun _ => ?_) | refine Loc.bind ?_ (fun _ => ?_) | refine Loc.cond ?_ ?_ | refine Loc.ite ?_ ?_ | refine Loc.force (fun _ => ?_) | refine Loc.withKey (fun _ => ?_) | (split <;> skip))
theorem Loc.capM (i : TyI) (x : AV) : Loc (capM i x) := by
  unfold Go.Proofs.YtdbgppknggaooaaGreatDoor.Vm.capM
  repeat (first | exact Loc.pure _ | exact Loc.fail _ | exact Loc.of _ _ | exact Loc.getM _ | exact Loc.setM _ _ | exact Loc.newM _ | exact Loc.partA _ _ | exact Loc.cmp2 _ _ _ _ | exact Loc.int2 _ _ _ | exact Loc.eqNil _ _ _ | exact Loc.eqAgg _ _ _ | exact Loc.rd _ _ | exact Loc.rowM _ | exact Loc.loadI _ _ _ | exact Loc.loadM _ _ | exact Loc.storeM _ _ _ | exact Loc.buildM _ _ _ | exact Loc.buildSliceM _ _ _ _ | exact Loc.eqP _ _ _ _ | exact Loc.eqRef _ _ _ | exact Loc.eqT _ _ _ _ _ | exact Loc.sh2 _ _ _ | exact Loc.addA _ _ | exact Loc.binF _ _ _ _ _ _ | exact Loc.unF _ _ | exact Loc.cellsM _ _ | exact Loc.convF _ _ _ _ | exact Loc.makeSliceM _ _ _ _ | exact Loc.fieldAddrM _ _ _ _ | exact Loc.fieldM _ _ _ _ | exact Loc.indexAddrM _ _ _ _ | exact Loc.indexM _ _ _ _ | exact Loc.sliceM _ _ _ _ _ _ | exact Loc.mapM _ | exact Loc.lookDone _ _ _ | exact Loc.lookupM _ _ _ _ _ | exact Loc.updateM _ _ _ _ _ | exact Loc.deleteM _ _ _ _ | exact Loc.rangeM _ _ | exact Loc.next1 _ _ _ _ _ _ _ | exact Loc.nextM _ | exact Loc.step1 _ _ _ _ _ | exact Loc.nextS _ | exact Loc.entryM _ | exact Loc.appS _ _ _ _ _ _ | exact Loc.appM _ _ _ _ _ | exact Loc.appendF _ _ _ _ _ | exact Loc.lenF _ _ _ | exact Loc.copyF _ _ _ _ | exact Loc.clearF _ _ _ | refine Loc.withTy (fun _ => ?_) | refine Loc.bind ?_ (fun _ => ?_) | refine Loc.cond ?_ ?_ | refine Loc.ite ?_ ?_ | refine Loc.force (fun _ => ?_) | refine Loc.withKey (fun _ => ?_) | (split <;> skip))
theorem Loc.two {f : AV → AV → M AV} (h : ∀ x y, Loc (f x y)) (l : List AV) : Loc (two f l) := by
  unfold Go.Proofs.YtdbgppknggaooaaGreatDoor.Vm.two
  split
  · exact h _ _
  · exact Loc.fail _
theorem Loc.one {f : AV → M AV} (h : ∀ x, Loc (f x)) (l : List AV) : Loc (one f l) := by
  unfold Go.Proofs.YtdbgppknggaooaaGreatDoor.Vm.one
  split
  · exact h _
  · exact Loc.fail _
theorem Loc.argT {ts : List TypeId} {i : Nat} {k : TypeId → List AV → M AV} (h : ∀ t l, Loc (k t l)) (l : List AV) : Loc (argT ts i k l) := by
  unfold Go.Proofs.YtdbgppknggaooaaGreatDoor.Vm.argT
  cases ts[i]? with
  | some t => exact h _ _
  | none => exact Loc.fail _
theorem Loc.builtinF (E : Env) (b : Builtin) (ts : List TypeId) (l : List AV) : Loc (builtinF E b ts l) := by
  cases b <;> unfold Go.Proofs.YtdbgppknggaooaaGreatDoor.Vm.builtinF <;> first
    | exact Loc.fail _
    | exact Loc.argT (fun _ _ => Loc.argT (fun _ _ => Loc.two (fun _ _ => Loc.appendF _ _ _ _ _) _) _) _
    | exact Loc.argT (fun _ _ => Loc.one (fun _ => Loc.lenF _ _ _) _) _
    | exact Loc.argT (fun _ _ => Loc.two (fun _ _ => Loc.copyF _ _ _ _) _) _
    | exact Loc.argT (fun _ _ => Loc.one (fun _ => Loc.clearF _ _ _) _) _
    | exact Loc.argT (fun _ _ => Loc.two (fun _ _ => Loc.withTy fun _ => Loc.deleteM _ _ _ _) _) _
    | exact Loc.argT (fun _ _ => Loc.one (fun _ => Loc.withTy fun _ => Loc.capM _ _) _) _
    | exact Loc.two (fun _ _ => Loc.int2 _ _ _) _
theorem Loc.rds (T : Tr AV) : ∀ l, Loc (rds T l)
  | [] => Loc.pure _
  | _ :: r => Loc.bind (Loc.rd _ _) fun _ => Loc.bind (Loc.rds T r) fun _ => Loc.pure _
theorem Loc.rdsP (T : Tr AV) : ∀ l, Loc (rdsP T l)
  | [] => Loc.pure _
  | _ :: r => Loc.bind (Loc.rd _ _) fun _ => Loc.bind (Loc.rdsP T r) fun _ => Loc.pure _
theorem Loc.rdOpt (T : Tr AV) (x : Option Opd) : Loc (rdOpt T x) := by
  unfold Go.Proofs.YtdbgppknggaooaaGreatDoor.Vm.rdOpt
  repeat (first | exact Loc.pure _ | exact Loc.fail _ | exact Loc.of _ _ | exact Loc.getM _ | exact Loc.setM _ _ | exact Loc.newM _ | exact Loc.partA _ _ | exact Loc.cmp2 _ _ _ _ | exact Loc.int2 _ _ _ | exact Loc.eqNil _ _ _ | exact Loc.eqAgg _ _ _ | exact Loc.rd _ _ | exact Loc.rowM _ | exact Loc.loadI _ _ _ | exact Loc.loadM _ _ | exact Loc.storeM _ _ _ | exact Loc.buildM _ _ _ | exact Loc.buildSliceM _ _ _ _ | exact Loc.eqP _ _ _ _ | exact Loc.eqRef _ _ _ | exact Loc.eqT _ _ _ _ _ | exact Loc.sh2 _ _ _ | exact Loc.addA _ _ | exact Loc.binF _ _ _ _ _ _ | exact Loc.unF _ _ | exact Loc.cellsM _ _ | exact Loc.convF _ _ _ _ | exact Loc.makeSliceM _ _ _ _ | exact Loc.fieldAddrM _ _ _ _ | exact Loc.fieldM _ _ _ _ | exact Loc.indexAddrM _ _ _ _ | exact Loc.indexM _ _ _ _ | exact Loc.sliceM _ _ _ _ _ _ | exact Loc.mapM _ | exact Loc.lookDone _ _ _ | exact Loc.lookupM _ _ _ _ _ | exact Loc.updateM _ _ _ _ _ | exact Loc.deleteM _ _ _ _ | exact Loc.rangeM _ _ | exact Loc.next1 _ _ _ _ _ _ _ | exact Loc.nextM _ | exact Loc.step1 _ _ _ _ _ | exact Loc.nextS _ | exact Loc.entryM _ | exact Loc.appS _ _ _ _ _ _ | exact Loc.appM _ _ _ _ _ | exact Loc.appendF _ _ _ _ _ | exact Loc.lenF _ _ _ | exact Loc.copyF _ _ _ _ | exact Loc.clearF _ _ _ | exact Loc.capM _ _ | exact Loc.builtinF _ _ _ _ | exact Loc.rds _ _ | exact Loc.rdsP _ _ | refine Loc.withTy (fun _ => ?_) | refine Loc.bind ?_ (fun _ => ?_) | refine Loc.cond ?_ ?_ | refine Loc.ite ?_ ?_ | refine Loc.force (fun _ => ?_) | refine Loc.withKey (fun _ => ?_) | (split <;> skip))
theorem Loc.notNil (x : AV) : Loc (notNil x) := by
  unfold Go.Proofs.YtdbgppknggaooaaGreatDoor.Vm.notNil
  repeat (first | exact Loc.pure _ | exact Loc.fail _ | exact Loc.of _ _ | exact Loc.getM _ | exact Loc.setM _ _ | exact Loc.newM _ | exact Loc.partA _ _ | exact Loc.cmp2 _ _ _ _ | exact Loc.int2 _ _ _ | exact Loc.eqNil _ _ _ | exact Loc.eqAgg _ _ _ | exact Loc.rd _ _ | exact Loc.rowM _ | exact Loc.loadI _ _ _ | exact Loc.loadM _ _ | exact Loc.storeM _ _ _ | exact Loc.buildM _ _ _ | exact Loc.buildSliceM _ _ _ _ | exact Loc.eqP _ _ _ _ | exact Loc.eqRef _ _ _ | exact Loc.eqT _ _ _ _ _ | exact Loc.sh2 _ _ _ | exact Loc.addA _ _ | exact Loc.binF _ _ _ _ _ _ | exact Loc.unF _ _ | exact Loc.cellsM _ _ | exact Loc.convF _ _ _ _ | exact Loc.makeSliceM _ _ _ _ | exact Loc.fieldAddrM _ _ _ _ | exact Loc.fieldM _ _ _ _ | exact Loc.indexAddrM _ _ _ _ | exact Loc.indexM _ _ _ _ | exact Loc.sliceM _ _ _ _ _ _ | exact Loc.mapM _ | exact Loc.lookDone _ _ _ | exact Loc.lookupM _ _ _ _ _ | exact Loc.updateM _ _ _ _ _ | exact Loc.deleteM _ _ _ _ | exact Loc.rangeM _ _ | exact Loc.next1 _ _ _ _ _ _ _ | exact Loc.nextM _ | exact Loc.step1 _ _ _ _ _ | exact Loc.nextS _ | exact Loc.entryM _ | exact Loc.appS _ _ _ _ _ _ | exact Loc.appM _ _ _ _ _ | exact Loc.appendF _ _ _ _ _ | exact Loc.lenF _ _ _ | exact Loc.copyF _ _ _ _ | exact Loc.clearF _ _ _ | exact Loc.capM _ _ | exact Loc.builtinF _ _ _ _ | exact Loc.rds _ _ | exact Loc.rdsP _ _ | exact Loc.rdOpt _ _ | refine Loc.withTy (fun _ => ?_) | refine Loc.bind ?_ (fun _ => ?_) | refine Loc.cond ?_ ?_ | refine Loc.ite ?_ ?_ | refine Loc.force (fun _ => ?_) | refine Loc.withKey (fun _ => ?_) | (split <;> skip))
theorem Loc.value {m : M AV} (h : Loc m) : Loc (value m) := Loc.bind h fun _ => Loc.pure _
theorem Loc.skip {m : M Unit} (h : Loc m) : Loc (skip m) := Loc.bind h fun _ => Loc.pure _
theorem OpC.inj {f g : Tr AV → M ANext} (h : OpC.simp f = OpC.simp g) : f = g := by injection h
theorem Loc.simp {E : Env} {o : Op} {f : Tr AV → M ANext} (ho : opC E o = .simp f) (T : Tr AV) : Loc (f T) := by
  cases o <;> simp only [opC] at ho
  all_goals first
    | (obtain rfl := (OpC.inj ho).symm
       repeat (first | exact Loc.pure _ | exact Loc.fail _ | exact Loc.of _ _ | exact Loc.getM _ | exact Loc.setM _ _ | exact Loc.newM _ | exact Loc.partA _ _ | exact Loc.cmp2 _ _ _ _ | exact Loc.int2 _ _ _ | exact Loc.eqNil _ _ _ | exact Loc.eqAgg _ _ _ | exact Loc.rd _ _ | exact Loc.rowM _ | exact Loc.loadI _ _ _ | exact Loc.loadM _ _ | exact Loc.storeM _ _ _ | exact Loc.buildM _ _ _ | exact Loc.buildSliceM _ _ _ _ | exact Loc.eqP _ _ _ _ | exact Loc.eqRef _ _ _ | exact Loc.eqT _ _ _ _ _ | exact Loc.sh2 _ _ _ | exact Loc.addA _ _ | exact Loc.binF _ _ _ _ _ _ | exact Loc.unF _ _ | exact Loc.cellsM _ _ | exact Loc.convF _ _ _ _ | exact Loc.makeSliceM _ _ _ _ | exact Loc.fieldAddrM _ _ _ _ | exact Loc.fieldM _ _ _ _ | exact Loc.indexAddrM _ _ _ _ | exact Loc.indexM _ _ _ _ | exact Loc.sliceM _ _ _ _ _ _ | exact Loc.mapM _ | exact Loc.lookDone _ _ _ | exact Loc.lookupM _ _ _ _ _ | exact Loc.updateM _ _ _ _ _ | exact Loc.deleteM _ _ _ _ | exact Loc.rangeM _ _ | exact Loc.next1 _ _ _ _ _ _ _ | exact Loc.nextM _ | exact Loc.step1 _ _ _ _ _ | exact Loc.nextS _ | exact Loc.entryM _ | exact Loc.appS _ _ _ _ _ _ | exact Loc.appM _ _ _ _ _ | exact Loc.appendF _ _ _ _ _ | exact Loc.lenF _ _ _ | exact Loc.copyF _ _ _ _ | exact Loc.clearF _ _ _ | exact Loc.capM _ _ | exact Loc.builtinF _ _ _ _ | exact Loc.rds _ _ | exact Loc.rdsP _ _ | exact Loc.rdOpt _ _ | exact Loc.notNil _ | refine Loc.withTy (fun _ => ?_) | refine Loc.bind ?_ (fun _ => ?_) | refine Loc.cond ?_ ?_ | refine Loc.ite ?_ ?_ | refine Loc.force (fun _ => ?_) | refine Loc.withKey (fun _ => ?_) | refine Loc.value ?_ | refine Loc.skip ?_ | (split <;> skip))
       done)
    | skip
  case makeFunc fn y z =>
    unfold funC at ho
    cases fn <;> simp only at ho <;> obtain rfl := (OpC.inj ho).symm
    all_goals
      repeat (first | exact Loc.pure _ | exact Loc.fail _ | exact Loc.of _ _ | exact Loc.getM _ | exact Loc.setM _ _ | exact Loc.newM _ | exact Loc.partA _ _ | exact Loc.cmp2 _ _ _ _ | exact Loc.int2 _ _ _ | exact Loc.eqNil _ _ _ | exact Loc.eqAgg _ _ _ | exact Loc.rd _ _ | exact Loc.rowM _ | exact Loc.loadI _ _ _ | exact Loc.loadM _ _ | exact Loc.storeM _ _ _ | exact Loc.buildM _ _ _ | exact Loc.buildSliceM _ _ _ _ | exact Loc.eqP _ _ _ _ | exact Loc.eqRef _ _ _ | exact Loc.eqT _ _ _ _ _ | exact Loc.sh2 _ _ _ | exact Loc.addA _ _ | exact Loc.binF _ _ _ _ _ _ | exact Loc.unF _ _ | exact Loc.cellsM _ _ | exact Loc.convF _ _ _ _ | exact Loc.makeSliceM _ _ _ _ | exact Loc.fieldAddrM _ _ _ _ | exact Loc.fieldM _ _ _ _ | exact Loc.indexAddrM _ _ _ _ | exact Loc.indexM _ _ _ _ | exact Loc.sliceM _ _ _ _ _ _ | exact Loc.mapM _ | exact Loc.lookDone _ _ _ | exact Loc.lookupM _ _ _ _ _ | exact Loc.updateM _ _ _ _ _ | exact Loc.deleteM _ _ _ _ | exact Loc.rangeM _ _ | exact Loc.next1 _ _ _ _ _ _ _ | exact Loc.nextM _ | exact Loc.step1 _ _ _ _ _ | exact Loc.nextS _ | exact Loc.entryM _ | exact Loc.appS _ _ _ _ _ _ | exact Loc.appM _ _ _ _ _ | exact Loc.appendF _ _ _ _ _ | exact Loc.lenF _ _ _ | exact Loc.copyF _ _ _ _ | exact Loc.clearF _ _ _ | exact Loc.capM _ _ | exact Loc.builtinF _ _ _ _ | exact Loc.rds _ _ | exact Loc.rdsP _ _ | exact Loc.rdOpt _ _ | exact Loc.notNil _ | refine Loc.withTy (fun _ => ?_) | refine Loc.bind ?_ (fun _ => ?_) | refine Loc.cond ?_ ?_ | refine Loc.ite ?_ ?_ | refine Loc.force (fun _ => ?_) | refine Loc.withKey (fun _ => ?_) | refine Loc.value ?_ | refine Loc.skip ?_ | (split <;> skip))
  case makeMap ty r =>
    unfold mapC at ho
    cases r <;> simp only at ho <;> obtain rfl := (OpC.inj ho).symm
    all_goals
      repeat (first | exact Loc.pure _ | exact Loc.fail _ | exact Loc.of _ _ | exact Loc.getM _ | exact Loc.setM _ _ | exact Loc.newM _ | exact Loc.partA _ _ | exact Loc.cmp2 _ _ _ _ | exact Loc.int2 _ _ _ | exact Loc.eqNil _ _ _ | exact Loc.eqAgg _ _ _ | exact Loc.rd _ _ | exact Loc.rowM _ | exact Loc.loadI _ _ _ | exact Loc.loadM _ _ | exact Loc.storeM _ _ _ | exact Loc.buildM _ _ _ | exact Loc.buildSliceM _ _ _ _ | exact Loc.eqP _ _ _ _ | exact Loc.eqRef _ _ _ | exact Loc.eqT _ _ _ _ _ | exact Loc.sh2 _ _ _ | exact Loc.addA _ _ | exact Loc.binF _ _ _ _ _ _ | exact Loc.unF _ _ | exact Loc.cellsM _ _ | exact Loc.convF _ _ _ _ | exact Loc.makeSliceM _ _ _ _ | exact Loc.fieldAddrM _ _ _ _ | exact Loc.fieldM _ _ _ _ | exact Loc.indexAddrM _ _ _ _ | exact Loc.indexM _ _ _ _ | exact Loc.sliceM _ _ _ _ _ _ | exact Loc.mapM _ | exact Loc.lookDone _ _ _ | exact Loc.lookupM _ _ _ _ _ | exact Loc.updateM _ _ _ _ _ | exact Loc.deleteM _ _ _ _ | exact Loc.rangeM _ _ | exact Loc.next1 _ _ _ _ _ _ _ | exact Loc.nextM _ | exact Loc.step1 _ _ _ _ _ | exact Loc.nextS _ | exact Loc.entryM _ | exact Loc.appS _ _ _ _ _ _ | exact Loc.appM _ _ _ _ _ | exact Loc.appendF _ _ _ _ _ | exact Loc.lenF _ _ _ | exact Loc.copyF _ _ _ _ | exact Loc.clearF _ _ _ | exact Loc.capM _ _ | exact Loc.builtinF _ _ _ _ | exact Loc.rds _ _ | exact Loc.rdsP _ _ | exact Loc.rdOpt _ _ | exact Loc.notNil _ | refine Loc.withTy (fun _ => ?_) | refine Loc.bind ?_ (fun _ => ?_) | refine Loc.cond ?_ ?_ | refine Loc.ite ?_ ?_ | refine Loc.force (fun _ => ?_) | refine Loc.withKey (fun _ => ?_) | refine Loc.value ?_ | refine Loc.skip ?_ | (split <;> skip))
  case next y b =>
    unfold nextC at ho
    cases b <;> simp only at ho <;> obtain rfl := (OpC.inj ho).symm
    all_goals
      repeat (first | exact Loc.pure _ | exact Loc.fail _ | exact Loc.of _ _ | exact Loc.getM _ | exact Loc.setM _ _ | exact Loc.newM _ | exact Loc.partA _ _ | exact Loc.cmp2 _ _ _ _ | exact Loc.int2 _ _ _ | exact Loc.eqNil _ _ _ | exact Loc.eqAgg _ _ _ | exact Loc.rd _ _ | exact Loc.rowM _ | exact Loc.loadI _ _ _ | exact Loc.loadM _ _ | exact Loc.storeM _ _ _ | exact Loc.buildM _ _ _ | exact Loc.buildSliceM _ _ _ _ | exact Loc.eqP _ _ _ _ | exact Loc.eqRef _ _ _ | exact Loc.eqT _ _ _ _ _ | exact Loc.sh2 _ _ _ | exact Loc.addA _ _ | exact Loc.binF _ _ _ _ _ _ | exact Loc.unF _ _ | exact Loc.cellsM _ _ | exact Loc.convF _ _ _ _ | exact Loc.makeSliceM _ _ _ _ | exact Loc.fieldAddrM _ _ _ _ | exact Loc.fieldM _ _ _ _ | exact Loc.indexAddrM _ _ _ _ | exact Loc.indexM _ _ _ _ | exact Loc.sliceM _ _ _ _ _ _ | exact Loc.mapM _ | exact Loc.lookDone _ _ _ | exact Loc.lookupM _ _ _ _ _ | exact Loc.updateM _ _ _ _ _ | exact Loc.deleteM _ _ _ _ | exact Loc.rangeM _ _ | exact Loc.next1 _ _ _ _ _ _ _ | exact Loc.nextM _ | exact Loc.step1 _ _ _ _ _ | exact Loc.nextS _ | exact Loc.entryM _ | exact Loc.appS _ _ _ _ _ _ | exact Loc.appM _ _ _ _ _ | exact Loc.appendF _ _ _ _ _ | exact Loc.lenF _ _ _ | exact Loc.copyF _ _ _ _ | exact Loc.clearF _ _ _ | exact Loc.capM _ _ | exact Loc.builtinF _ _ _ _ | exact Loc.rds _ _ | exact Loc.rdsP _ _ | exact Loc.rdOpt _ _ | exact Loc.notNil _ | refine Loc.withTy (fun _ => ?_) | refine Loc.bind ?_ (fun _ => ?_) | refine Loc.cond ?_ ?_ | refine Loc.ite ?_ ?_ | refine Loc.force (fun _ => ?_) | refine Loc.withKey (fun _ => ?_) | refine Loc.value ?_ | refine Loc.skip ?_ | (split <;> skip))
  case call c =>
    obtain ⟨callee, args, argTypes⟩ := c
    unfold callC at ho
    cases callee with
    | builtin b =>
      obtain rfl := (OpC.inj ho).symm
      repeat (first | exact Loc.pure _ | exact Loc.fail _ | exact Loc.of _ _ | exact Loc.getM _ | exact Loc.setM _ _ | exact Loc.newM _ | exact Loc.partA _ _ | exact Loc.cmp2 _ _ _ _ | exact Loc.int2 _ _ _ | exact Loc.eqNil _ _ _ | exact Loc.eqAgg _ _ _ | exact Loc.rd _ _ | exact Loc.rowM _ | exact Loc.loadI _ _ _ | exact Loc.loadM _ _ | exact Loc.storeM _ _ _ | exact Loc.buildM _ _ _ | exact Loc.buildSliceM _ _ _ _ | exact Loc.eqP _ _ _ _ | exact Loc.eqRef _ _ _ | exact Loc.eqT _ _ _ _ _ | exact Loc.sh2 _ _ _ | exact Loc.addA _ _ | exact Loc.binF _ _ _ _ _ _ | exact Loc.unF _ _ | exact Loc.cellsM _ _ | exact Loc.convF _ _ _ _ | exact Loc.makeSliceM _ _ _ _ | exact Loc.fieldAddrM _ _ _ _ | exact Loc.fieldM _ _ _ _ | exact Loc.indexAddrM _ _ _ _ | exact Loc.indexM _ _ _ _ | exact Loc.sliceM _ _ _ _ _ _ | exact Loc.mapM _ | exact Loc.lookDone _ _ _ | exact Loc.lookupM _ _ _ _ _ | exact Loc.updateM _ _ _ _ _ | exact Loc.deleteM _ _ _ _ | exact Loc.rangeM _ _ | exact Loc.next1 _ _ _ _ _ _ _ | exact Loc.nextM _ | exact Loc.step1 _ _ _ _ _ | exact Loc.nextS _ | exact Loc.entryM _ | exact Loc.appS _ _ _ _ _ _ | exact Loc.appM _ _ _ _ _ | exact Loc.appendF _ _ _ _ _ | exact Loc.lenF _ _ _ | exact Loc.copyF _ _ _ _ | exact Loc.clearF _ _ _ | exact Loc.capM _ _ | exact Loc.builtinF _ _ _ _ | exact Loc.rds _ _ | exact Loc.rdsP _ _ | exact Loc.rdOpt _ _ | exact Loc.notNil _ | refine Loc.withTy (fun _ => ?_) | refine Loc.bind ?_ (fun _ => ?_) | refine Loc.cond ?_ ?_ | refine Loc.ite ?_ ?_ | refine Loc.force (fun _ => ?_) | refine Loc.withKey (fun _ => ?_) | refine Loc.value ?_ | refine Loc.skip ?_ | (split <;> skip))
    | value y => cases ho
    | invoke y m => cases ho
  case defer c =>
    obtain ⟨callee, args, argTypes⟩ := c
    unfold deferC at ho
    cases callee <;> simp only at ho <;> obtain rfl := (OpC.inj ho).symm
    all_goals
      repeat (first | exact Loc.pure _ | exact Loc.fail _ | exact Loc.of _ _ | exact Loc.getM _ | exact Loc.setM _ _ | exact Loc.newM _ | exact Loc.partA _ _ | exact Loc.cmp2 _ _ _ _ | exact Loc.int2 _ _ _ | exact Loc.eqNil _ _ _ | exact Loc.eqAgg _ _ _ | exact Loc.rd _ _ | exact Loc.rowM _ | exact Loc.loadI _ _ _ | exact Loc.loadM _ _ | exact Loc.storeM _ _ _ | exact Loc.buildM _ _ _ | exact Loc.buildSliceM _ _ _ _ | exact Loc.eqP _ _ _ _ | exact Loc.eqRef _ _ _ | exact Loc.eqT _ _ _ _ _ | exact Loc.sh2 _ _ _ | exact Loc.addA _ _ | exact Loc.binF _ _ _ _ _ _ | exact Loc.unF _ _ | exact Loc.cellsM _ _ | exact Loc.convF _ _ _ _ | exact Loc.makeSliceM _ _ _ _ | exact Loc.fieldAddrM _ _ _ _ | exact Loc.fieldM _ _ _ _ | exact Loc.indexAddrM _ _ _ _ | exact Loc.indexM _ _ _ _ | exact Loc.sliceM _ _ _ _ _ _ | exact Loc.mapM _ | exact Loc.lookDone _ _ _ | exact Loc.lookupM _ _ _ _ _ | exact Loc.updateM _ _ _ _ _ | exact Loc.deleteM _ _ _ _ | exact Loc.rangeM _ _ | exact Loc.next1 _ _ _ _ _ _ _ | exact Loc.nextM _ | exact Loc.step1 _ _ _ _ _ | exact Loc.nextS _ | exact Loc.entryM _ | exact Loc.appS _ _ _ _ _ _ | exact Loc.appM _ _ _ _ _ | exact Loc.appendF _ _ _ _ _ | exact Loc.lenF _ _ _ | exact Loc.copyF _ _ _ _ | exact Loc.clearF _ _ _ | exact Loc.capM _ _ | exact Loc.builtinF _ _ _ _ | exact Loc.rds _ _ | exact Loc.rdsP _ _ | exact Loc.rdOpt _ _ | exact Loc.notNil _ | refine Loc.withTy (fun _ => ?_) | refine Loc.bind ?_ (fun _ => ?_) | refine Loc.cond ?_ ?_ | refine Loc.ite ?_ ?_ | refine Loc.force (fun _ => ?_) | refine Loc.withKey (fun _ => ?_) | refine Loc.value ?_ | refine Loc.skip ?_ | (split <;> skip))
end
end Go.Proofs.YtdbgppknggaooaaGreatDoor.Vm
namespace Go.Proofs.YtdbgppknggaooaaGreatDoor.Vm
open Go
section
variable {α β : Type}
structure LocEv (ev : Ev) : Prop where
  call : ∀ f args, Loc (ev.call f args)
  callD : ∀ f args, Loc (ev.callD f args)
  code : ∀ r c a, Loc (ev.code r c a)
theorem Loc.loopM (l : Nat) : Loc (loopM l) := Loc.bind (Loc.getM _) fun _ => Loc.of _ _
theorem Loc.defsM (l : Nat) : Loc (defsM l) := Loc.bind (Loc.getM _) fun _ => Loc.bind (Loc.of _ _) fun _ => Loc.of _ _
theorem Loc.endM (l : Nat) (e : AExit) : Loc (endM l e) := Loc.bind (Loc.loopM l) fun r => by
  cases r
  exact Loc.bind (Loc.setM _ _) fun _ => Loc.pure _
theorem Loc.beginM (l : Nat) : Loc (beginM l) := Loc.bind (Loc.loopM l) fun r => by
  cases r
  exact Loc.cond (Loc.setM _ _) (Loc.fail _)
theorem Loc.roundM {ev : Ev} (hev : LocEv ev) (l : Nat) (args : List AV) : Loc (roundM ev l args) := Loc.bind (Loc.loopM l) fun r => by
  cases r
  refine Loc.cond (Loc.bind (hev.code _ _ _) fun q => Loc.cond (Loc.bind (Loc.beginM l) fun _ => Loc.bind (hev.code _ _ _) fun _ => Loc.endM _ _) (Loc.fail _)) (Loc.fail _)
theorem Loc.callV {ev : Ev} (hev : LocEv ev) (f : AV) (args : List AV) : Loc (callV ev f args) := Loc.bind (Loc.of _ _) fun g => by
  cases g
  · exact hev.call _ _
  · exact Loc.roundM hev _ _
theorem Loc.runC {E : Env} {ev : Ev} (hev : LocEv ev) (T : Tr AV) (o : Op) : Loc (runC E ev T (opC E o)) := by
  cases h : opC E o with
  | simp f => exact Loc.simp h T
  | call x args => exact Loc.bind (Loc.rds _ _) fun _ => Loc.bind (Loc.rd _ _) fun _ => Loc.value (Loc.callV hev _ _)
  | meth x m args => exact Loc.bind (Loc.rds _ _) fun _ => Loc.bind (Loc.rd _ _) fun _ => Loc.bind (Loc.of _ _) fun _ => Loc.bind (Loc.of _ _) fun _ => Loc.value (hev.call _ _)
theorem Loc.wantedA (g : Option (Option (Tmp × Bool))) (T : Tr AV) : Loc (wantedA g T) := by
  unfold Go.Proofs.YtdbgppknggaooaaGreatDoor.Vm.wantedA
  split
  · exact Loc.pure _
  · exact Loc.fail _
  · exact Loc.bind (Loc.of _ _) fun _ => Loc.pure _
theorem Loc.putA (a : AAct) (d : Option Tmp) (v : AV) : Loc (putA a d v) := by
  unfold Go.Proofs.YtdbgppknggaooaaGreatDoor.Vm.putA
  cases d with
  | none => exact Loc.pure _
  | some d =>
    cases a
    exact Loc.cond (Loc.pure _) (Loc.fail _)
theorem Loc.deferIn (r : Option Nat) (d : ADef) (a : AAct) : Loc (deferIn r d a) := by
  unfold Go.Proofs.YtdbgppknggaooaaGreatDoor.Vm.deferIn
  cases r with
  | none => cases a; exact Loc.pure _
  | some l => exact Loc.fail _
theorem Loc.doneA (r : Option Nat) (d : Option Tmp) (a : AAct) (x : ANext) : Loc (doneA r d a x) := by
  unfold Go.Proofs.YtdbgppknggaooaaGreatDoor.Vm.doneA
  cases x with
  | value v => exact Loc.putA _ _ _
  | skip => exact Loc.putA _ _ _
  | defer q => exact Loc.bind (Loc.deferIn _ _ _) fun _ => Loc.putA _ _ _
theorem Loc.operM {E : Env} {ev : Ev} (hev : LocEv ev) (r : Option Nat) (ops : List Oper) (o : Oper) (a : AAct) : Loc (operM E ev r ops o a) :=
  Loc.bind (Loc.wantedA _ _) fun _ => Loc.cond (Loc.bind (Loc.runC hev _ _) fun _ => Loc.doneA _ _ _ _) (Loc.putA _ _ _)
theorem Loc.opsM {E : Env} {ev : Ev} (hev : LocEv ev) (r : Option Nat) (ops : List Oper) : ∀ (l : List Oper) (a : AAct), Loc (opsM E ev r ops l a)
  | [], _ => Loc.pure _
  | _ :: l, _ => Loc.bind (Loc.operM hev _ _ _ _) fun _ => Loc.opsM hev r ops l _
theorem Loc.drawM {E : Env} {ev : Ev} (hev : LocEv ev) (r : Option Nat) (ops : List Oper) : ∀ (l : List Oper) (bs : List Nat) (k : Nat) (fp : FP) (a : AAct), Loc (drawM E ev r ops l bs k fp a)
  | [], _, _, _, _ => by unfold Go.Proofs.YtdbgppknggaooaaGreatDoor.Vm.drawM; exact Loc.pure _
  | _ :: _, [], _, _, _ => by unfold Go.Proofs.YtdbgppknggaooaaGreatDoor.Vm.drawM; exact Loc.fail _
  | _ :: l, _ :: bs, k, fp, a => by
    unfold Go.Proofs.YtdbgppknggaooaaGreatDoor.Vm.drawM
    exact Loc.bind (Loc.touched (Loc.operM hev _ _ _ _)) fun _ => Loc.cond (Loc.drawM hev r ops l bs _ _ _) (Loc.fail _)
theorem Loc.markM (r : Option Nat) : Loc (markM r) := by
  unfold Go.Proofs.YtdbgppknggaooaaGreatDoor.Vm.markM
  cases r with
  | none => exact Loc.bind (Loc.newM _) fun _ => Loc.pure _
  | some l => exact Loc.bind (Loc.loopM l) fun r => by cases r; exact Loc.pure _
theorem Loc.overM (l : Nat) : Loc (overM l) := Loc.bind (Loc.loopM l) fun r => by
  cases r
  exact Loc.cond (Loc.fail _) (Loc.bind (Loc.setM _ _) fun _ => Loc.of _ _)
theorem Loc.rangeC {ev : Ev} (hev : LocEv ev) (f : Opd) (ps : List Tmp) (az bd : Code) (r : Option Nat) (a : AAct) : Loc (rangeC f ps az bd ev r a) := by
  unfold Go.Proofs.YtdbgppknggaooaaGreatDoor.Vm.rangeC
  cases a
  exact Loc.bind (Loc.markM r) fun _ => Loc.bind (Loc.newM _) fun _ => Loc.bind (Loc.rd _ _) fun _ => Loc.bind (Loc.of _ _) fun _ => Loc.bind (hev.call _ _) fun _ => Loc.bind (Loc.overM _) fun _ => Loc.pure _
theorem Loc.loopN {x : Ev → Option Nat → AAct → M (AExit × AAct)} {ev : Ev} {r : Option Nat} (hx : ∀ a, Loc (x ev r a)) : ∀ (n : Nat) (a : AAct), Loc (loopN x ev r n a)
  | 0, _ => Loc.fail _
  | n + 1, a => Loc.bind (hx a) fun _ => Loc.cond (Loc.loopN hx n _) (Loc.pure _)
theorem Loc.codeC {E : Env} {ev : Ev} (hev : LocEv ev) (c : Code) : ∀ (r : Option Nat) (a : AAct), Loc (codeC E c ev r a) := by
  induction c with
  | region id ops draw =>
    intro r a
    cases draw with
    | true => exact Loc.cond (Loc.bind (Loc.drawM hev _ _ _ _ _ _ _) fun _ => Loc.pure _) (Loc.fail _)
    | false => exact Loc.bind (Loc.opsM hev _ _ _ _) fun _ => Loc.pure _
  | seq x y hx hy => exact fun r a => Loc.bind (hx r a) fun q => Loc.cond (hy r q.2) (Loc.pure _)
  | cond c x y hx hy => exact fun r a => Loc.bind (Loc.rd _ _) fun _ => Loc.bind (Loc.of _ _) fun _ => Loc.cond (hx r a) (hy r a)
  | block id x hx => exact fun r a => Loc.bind (hx r a) fun _ => Loc.pure _
  | loop x hx => exact fun r a => Loc.loopN (fun a => hx r a) _ a
  | scope x hx => exact fun r a => hx r a
  | rangeFunc f ps az bd _ _ => exact fun r a => Loc.rangeC hev _ _ _ _ r a
  | exit id => exact fun r a => Loc.pure _
  | ret => exact fun r a => Loc.pure _
  | skip => exact fun r a => Loc.pure _
  | label l => exact fun r a => Loc.pure _
  | goto l => exact fun r a => Loc.fail _
  | refuse w => exact fun r a => Loc.fail _
theorem Loc.leaveM {E : Env} {ev : Ev} (hev : LocEv ev) : ∀ l : List ADef, Loc (leaveM E ev l)
  | [] => Loc.pure _
  | d :: ds => by
    unfold Go.Proofs.YtdbgppknggaooaaGreatDoor.Vm.leaveM
    cases d with
    | mark r =>
      refine Loc.bind (Loc.defsM r) fun q => ?_
      cases q with
      | nil => exact Loc.bind (Loc.setM _ _) fun _ => Loc.leaveM hev ds
      | cons _ _ => exact Loc.fail _
    | fn g args cap => exact Loc.cond (Loc.leaveM hev ds) (Loc.bind (hev.callD _ _) fun _ => Loc.leaveM hev ds)
theorem Loc.resM (E : Env) (T : Tr AV) : ∀ l, Loc (resM E T l)
  | [] => Loc.pure _
  | x :: r => by
    unfold Go.Proofs.YtdbgppknggaooaaGreatDoor.Vm.resM
    cases x with
    | tmp t => exact Loc.bind (Loc.resM E T r) fun _ => Loc.pure _
    | cell p t => exact Loc.withTy fun i => Loc.bind (Loc.loadM _ _) fun _ => Loc.bind (Loc.resM E T r) fun _ => Loc.pure _
theorem Loc.bodyC {ev : Ev} {fn : Func} {c : CodeC} (hc : ∀ a, Loc (c ev none a)) (args : List AV) : Loc (bodyC fn c ev args) := by
  refine Loc.cond (Loc.bind (hc _) fun q => Loc.cond (Loc.fail _) ?_) (Loc.fail _)
  obtain ⟨_, a⟩ := q
  cases a
  exact Loc.pure _
theorem Loc.entC {E : Env} {ev : Ev} (hev : LocEv ev) {fn : Func} {c : CodeC} (hc : ∀ a, Loc (c ev none a)) (args : List AV) : Loc (entC E fn c ev args) :=
  Loc.bind (Loc.bodyC hc args) fun _ => Loc.bind (Loc.leaveM hev _) fun _ => Loc.bind (Loc.resM _ _ _) fun _ => Loc.pure _
theorem Loc.entD {E : Env} {ev : Ev} {fn : Func} {c : CodeC} (hc : ∀ a, Loc (c ev none a)) (args : List AV) : Loc (entD E fn c ev args) := by
  refine Loc.bind (Loc.bodyC hc args) fun q => ?_
  obtain ⟨T, ds⟩ := q
  cases ds with
  | nil => exact Loc.bind (Loc.resM _ _ _) fun _ => Loc.pure _
  | cons _ _ => exact Loc.fail _
def OrcLoc (E : Env) : Prop := ∀ f o, E.orc.get f = some o → ∀ args, Loc (o args)
theorem Loc.fnC {E : Env} (hO : OrcLoc E) {ev : Ev} (hev : LocEv ev) (f : FuncId) (args : List AV) : Loc (fnC E f ev args) := by
  unfold Go.Proofs.YtdbgppknggaooaaGreatDoor.Vm.fnC
  cases ho : E.orc.get f with
  | some o => exact hO f o ho args
  | none =>
    cases E.fn.get f with
    | none => exact Loc.fail _
    | some fn =>
      simp only
      cases fn.body with
      | none => exact Loc.fail _
      | some c => exact Loc.entC hev (fun a => Loc.codeC hev c none a) args
theorem Loc.fnD {E : Env} {ev : Ev} (hev : LocEv ev) (f : FuncId) (args : List AV) : Loc (fnD E f ev args) := by
  unfold Go.Proofs.YtdbgppknggaooaaGreatDoor.Vm.fnD
  cases E.fn.get f with
  | none => exact Loc.fail _
  | some fn =>
    simp only
    cases fn.body with
    | none => exact Loc.fail _
    | some c => exact Loc.entD (fun a => Loc.codeC hev c none a) args
theorem locEv {E : Env} (hO : OrcLoc E) : ∀ n, LocEv (evN E n)
  | 0 => ⟨fun _ _ => Loc.fail _, fun _ _ => Loc.fail _, fun _ _ _ => Loc.fail _⟩
  | n + 1 => ⟨fun f args => Loc.fnC hO (locEv hO n) f args, fun f args => Loc.fnD (locEv hO n) f args, fun r c a => Loc.codeC (locEv hO n) c r a⟩
end
end Go.Proofs.YtdbgppknggaooaaGreatDoor.Vm
