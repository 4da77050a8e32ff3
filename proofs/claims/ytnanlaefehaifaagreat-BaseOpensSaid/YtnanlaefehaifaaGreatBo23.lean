/-
  Texts of this claim, joined: VT.
-/
import Derived.Test.YtnanlaefehaifaaGreatBo22
set_option maxHeartbeats 6400000
set_option maxRecDepth 100000
namespace Go.Proofs.YtnanlaefehaifaaGreat.Vm
open Go
section
variable {α β : Type}
theorem Loc.cond {b : Bool} {x y : M α} (hx : Loc x) (hy : Loc y) : Loc (bif b then x else y) := by cases b <;> assumption
theorem Loc.ite {p : Prop} [Decidable p] {x y : M α} (hx : Loc x) (hy : Loc y) : Loc (if p then x else y) := by split <;> assumption
theorem Loc.withTy {E : Env} {t : TypeId} {k : TyI → M α} (h : ∀ i, Loc (k i)) : Loc (withTy E t k) := by
  cases hi : E.ty.get t with
  | none => exact Loc.congr (Loc.fail "type") (by funext s; unfold Go.Proofs.YtnanlaefehaifaaGreat.Vm.withTy; rw [hi]; rfl)
  | some i => exact Loc.congr (h i) (by funext s; unfold Go.Proofs.YtnanlaefehaifaaGreat.Vm.withTy; rw [hi])
theorem Loc.partA (b : Bool) (l : List AV) : Loc (partA b l) := by
  cases b with
  | true => exact Loc.congr (Loc.pure (.agg l)) rfl
  | false => exact Loc.congr (Loc.of (oneA l) "one") rfl
theorem Loc.force {n : Nat} {k : Nat → M α} (h : ∀ n, Loc (k n)) : Loc (forceN n k) := by
  rw [forceN_eq]
  exact h n
theorem Loc.cmp2 (f : Int → Int → Bool) (g : ByteArray → ByteArray → Bool) (x y : AV) : Loc (cmp2 f g x y) := Loc.same fun s v s' h => by
  unfold Go.Proofs.YtnanlaefehaifaaGreat.Vm.cmp2 at h ⊢
  split at h
  · rename_i p q ha hb
    by_cases hpq : p.1 = q.1
    · simp only [if_pos hpq] at h ⊢
      injection h with h1 h2
      exact ⟨h2.symm, fun _ => by rw [h1]⟩
    · rw [if_neg hpq] at h
      cases h
  · rename_i hn
    split at h
    · rename_i p q ha hb
      injection h with h1 h2
      exact ⟨h2.symm, fun s2 => by rw [h1]⟩
    · cases h
theorem Loc.int2 (f : IntKind → Int → Int → Option AV) (x y : AV) : Loc (int2 f x y) := by
  unfold Go.Proofs.YtnanlaefehaifaaGreat.Vm.int2
  split
  · exact Loc.ite (Loc.of _ _) (Loc.fail _)
  · exact Loc.fail _
theorem Loc.eqNil (f : AV → Option Bool) (x y : AV) : Loc (eqNil f x y) := Loc.same fun s v s' h => by
  unfold Go.Proofs.YtnanlaefehaifaaGreat.Vm.eqNil at h ⊢
  cases hx : f x with
  | none => rw [hx] at h; cases h
  | some b =>
    cases hy : f y with
    | none => rw [hx, hy] at h; cases b <;> cases h
    | some c =>
      rw [hx, hy] at h
      cases b with
      | true =>
        injection h with h1 h2
        subst h1
        exact ⟨h2.symm, fun _ => rfl⟩
      | false =>
        cases c with
        | true =>
          injection h with h1 h2
          subst h1
          exact ⟨h2.symm, fun _ => rfl⟩
        | false => cases h
theorem Loc.eqAgg (i : TyI) (x y : AV) : Loc (eqAgg i x y) := Loc.same fun s v s' h => by
  unfold Go.Proofs.YtnanlaefehaifaaGreat.Vm.eqAgg at h ⊢
  cases hx : aggA x with
  | none => rw [hx] at h; cases h
  | some p =>
    cases hy : aggA y with
    | none => rw [hx, hy] at h; cases h
    | some q =>
      rw [hx, hy] at h
      cases hb : (i.flat && Nat.beq (lenC p) i.size) with
      | true =>
        simp only [hb, cond_true] at h ⊢
        obtain ⟨h1, h2⟩ := M.of_ok.1 h
        exact ⟨h2, fun s2 => M.of_ok.2 ⟨h1, rfl⟩⟩
      | false => simp only [hb, cond_false] at h; cases h
theorem Loc.rd (T : Tr AV) (x : Opd) : Loc (rd T x) := Loc.same fun s v s' h => by
  unfold Go.Proofs.YtnanlaefehaifaaGreat.Vm.rd at h ⊢
  cases x with
  | slot t =>
    injection h with h1 h2
    subst h1
    exact ⟨h2.symm, fun _ => rfl⟩
  | val t =>
    injection h with h1 h2
    subst h1
    exact ⟨h2.symm, fun _ => rfl⟩
  | no => cases h
theorem Loc.rowM (n : Nat) : Loc (rowM n) := by
  unfold Go.Proofs.YtnanlaefehaifaaGreat.Vm.rowM
  repeat (first | exact Loc.pure _ | exact Loc.fail _ | exact Loc.of _ _ | exact Loc.getM _ | exact Loc.setM _ _ | exact Loc.newM _ | exact Loc.partA _ _ | exact Loc.cmp2 _ _ _ _ | exact Loc.int2 _ _ _ | exact Loc.eqNil _ _ _ | exact Loc.eqAgg _ _ _ | exact Loc.rd _ _ | refine Loc.withTy (fun _ => ?_) | refine Loc.bind ?_ (fun _ => ?_) | refine Loc.cond ?_ ?_ | refine Loc.ite ?_ ?_ | refine Loc.force (fun _ => ?_) | (split <;> skip))
theorem Loc.loadI (b : Bool) (n : Nat) (a : AV) : Loc (loadI b n a) := by
  unfold Go.Proofs.YtnanlaefehaifaaGreat.Vm.loadI
  repeat (first | exact Loc.pure _ | exact Loc.fail _ | exact Loc.of _ _ | exact Loc.getM _ | exact Loc.setM _ _ | exact Loc.newM _ | exact Loc.partA _ _ | exact Loc.cmp2 _ _ _ _ | exact Loc.int2 _ _ _ | exact Loc.eqNil _ _ _ | exact Loc.eqAgg _ _ _ | exact Loc.rd _ _ | exact Loc.rowM _ | refine Loc.withTy (fun _ => ?_) | refine Loc.bind ?_ (fun _ => ?_) | refine Loc.cond ?_ ?_ | refine Loc.ite ?_ ?_ | refine Loc.force (fun _ => ?_) | (split <;> skip))
theorem Loc.loadM (i : TyI) (a : AV) : Loc (loadM i a) := by
  unfold Go.Proofs.YtnanlaefehaifaaGreat.Vm.loadM
  repeat (first | exact Loc.pure _ | exact Loc.fail _ | exact Loc.of _ _ | exact Loc.getM _ | exact Loc.setM _ _ | exact Loc.newM _ | exact Loc.partA _ _ | exact Loc.cmp2 _ _ _ _ | exact Loc.int2 _ _ _ | exact Loc.eqNil _ _ _ | exact Loc.eqAgg _ _ _ | exact Loc.rd _ _ | exact Loc.rowM _ | exact Loc.loadI _ _ _ | refine Loc.withTy (fun _ => ?_) | refine Loc.bind ?_ (fun _ => ?_) | refine Loc.cond ?_ ?_ | refine Loc.ite ?_ ?_ | refine Loc.force (fun _ => ?_) | (split <;> skip))
theorem Loc.storeM (i : TyI) (a : AV) (v : AV) : Loc (storeM i a v) := by
  unfold Go.Proofs.YtnanlaefehaifaaGreat.Vm.storeM
  repeat (first | exact Loc.pure _ | exact Loc.fail _ | exact Loc.of _ _ | exact Loc.getM _ | exact Loc.setM _ _ | exact Loc.newM _ | exact Loc.partA _ _ | exact Loc.cmp2 _ _ _ _ | exact Loc.int2 _ _ _ | exact Loc.eqNil _ _ _ | exact Loc.eqAgg _ _ _ | exact Loc.rd _ _ | exact Loc.rowM _ | exact Loc.loadI _ _ _ | exact Loc.loadM _ _ | refine Loc.withTy (fun _ => ?_) | refine Loc.bind ?_ (fun _ => ?_) | refine Loc.cond ?_ ?_ | refine Loc.ite ?_ ?_ | refine Loc.force (fun _ => ?_) | (split <;> skip))
theorem Loc.buildM (E : Env) (i : TyI) (ps : List (Nat × AV)) : Loc (buildM E i ps) := by
  unfold Go.Proofs.YtnanlaefehaifaaGreat.Vm.buildM
  repeat (first | exact Loc.pure _ | exact Loc.fail _ | exact Loc.of _ _ | exact Loc.getM _ | exact Loc.setM _ _ | exact Loc.newM _ | exact Loc.partA _ _ | exact Loc.cmp2 _ _ _ _ | exact Loc.int2 _ _ _ | exact Loc.eqNil _ _ _ | exact Loc.eqAgg _ _ _ | exact Loc.rd _ _ | exact Loc.rowM _ | exact Loc.loadI _ _ _ | exact Loc.loadM _ _ | exact Loc.storeM _ _ _ | refine Loc.withTy (fun _ => ?_) | refine Loc.bind ?_ (fun _ => ?_) | refine Loc.cond ?_ ?_ | refine Loc.ite ?_ ?_ | refine Loc.force (fun _ => ?_) | (split <;> skip))
theorem Loc.buildSliceM (E : Env) (i : TyI) (n : Nat) (ps : List (Nat × AV)) : Loc (buildSliceM E i n ps) := by
  unfold Go.Proofs.YtnanlaefehaifaaGreat.Vm.buildSliceM
  repeat (first | exact Loc.pure _ | exact Loc.fail _ | exact Loc.of _ _ | exact Loc.getM _ | exact Loc.setM _ _ | exact Loc.newM _ | exact Loc.partA _ _ | exact Loc.cmp2 _ _ _ _ | exact Loc.int2 _ _ _ | exact Loc.eqNil _ _ _ | exact Loc.eqAgg _ _ _ | exact Loc.rd _ _ | exact Loc.rowM _ | exact Loc.loadI _ _ _ | exact Loc.loadM _ _ | exact Loc.storeM _ _ _ | exact Loc.buildM _ _ _ | refine Loc.withTy (fun _ => ?_) | refine Loc.bind ?_ (fun _ => ?_) | refine Loc.cond ?_ ?_ | refine Loc.ite ?_ ?_ | refine Loc.force (fun _ => ?_) | (split <;> skip))
theorem Loc.eqP (E : Env) (d : TyD) (x y : AV) : Loc (eqP E d x y) := by
  cases hx : addrA x with
  | none => exact Loc.congr (Loc.eqNil nilP x y) (by funext s; unfold Go.Proofs.YtnanlaefehaifaaGreat.Vm.eqP; rw [hx])
  | some p =>
    cases hy : addrA y with
    | none => exact Loc.congr (Loc.eqNil nilP x y) (by funext s; unfold Go.Proofs.YtnanlaefehaifaaGreat.Vm.eqP; rw [hx, hy])
    | some q =>
      refine Loc.congr (m := M.bind (M.of (ptrD d) "eq: pointer") fun e => Go.Proofs.YtnanlaefehaifaaGreat.Vm.withTy E e fun j => bif Nat.beq j.size 0 then M.fail "eq: no cells" else
        M.bind (Go.Proofs.YtnanlaefehaifaaGreat.Vm.rowM p.1) fun _ => M.bind (Go.Proofs.YtnanlaefehaifaaGreat.Vm.rowM q.1) fun _ => M.pure (Nat.beq p.1 q.1 && Nat.beq p.2 q.2)) ?_ (by funext s; unfold Go.Proofs.YtnanlaefehaifaaGreat.Vm.eqP; rw [hx, hy])
      repeat (first | exact Loc.pure _ | exact Loc.fail _ | exact Loc.of _ _ | exact Loc.getM _ | exact Loc.setM _ _ | exact Loc.newM _ | exact Loc.partA _ _ | exact Loc.cmp2 _ _ _ _ | exact Loc.int2 _ _ _ | exact Loc.eqNil _ _ _ | exact Loc.eqAgg _ _ _ | exact Loc.rd _ _ | exact Loc.rowM _ | exact Loc.loadI _ _ _ | exact Loc.loadM _ _ | exact Loc.storeM _ _ _ | exact Loc.buildM _ _ _ | exact Loc.buildSliceM _ _ _ _ | refine Loc.withTy (fun _ => ?_) | refine Loc.bind ?_ (fun _ => ?_) | refine Loc.cond ?_ ?_ | refine Loc.ite ?_ ?_ | refine Loc.force (fun _ => ?_) | (split <;> skip))
theorem Loc.eqRef (d : TyD) (x : AV) (y : AV) : Loc (eqRef d x y) := by
  unfold Go.Proofs.YtnanlaefehaifaaGreat.Vm.eqRef
  repeat (first | exact Loc.pure _ | exact Loc.fail _ | exact Loc.of _ _ | exact Loc.getM _ | exact Loc.setM _ _ | exact Loc.newM _ | exact Loc.partA _ _ | exact Loc.cmp2 _ _ _ _ | exact Loc.int2 _ _ _ | exact Loc.eqNil _ _ _ | exact Loc.eqAgg _ _ _ | exact Loc.rd _ _ | exact Loc.rowM _ | exact Loc.loadI _ _ _ | exact Loc.loadM _ _ | exact Loc.storeM _ _ _ | exact Loc.buildM _ _ _ | exact Loc.buildSliceM _ _ _ _ | exact Loc.eqP _ _ _ _ | refine Loc.withTy (fun _ => ?_) | refine Loc.bind ?_ (fun _ => ?_) | refine Loc.cond ?_ ?_ | refine Loc.ite ?_ ?_ | refine Loc.force (fun _ => ?_) | (split <;> skip))
theorem Loc.eqT (E : Env) (i : TyI) (b : Bool) (x : AV) (y : AV) : Loc (eqT E i b x y) := by
  unfold Go.Proofs.YtnanlaefehaifaaGreat.Vm.eqT
  repeat (first | exact Loc.pure _ | exact Loc.fail _ | exact Loc.of _ _ | exact Loc.getM _ | exact Loc.setM _ _ | exact Loc.newM _ | exact Loc.partA _ _ | exact Loc.cmp2 _ _ _ _ | exact Loc.int2 _ _ _ | exact Loc.eqNil _ _ _ | exact Loc.eqAgg _ _ _ | exact Loc.rd _ _ | exact Loc.rowM _ | exact Loc.loadI _ _ _ | exact Loc.loadM _ _ | exact Loc.storeM _ _ _ | exact Loc.buildM _ _ _ | exact Loc.buildSliceM _ _ _ _ | exact Loc.eqP _ _ _ _ | exact Loc.eqRef _ _ _ | refine Loc.withTy (fun _ => ?_) | refine Loc.bind ?_ (fun _ => ?_) | refine Loc.cond ?_ ?_ | refine Loc.ite ?_ ?_ | refine Loc.force (fun _ => ?_) | (split <;> skip))
theorem Loc.sh2 (f : IntKind → Int → Nat → AV) (x : AV) (y : AV) : Loc (sh2 f x y) := by
  unfold Go.Proofs.YtnanlaefehaifaaGreat.Vm.sh2
  repeat (first | exact Loc.pure _ | exact Loc.fail _ | exact Loc.of _ _ | exact Loc.getM _ | exact Loc.setM _ _ | exact Loc.newM _ | exact Loc.partA _ _ | exact Loc.cmp2 _ _ _ _ | exact Loc.int2 _ _ _ | exact Loc.eqNil _ _ _ | exact Loc.eqAgg _ _ _ | exact Loc.rd _ _ | exact Loc.rowM _ | exact Loc.loadI _ _ _ | exact Loc.loadM _ _ | exact Loc.storeM _ _ _ | exact Loc.buildM _ _ _ | exact Loc.buildSliceM _ _ _ _ | exact Loc.eqP _ _ _ _ | exact Loc.eqRef _ _ _ | exact Loc.eqT _ _ _ _ _ | refine Loc.withTy (fun _ => ?_) | refine Loc.bind ?_ (fun _ => ?_) | refine Loc.cond ?_ ?_ | refine Loc.ite ?_ ?_ | refine Loc.force (fun _ => ?_) | (split <;> skip))
theorem Loc.addA (x y : AV) : Loc (addA x y) := by
  cases hx : strA x with
  | none => exact Loc.congr (Loc.int2 _ x y) (by funext s; unfold Go.Proofs.YtnanlaefehaifaaGreat.Vm.addA; rw [hx])
  | some p =>
    cases hy : strA y with
    | none => exact Loc.congr (Loc.int2 _ x y) (by funext s; unfold Go.Proofs.YtnanlaefehaifaaGreat.Vm.addA; rw [hx, hy])
    | some q =>
      refine Loc.congr (m := bif Nat.ble (Nat.add p.data.size q.data.size) 1000000 then M.pure (.str (p ++ q)) else M.fail "string: great") (Loc.cond (Loc.pure _) (Loc.fail _)) ?_
      funext s
      unfold Go.Proofs.YtnanlaefehaifaaGreat.Vm.addA
      simp only [hx, hy]
      cases Nat.ble (Nat.add p.data.size q.data.size) 1000000 <;> rfl
theorem Loc.binF (E : Env) (op : BinOp) (t : TypeId) (b : Bool) (x : AV) (y : AV) : Loc (binF E op t b x y) := by
  cases op <;>
  unfold Go.Proofs.YtnanlaefehaifaaGreat.Vm.binF
  repeat (first | exact Loc.pure _ | exact Loc.fail _ | exact Loc.of _ _ | exact Loc.getM _ | exact Loc.setM _ _ | exact Loc.newM _ | exact Loc.partA _ _ | exact Loc.cmp2 _ _ _ _ | exact Loc.int2 _ _ _ | exact Loc.eqNil _ _ _ | exact Loc.eqAgg _ _ _ | exact Loc.rd _ _ | exact Loc.rowM _ | exact Loc.loadI _ _ _ | exact Loc.loadM _ _ | exact Loc.storeM _ _ _ | exact Loc.buildM _ _ _ | exact Loc.buildSliceM _ _ _ _ | exact Loc.eqP _ _ _ _ | exact Loc.eqRef _ _ _ | exact Loc.eqT _ _ _ _ _ | exact Loc.sh2 _ _ _ | exact Loc.addA _ _ | refine Loc.withTy (fun _ => ?_) | refine Loc.bind ?_ (fun _ => ?_) | refine Loc.cond ?_ ?_ | refine Loc.ite ?_ ?_ | refine Loc.force (fun _ => ?_) | (split <;> skip))
theorem Loc.unF (op : UnOp) (x : AV) : Loc (unF op x) := by
  cases op <;>
  unfold Go.Proofs.YtnanlaefehaifaaGreat.Vm.unF
  repeat (first | exact Loc.pure _ | exact Loc.fail _ | exact Loc.of _ _ | exact Loc.getM _ | exact Loc.setM _ _ | exact Loc.newM _ | exact Loc.partA _ _ | exact Loc.cmp2 _ _ _ _ | exact Loc.int2 _ _ _ | exact Loc.eqNil _ _ _ | exact Loc.eqAgg _ _ _ | exact Loc.rd _ _ | exact Loc.rowM _ | exact Loc.loadI _ _ _ | exact Loc.loadM _ _ | exact Loc.storeM _ _ _ | exact Loc.buildM _ _ _ | exact Loc.buildSliceM _ _ _ _ | exact Loc.eqP _ _ _ _ | exact Loc.eqRef _ _ _ | exact Loc.eqT _ _ _ _ _ | exact Loc.sh2 _ _ _ | exact Loc.addA _ _ | exact Loc.binF _ _ _ _ _ _ | refine Loc.withTy (fun _ => ?_) | refine Loc.bind ?_ (fun _ => ?_) | refine Loc.cond ?_ ?_ | refine Loc.ite ?_ ?_ | refine Loc.force (fun _ => ?_) | (split <;> skip))
theorem Loc.cellsM (n : Nat) (x : AV) : Loc (cellsM n x) := by
  unfold Go.Proofs.YtnanlaefehaifaaGreat.Vm.cellsM
  repeat (first | exact Loc.pure _ | exact Loc.fail _ | exact Loc.of _ _ | exact Loc.getM _ | exact Loc.setM _ _ | exact Loc.newM _ | exact Loc.partA _ _ | exact Loc.cmp2 _ _ _ _ | exact Loc.int2 _ _ _ | exact Loc.eqNil _ _ _ | exact Loc.eqAgg _ _ _ | exact Loc.rd _ _ | exact Loc.rowM _ | exact Loc.loadI _ _ _ | exact Loc.loadM _ _ | exact Loc.storeM _ _ _ | exact Loc.buildM _ _ _ | exact Loc.buildSliceM _ _ _ _ | exact Loc.eqP _ _ _ _ | exact Loc.eqRef _ _ _ | exact Loc.eqT _ _ _ _ _ | exact Loc.sh2 _ _ _ | exact Loc.addA _ _ | exact Loc.binF _ _ _ _ _ _ | exact Loc.unF _ _ | refine Loc.withTy (fun _ => ?_) | refine Loc.bind ?_ (fun _ => ?_) | refine Loc.cond ?_ ?_ | refine Loc.ite ?_ ?_ | refine Loc.force (fun _ => ?_) | (split <;> skip))
theorem Loc.convF (E : Env) (a : TypeId) (b : TypeId) (x : AV) : Loc (convF E a b x) := by
  unfold Go.Proofs.YtnanlaefehaifaaGreat.Vm.convF
  repeat (first | exact Loc.pure _ | exact Loc.fail _ | exact Loc.of _ _ | exact Loc.getM _ | exact Loc.setM _ _ | exact Loc.newM _ | exact Loc.partA _ _ | exact Loc.cmp2 _ _ _ _ | exact Loc.int2 _ _ _ | exact Loc.eqNil _ _ _ | exact Loc.eqAgg _ _ _ | exact Loc.rd _ _ | exact Loc.rowM _ | exact Loc.loadI _ _ _ | exact Loc.loadM _ _ | exact Loc.storeM _ _ _ | exact Loc.buildM _ _ _ | exact Loc.buildSliceM _ _ _ _ | exact Loc.eqP _ _ _ _ | exact Loc.eqRef _ _ _ | exact Loc.eqT _ _ _ _ _ | exact Loc.sh2 _ _ _ | exact Loc.addA _ _ | exact Loc.binF _ _ _ _ _ _ | exact Loc.unF _ _ | exact Loc.cellsM _ _ | refine Loc.withTy (fun _ => ?_) | refine Loc.bind ?_ (fun _ => ?_) | refine Loc.cond ?_ ?_ | refine Loc.ite ?_ ?_ | refine Loc.force (fun _ => ?_) | (split <;> skip))
theorem Loc.makeSliceM (E : Env) (i : TyI) (l : AV) (c : AV) : Loc (makeSliceM E i l c) := by
  unfold Go.Proofs.YtnanlaefehaifaaGreat.Vm.makeSliceM
  repeat (first | exact Loc.pure _ | exact Loc.fail _ | exact Loc.of _ _ | exact Loc.getM _ | exact Loc.setM _ _ | exact Loc.newM _ | exact Loc.partA _ _ | exact Loc.cmp2 _ _ _ _ | exact Loc.int2 _ _ _ | exact Loc.eqNil _ _ _ | exact Loc.eqAgg _ _ _ | exact Loc.rd _ _ | exact Loc.rowM _ | exact Loc.loadI _ _ _ | exact Loc.loadM _ _ | exact Loc.storeM _ _ _ | exact Loc.buildM _ _ _ | exact Loc.buildSliceM _ _ _ _ | exact Loc.eqP _ _ _ _ | exact Loc.eqRef _ _ _ | exact Loc.eqT _ _ _ _ _ | exact Loc.sh2 _ _ _ | exact Loc.addA _ _ | exact Loc.binF _ _ _ _ _ _ | exact Loc.unF _ _ | exact Loc.cellsM _ _ | exact Loc.convF _ _ _ _ | refine Loc.withTy (fun _ => ?_) | refine Loc.bind ?_ (fun _ => ?_) | refine Loc.cond ?_ ?_ | refine Loc.ite ?_ ?_ | refine Loc.force (fun _ => ?_) | (split <;> skip))
theorem Loc.fieldAddrM (E : Env) (i : TyI) (f : Nat) (x : AV) : Loc (fieldAddrM E i f x) := by
  unfold Go.Proofs.YtnanlaefehaifaaGreat.Vm.fieldAddrM
  repeat (first | exact Loc.pure _ | exact Loc.fail _ | exact Loc.of _ _ | exact Loc.getM _ | exact Loc.setM _ _ | exact Loc.newM _ | exact Loc.partA _ _ | exact Loc.cmp2 _ _ _ _ | exact Loc.int2 _ _ _ | exact Loc.eqNil _ _ _ | exact Loc.eqAgg _ _ _ | exact Loc.rd _ _ | exact Loc.rowM _ | exact Loc.loadI _ _ _ | exact Loc.loadM _ _ | exact Loc.storeM _ _ _ | exact Loc.buildM _ _ _ | exact Loc.buildSliceM _ _ _ _ | exact Loc.eqP _ _ _ _ | exact Loc.eqRef _ _ _ | exact Loc.eqT _ _ _ _ _ | exact Loc.sh2 _ _ _ | exact Loc.addA _ _ | exact Loc.binF _ _ _ _ _ _ | exact Loc.unF _ _ | exact Loc.cellsM _ _ | exact Loc.convF _ _ _ _ | exact Loc.makeSliceM _ _ _ _ | refine Loc.withTy (fun _ => ?_) | refine Loc.bind ?_ (fun _ => ?_) | refine Loc.cond ?_ ?_ | refine Loc.ite ?_ ?_ | refine Loc.force (fun _ => ?_) | (split <;> skip))
theorem Loc.fieldM (E : Env) (i : TyI) (f : Nat) (x : AV) : Loc (fieldM E i f x) := by
  unfold Go.Proofs.YtnanlaefehaifaaGreat.Vm.fieldM
  repeat (first | exact Loc.pure _ | exact Loc.fail _ | exact Loc.of _ _ | exact Loc.getM _ | exact Loc.setM _ _ | exact Loc.newM _ | exact Loc.partA _ _ | exact Loc.cmp2 _ _ _ _ | exact Loc.int2 _ _ _ | exact Loc.eqNil _ _ _ | exact Loc.eqAgg _ _ _ | exact Loc.rd _ _ | exact Loc.rowM _ | exact Loc.loadI _ _ _ | exact Loc.loadM _ _ | exact Loc.storeM _ _ _ | exact Loc.buildM _ _ _ | exact Loc.buildSliceM _ _ _ _ | exact Loc.eqP _ _ _ _ | exact Loc.eqRef _ _ _ | exact Loc.eqT _ _ _ _ _ | exact Loc.sh2 _ _ _ | exact Loc.addA _ _ | exact Loc.binF _ _ _ _ _ _ | exact Loc.unF _ _ | exact Loc.cellsM _ _ | exact Loc.convF _ _ _ _ | exact Loc.makeSliceM _ _ _ _ | exact Loc.fieldAddrM _ _ _ _ | refine Loc.withTy (fun _ => ?_) | refine Loc.bind ?_ (fun _ => ?_) | refine Loc.cond ?_ ?_ | refine Loc.ite ?_ ?_ | refine Loc.force (fun _ => ?_) | (split <;> skip))
theorem Loc.indexAddrM (E : Env) (i : TyI) (x : AV) (y : AV) : Loc (indexAddrM E i x y) := by
  unfold Go.Proofs.YtnanlaefehaifaaGreat.Vm.indexAddrM
  repeat (first | exact Loc.pure _ | exact Loc.fail _ | exact Loc.of _ _ | exact Loc.getM _ | exact Loc.setM _ _ | exact Loc.newM _ | exact Loc.partA _ _ | exact Loc.cmp2 _ _ _ _ | exact Loc.int2 _ _ _ | exact Loc.eqNil _ _ _ | exact Loc.eqAgg _ _ _ | exact Loc.rd _ _ | exact Loc.rowM _ | exact Loc.loadI _ _ _ | exact Loc.loadM _ _ | exact Loc.storeM _ _ _ | exact Loc.buildM _ _ _ | exact Loc.buildSliceM _ _ _ _ | exact Loc.eqP _ _ _ _ | exact Loc.eqRef _ _ _ | exact Loc.eqT _ _ _ _ _ | exact Loc.sh2 _ _ _ | exact Loc.addA _ _ | exact Loc.binF _ _ _ _ _ _ | exact Loc.unF _ _ | exact Loc.cellsM _ _ | exact Loc.convF _ _ _ _ | exact Loc.makeSliceM _ _ _ _ | exact Loc.fieldAddrM _ _ _ _ | exact Loc.fieldM _ _ _ _ | refine Loc.withTy (fun _ => ?_) | refine Loc.bind ?_ (fun _ => ?_) | refine Loc.cond ?_ ?_ | refine Loc.ite ?_ ?_ | refine Loc.force (fun _ => ?_) | (split <;> skip))
theorem Loc.indexM (E : Env) (i : TyI) (x : AV) (y : AV) : Loc (indexM E i x y) := by
  unfold Go.Proofs.YtnanlaefehaifaaGreat.Vm.indexM
  repeat (first | exact Loc.pure _ | exact Loc.fail _ | exact Loc.of _ _ | exact Loc.getM _ | exact Loc.setM _ _ | exact Loc.newM _ | exact Loc.partA _ _ | exact Loc.cmp2 _ _ _ _ | exact Loc.int2 _ _ _ | exact Loc.eqNil _ _ _ | exact Loc.eqAgg _ _ _ | exact Loc.rd _ _ | exact Loc.rowM _ | exact Loc.loadI _ _ _ | exact Loc.loadM _ _ | exact Loc.storeM _ _ _ | exact Loc.buildM _ _ _ | exact Loc.buildSliceM _ _ _ _ | exact Loc.eqP _ _ _ _ | exact Loc.eqRef _ _ _ | exact Loc.eqT _ _ _ _ _ | exact Loc.sh2 _ _ _ | exact Loc.addA _ _ | exact Loc.binF _ _ _ _ _ _ | exact Loc.unF _ _ | exact Loc.cellsM _ _ | exact Loc.convF _ _ _ _ | exact Loc.makeSliceM _ _ _ _ | exact Loc.fieldAddrM _ _ _ _ | exact Loc.fieldM _ _ _ _ | exact Loc.indexAddrM _ _ _ _ | refine Loc.withTy (fun _ => ?_) | refine Loc.bind ?_ (fun _ => ?_) | refine Loc.cond ?_ ?_ | refine Loc.ite ?_ ?_ | refine Loc.force (fun _ => ?_) | (split <;> skip))
theorem Loc.sliceM (E : Env) (i : TyI) (x : AV) (l : Option AV) (h : Option AV) (m : Option AV) : Loc (sliceM E i x l h m) := by
  unfold Go.Proofs.YtnanlaefehaifaaGreat.Vm.sliceM
  repeat (first | exact Loc.pure _ | exact Loc.fail _ | exact Loc.of _ _ | exact Loc.getM _ | exact Loc.setM _ _ | exact Loc.newM _ | exact Loc.partA _ _ | exact Loc.cmp2 _ _ _ _ | exact Loc.int2 _ _ _ | exact Loc.eqNil _ _ _ | exact Loc.eqAgg _ _ _ | exact Loc.rd _ _ | exact Loc.rowM _ | exact Loc.loadI _ _ _ | exact Loc.loadM _ _ | exact Loc.storeM _ _ _ | exact Loc.buildM _ _ _ | exact Loc.buildSliceM _ _ _ _ | exact Loc.eqP _ _ _ _ | exact Loc.eqRef _ _ _ | exact Loc.eqT _ _ _ _ _ | exact Loc.sh2 _ _ _ | exact Loc.addA _ _ | exact Loc.binF _ _ _ _ _ _ | exact Loc.unF _ _ | exact Loc.cellsM _ _ | exact Loc.convF _ _ _ _ | exact Loc.makeSliceM _ _ _ _ | exact Loc.fieldAddrM _ _ _ _ | exact Loc.fieldM _ _ _ _ | exact Loc.indexAddrM _ _ _ _ | exact Loc.indexM _ _ _ _ | refine Loc.withTy (fun _ => ?_) | refine Loc.bind ?_ (fun _ => ?_) | refine Loc.cond ?_ ?_ | refine Loc.ite ?_ ?_ | refine Loc.force (fun _ => ?_) | (split <;> skip))
theorem Loc.mapM (n : Nat) : Loc (mapM n) := by
  unfold Go.Proofs.YtnanlaefehaifaaGreat.Vm.mapM
  repeat (first | exact Loc.pure _ | exact Loc.fail _ | exact Loc.of _ _ | exact Loc.getM _ | exact Loc.setM _ _ | exact Loc.newM _ | exact Loc.partA _ _ | exact Loc.cmp2 _ _ _ _ | exact Loc.int2 _ _ _ | exact Loc.eqNil _ _ _ | exact Loc.eqAgg _ _ _ | exact Loc.rd _ _ | exact Loc.rowM _ | exact Loc.loadI _ _ _ | exact Loc.loadM _ _ | exact Loc.storeM _ _ _ | exact Loc.buildM _ _ _ | exact Loc.buildSliceM _ _ _ _ | exact Loc.eqP _ _ _ _ | exact Loc.eqRef _ _ _ | exact Loc.eqT _ _ _ _ _ | exact Loc.sh2 _ _ _ | exact Loc.addA _ _ | exact Loc.binF _ _ _ _ _ _ | exact Loc.unF _ _ | exact Loc.cellsM _ _ | exact Loc.convF _ _ _ _ | exact Loc.makeSliceM _ _ _ _ | exact Loc.fieldAddrM _ _ _ _ | exact Loc.fieldM _ _ _ _ | exact Loc.indexAddrM _ _ _ _ | exact Loc.indexM _ _ _ _ | exact Loc.sliceM _ _ _ _ _ _ | refine Loc.withTy (fun _ => ?_) | refine Loc.bind ?_ (fun _ => ?_) | refine Loc.cond ?_ ?_ | refine Loc.ite ?_ ?_ | refine Loc.force (fun _ => ?_) | (split <;> skip))
theorem Loc.withKey {E : Env} {t : TypeId} {k : KeyC → M α} (h : ∀ i, Loc (k i)) : Loc (withKey E t k) := by
  unfold Go.Proofs.YtnanlaefehaifaaGreat.Vm.withKey
  exact Loc.withTy fun i => Loc.cond (h _) (Loc.fail _)
theorem Loc.lookDone (b : Bool) (z : AV) (r : Option (Nat × AV)) : Loc (lookDone b z r) := by
  unfold Go.Proofs.YtnanlaefehaifaaGreat.Vm.lookDone
  repeat (first | exact Loc.pure _ | exact Loc.fail _ | exact Loc.of _ _ | exact Loc.getM _ | exact Loc.setM _ _ | exact Loc.newM _ | exact Loc.partA _ _ | exact Loc.cmp2 _ _ _ _ | exact Loc.int2 _ _ _ | exact Loc.eqNil _ _ _ | exact Loc.eqAgg _ _ _ | exact Loc.rd _ _ | exact Loc.rowM _ | exact Loc.loadI _ _ _ | exact Loc.loadM _ _ | exact Loc.storeM _ _ _ | exact Loc.buildM _ _ _ | exact Loc.buildSliceM _ _ _ _ | exact Loc.eqP _ _ _ _ | exact Loc.eqRef _ _ _ | exact Loc.eqT _ _ _ _ _ | exact Loc.sh2 _ _ _ | exact Loc.addA _ _ | exact Loc.binF _ _ _ _ _ _ | exact Loc.unF _ _ | exact Loc.cellsM _ _ | exact Loc.convF _ _ _ _ | exact Loc.makeSliceM _ _ _ _ | exact Loc.fieldAddrM _ _ _ _ | exact Loc.fieldM _ _ _ _ | exact Loc.indexAddrM _ _ _ _ | exact Loc.indexM _ _ _ _ | exact Loc.sliceM _ _ _ _ _ _ | exact Loc.mapM _ | refine Loc.withTy (fun _ => ?_) | refine Loc.bind ?_ (fun _ => ?_) | refine Loc.cond ?_ ?_ | refine Loc.ite ?_ ?_ | refine Loc.force (fun _ => ?_) | (split <;> skip))
theorem Loc.lookupM (E : Env) (i : TyI) (b : Bool) (x : AV) (k : AV) : Loc (lookupM E i b x k) := by
  unfold Go.Proofs.YtnanlaefehaifaaGreat.Vm.lookupM
  repeat (first | exact Loc.pure _ | exact Loc.fail _ | exact Loc.of _ _ | exact Loc.getM _ | exact Loc.setM _ _ | exact Loc.newM _ | exact Loc.partA _ _ | exact Loc.cmp2 _ _ _ _ | exact Loc.int2 _ _ _ | exact Loc.eqNil _ _ _ | exact Loc.eqAgg _ _ _ | exact Loc.rd _ _ | exact Loc.rowM _ | exact Loc.loadI _ _ _ | exact Loc.loadM _ _ | exact Loc.storeM _ _ _ | exact Loc.buildM _ _ _ | exact Loc.buildSliceM _ _ _ _ | exact Loc.eqP _ _ _ _ | exact Loc.eqRef _ _ _ | exact Loc.eqT _ _ _ _ _ | exact Loc.sh2 _ _ _ | exact Loc.addA _ _ | exact Loc.binF _ _ _ _ _ _ | exact Loc.unF _ _ | exact Loc.cellsM _ _ | exact Loc.convF _ _ _ _ | exact Loc.makeSliceM _ _ _ _ | exact Loc.fieldAddrM _ _ _ _ | exact Loc.fieldM _ _ _ _ | exact Loc.indexAddrM _ _ _ _ | exact Loc.indexM _ _ _ _ | exact Loc.sliceM _ _ _ _ _ _ | exact Loc.mapM _ | exact Loc.lookDone _ _ _ | refine Loc.withTy (fun _ => ?_) | refine Loc.bind ?_ (fun _ => ?_) | refine Loc.cond ?_ ?_ | refine Loc.ite ?_ ?_ | refine Loc.force (fun _ => ?_) | refine Loc.withKey (fun _ => ?_) | (split <;> skip))
theorem Loc.updateM (E : Env) (i : TyI) (x : AV) (k : AV) (v : AV) : Loc (updateM E i x k v) := by
  unfold Go.Proofs.YtnanlaefehaifaaGreat.Vm.updateM
  repeat (first | exact Loc.pure _ | exact Loc.fail _ | exact Loc.of _ _ | exact Loc.getM _ | exact Loc.setM _ _ | exact Loc.newM _ | exact Loc.partA _ _ | exact Loc.cmp2 _ _ _ _ | exact Loc.int2 _ _ _ | exact Loc.eqNil _ _ _ | exact Loc.eqAgg _ _ _ | exact Loc.rd _ _ | exact Loc.rowM _ | exact Loc.loadI _ _ _ | exact Loc.loadM _ _ | exact Loc.storeM _ _ _ | exact Loc.buildM _ _ _ | exact Loc.buildSliceM _ _ _ _ | exact Loc.eqP _ _ _ _ | exact Loc.eqRef _ _ _ | exact Loc.eqT _ _ _ _ _ | exact Loc.sh2 _ _ _ | exact Loc.addA _ _ | exact Loc.binF _ _ _ _ _ _ | exact Loc.unF _ _ | exact Loc.cellsM _ _ | exact Loc.convF _ _ _ _ | exact Loc.makeSliceM _ _ _ _ | exact Loc.fieldAddrM _ _ _ _ | exact Loc.fieldM _ _ _ _ | exact Loc.indexAddrM _ _ _ _ | exact Loc.indexM _ _ _ _ | exact Loc.sliceM _ _ _ _ _ _ | exact Loc.mapM _ | exact Loc.lookDone _ _ _ | exact Loc.lookupM _ _ _ _ _ | refine Loc.withTy (fun _ => ?_) | refine Loc.bind ?_ (fun _ => ?_) | refine Loc.cond ?_ ?_ | refine Loc.ite ?_ ?_ | refine Loc.force (fun _ => ?_) | refine Loc.withKey (fun _ => ?_) | (split <;> skip))
theorem Loc.deleteM (E : Env) (i : TyI) (x : AV) (k : AV) : Loc (deleteM E i x k) := by
  unfold Go.Proofs.YtnanlaefehaifaaGreat.Vm.deleteM
  repeat (first | exact Loc.pure _ | exact Loc.fail _ | exact Loc.of _ _ | exact Loc.getM _ | exact Loc.setM _ _ | exact Loc.newM _ | exact Loc.partA _ _ | exact Loc.cmp2 _ _ _ _ | exact Loc.int2 _ _ _ | exact Loc.eqNil _ _ _ | exact Loc.eqAgg _ _ _ | exact Loc.rd _ _ | exact Loc.rowM _ | exact Loc.loadI _ _ _ | exact Loc.loadM _ _ | exact Loc.storeM _ _ _ | exact Loc.buildM _ _ _ | exact Loc.buildSliceM _ _ _ _ | exact Loc.eqP _ _ _ _ | exact Loc.eqRef _ _ _ | exact Loc.eqT _ _ _ _ _ | exact Loc.sh2 _ _ _ | exact Loc.addA _ _ | exact Loc.binF _ _ _ _ _ _ | exact Loc.unF _ _ | exact Loc.cellsM _ _ | exact Loc.convF _ _ _ _ | exact Loc.makeSliceM _ _ _ _ | exact Loc.fieldAddrM _ _ _ _ | exact Loc.fieldM _ _ _ _ | exact Loc.indexAddrM _ _ _ _ | exact Loc.indexM _ _ _ _ | exact Loc.sliceM _ _ _ _ _ _ | exact Loc.mapM _ | exact Loc.lookDone _ _ _ | exact Loc.lookupM _ _ _ _ _ | exact Loc.updateM _ _ _ _ _ | refine Loc.withTy (fun _ => ?_) | refine Loc.bind ?_ (fun _ => ?_) | refine Loc.cond ?_ ?_ | refine Loc.ite ?_ ?_ | refine Loc.force (fun _ => ?_) | refine Loc.withKey (fun _ => ?_) | (split <;> skip))
theorem Loc.rangeM (i : TyI) (x : AV) : Loc (rangeM i x) := by
  unfold Go.Proofs.YtnanlaefehaifaaGreat.Vm.rangeM
  repeat (first | exact Loc.pure _ | exact Loc.fail _ | exact Loc.of _ _ | exact Loc.getM _ | exact Loc.setM _ _ | exact Loc.newM _ | exact Loc.partA _ _ | exact Loc.cmp2 _ _ _ _ | exact Loc.int2 _ _ _ | exact Loc.eqNil _ _ _ | exact Loc.eqAgg _ _ _ | exact Loc.rd _ _ | exact Loc.rowM _ | exact Loc.loadI _ _ _ | exact Loc.loadM _ _ | exact Loc.storeM _ _ _ | exact Loc.buildM _ _ _ | exact Loc.buildSliceM _ _ _ _ | exact Loc.eqP _ _ _ _ | exact Loc.eqRef _ _ _ | exact Loc.eqT _ _ _ _ _ | exact Loc.sh2 _ _ _ | exact Loc.addA _ _ | exact Loc.binF _ _ _ _ _ _ | exact Loc.unF _ _ | exact Loc.cellsM _ _ | exact Loc.convF _ _ _ _ | exact Loc.makeSliceM _ _ _ _ | exact Loc.fieldAddrM _ _ _ _ | exact Loc.fieldM _ _ _ _ | exact Loc.indexAddrM _ _ _ _ | exact Loc.indexM _ _ _ _ | exact Loc.sliceM _ _ _ _ _ _ | exact Loc.mapM _ | exact Loc.lookDone _ _ _ | exact Loc.lookupM _ _ _ _ _ | exact Loc.updateM _ _ _ _ _ | exact Loc.deleteM _ _ _ _ | refine Loc.withTy (fun _ => ?_) | refine Loc.bind ?_ (fun _ => ?_) | refine Loc.cond ?_ ?_ | refine Loc.ite ?_ ?_ | refine Loc.force (fun _ => ?_) | refine Loc.withKey (fun _ => ?_) | (split <;> skip))
theorem Loc.next1 (n : Nat) (m : Nat) (since : Nat) (seen : List Nat) (last : Nat) (c : Nat) (l : List Ent) : Loc (next1 n m since seen last c l) := by
  unfold Go.Proofs.YtnanlaefehaifaaGreat.Vm.next1
  repeat (first | exact Loc.pure _ | exact Loc.fail _ | exact Loc.of _ _ | exact Loc.getM _ | exact Loc.setM _ _ | exact Loc.newM _ | exact Loc.partA _ _ | exact Loc.cmp2 _ _ _ _ | exact Loc.int2 _ _ _ | exact Loc.eqNil _ _ _ | exact Loc.eqAgg _ _ _ | exact Loc.rd _ _ | exact Loc.rowM _ | exact Loc.loadI _ _ _ | exact Loc.loadM _ _ | exact Loc.storeM _ _ _ | exact Loc.buildM _ _ _ | exact Loc.buildSliceM _ _ _ _ | exact Loc.eqP _ _ _ _ | exact Loc.eqRef _ _ _ | exact Loc.eqT _ _ _ _ _ | exact Loc.sh2 _ _ _ | exact Loc.addA _ _ | exact Loc.binF _ _ _ _ _ _ | exact Loc.unF _ _ | exact Loc.cellsM _ _ | exact Loc.convF _ _ _ _ | exact Loc.makeSliceM _ _ _ _ | exact Loc.fieldAddrM _ _ _ _ | exact Loc.fieldM _ _ _ _ | exact Loc.indexAddrM _ _ _ _ | exact Loc.indexM _ _ _ _ | exact Loc.sliceM _ _ _ _ _ _ | exact Loc.mapM _ | exact Loc.lookDone _ _ _ | exact Loc.lookupM _ _ _ _ _ | exact Loc.updateM _ _ _ _ _ | exact Loc.deleteM _ _ _ _ | exact Loc.rangeM _ _ | refine Loc.withTy (fun _ => ?_) | refine Loc.bind ?_ (fun _ => ?_) | refine Loc.cond ?_ ?_ | refine Loc.ite ?_ ?_ | refine Loc.force (fun _ => ?_) | refine Loc.withKey (fun _ => ?_) | (split <;> skip))
theorem Loc.nextM (x : AV) : Loc (nextM x) := by
  unfold Go.Proofs.YtnanlaefehaifaaGreat.Vm.nextM
  repeat (first | exact Loc.pure _ | exact Loc.fail _ | exact Loc.of _ _ | exact Loc.getM _ | exact Loc.setM _ _ | exact Loc.newM _ | exact Loc.partA _ _ | exact Loc.cmp2 _ _ _ _ | exact Loc.int2 _ _ _ | exact Loc.eqNil _ _ _ | exact Loc.eqAgg _ _ _ | exact Loc.rd _ _ | exact Loc.rowM _ | exact Loc.loadI _ _ _ | exact Loc.loadM _ _ | exact Loc.storeM _ _ _ | exact Loc.buildM _ _ _ | exact Loc.buildSliceM _ _ _ _ | exact Loc.eqP _ _ _ _ | exact Loc.eqRef _ _ _ | exact Loc.eqT _ _ _ _ _ | exact Loc.sh2 _ _ _ | exact Loc.addA _ _ | exact Loc.binF _ _ _ _ _ _ | exact Loc.unF _ _ | exact Loc.cellsM _ _ | exact Loc.convF _ _ _ _ | exact Loc.makeSliceM _ _ _ _ | exact Loc.fieldAddrM _ _ _ _ | exact Loc.fieldM _ _ _ _ | exact Loc.indexAddrM _ _ _ _ | exact Loc.indexM _ _ _ _ | exact Loc.sliceM _ _ _ _ _ _ | exact Loc.mapM _ | exact Loc.lookDone _ _ _ | exact Loc.lookupM _ _ _ _ _ | exact Loc.updateM _ _ _ _ _ | exact Loc.deleteM _ _ _ _ | exact Loc.rangeM _ _ | exact Loc.next1 _ _ _ _ _ _ _ | refine Loc.withTy (fun _ => ?_) | refine Loc.bind ?_ (fun _ => ?_) | refine Loc.cond ?_ ?_ | refine Loc.ite ?_ ?_ | refine Loc.force (fun _ => ?_) | refine Loc.withKey (fun _ => ?_) | (split <;> skip))
theorem Loc.entryM (x : AV) : Loc (entryM x) := by
  unfold Go.Proofs.YtnanlaefehaifaaGreat.Vm.entryM
  repeat (first | exact Loc.pure _ | exact Loc.fail _ | exact Loc.of _ _ | exact Loc.getM _ | exact Loc.setM _ _ | exact Loc.newM _ | exact Loc.partA _ _ | exact Loc.cmp2 _ _ _ _ | exact Loc.int2 _ _ _ | exact Loc.eqNil _ _ _ | exact Loc.eqAgg _ _ _ | exact Loc.rd _ _ | exact Loc.rowM _ | exact Loc.loadI _ _ _ | exact Loc.loadM _ _ | exact Loc.storeM _ _ _ | exact Loc.buildM _ _ _ | exact Loc.buildSliceM _ _ _ _ | exact Loc.eqP _ _ _ _ | exact Loc.eqRef _ _ _ | exact Loc.eqT _ _ _ _ _ | exact Loc.sh2 _ _ _ | exact Loc.addA _ _ | exact Loc.binF _ _ _ _ _ _ | exact Loc.unF _ _ | exact Loc.cellsM _ _ | exact Loc.convF _ _ _ _ | exact Loc.makeSliceM _ _ _ _ | exact Loc.fieldAddrM _ _ _ _ | exact Loc.fieldM _ _ _ _ | exact Loc.indexAddrM _ _ _ _ | exact Loc.indexM _ _ _ _ | exact Loc.sliceM _ _ _ _ _ _ | exact Loc.mapM _ | exact Loc.lookDone _ _ _ | exact Loc.lookupM _ _ _ _ _ | exact Loc.updateM _ _ _ _ _ | exact Loc.deleteM _ _ _ _ | exact Loc.rangeM _ _ | exact Loc.next1 _ _ _ _ _ _ _ | exact Loc.nextM _ | refine Loc.withTy (fun _ => ?_) | refine Loc.bind ?_ (fun _ => ?_) | refine Loc.cond ?_ ?_ | refine Loc.ite ?_ ?_ | refine Loc.force (fun _ => ?_) | refine Loc.withKey (fun _ => ?_) | (split <;> skip))
theorem Loc.appS (e : TypeId) (a : Nat) (b : Nat) (s : SlV) (new : List AV) (k : Nat) : Loc (appS e a b s new k) := by
  unfold Go.Proofs.YtnanlaefehaifaaGreat.Vm.appS
  repeat (first | exact Loc.pure _ | exact Loc.fail _ | exact Loc.of _ _ | exact Loc.getM _ | exact Loc.setM _ _ | exact Loc.newM _ | exact Loc.partA _ _ | exact Loc.cmp2 _ _ _ _ | exact Loc.int2 _ _ _ | exact Loc.eqNil _ _ _ | exact Loc.eqAgg _ _ _ | exact Loc.rd _ _ | exact Loc.rowM _ | exact Loc.loadI _ _ _ | exact Loc.loadM _ _ | exact Loc.storeM _ _ _ | exact Loc.buildM _ _ _ | exact Loc.buildSliceM _ _ _ _ | exact Loc.eqP _ _ _ _ | exact Loc.eqRef _ _ _ | exact Loc.eqT _ _ _ _ _ | exact Loc.sh2 _ _ _ | exact Loc.addA _ _ | exact Loc.binF _ _ _ _ _ _ | exact Loc.unF _ _ | exact Loc.cellsM _ _ | exact Loc.convF _ _ _ _ | exact Loc.makeSliceM _ _ _ _ | exact Loc.fieldAddrM _ _ _ _ | exact Loc.fieldM _ _ _ _ | exact Loc.indexAddrM _ _ _ _ | exact Loc.indexM _ _ _ _ | exact Loc.sliceM _ _ _ _ _ _ | exact Loc.mapM _ | exact Loc.lookDone _ _ _ | exact Loc.lookupM _ _ _ _ _ | exact Loc.updateM _ _ _ _ _ | exact Loc.deleteM _ _ _ _ | exact Loc.rangeM _ _ | exact Loc.next1 _ _ _ _ _ _ _ | exact Loc.nextM _ | exact Loc.entryM _ | refine Loc.withTy (fun _ => ?_) | refine Loc.bind ?_ (fun _ => ?_) | refine Loc.cond ?_ ?_ | refine Loc.ite ?_ ?_ | refine Loc.force (fun _ => ?_) | refine Loc.withKey (fun _ => ?_) | (split <;> skip))
theorem Loc.appM (e : TypeId) (j : TyI) (s : AV) (new : List AV) (k : Nat) : Loc (appM e j s new k) := by
  unfold Go.Proofs.YtnanlaefehaifaaGreat.Vm.appM
  repeat (first | exact Loc.pure _ | exact Loc.fail _ | exact Loc.of _ _ | exact Loc.getM _ | exact Loc.setM _ _ | exact Loc.newM _ | exact Loc.partA _ _ | exact Loc.cmp2 _ _ _ _ | exact Loc.int2 _ _ _ | exact Loc.eqNil _ _ _ | exact Loc.eqAgg _ _ _ | exact Loc.rd _ _ | exact Loc.rowM _ | exact Loc.loadI _ _ _ | exact Loc.loadM _ _ | exact Loc.storeM _ _ _ | exact Loc.buildM _ _ _ | exact Loc.buildSliceM _ _ _ _ | exact Loc.eqP _ _ _ _ | exact Loc.eqRef _ _ _ | exact Loc.eqT _ _ _ _ _ | exact Loc.sh2 _ _ _ | exact Loc.addA _ _ | exact Loc.binF _ _ _ _ _ _ | exact Loc.unF _ _ | exact Loc.cellsM _ _ | exact Loc.convF _ _ _ _ | exact Loc.makeSliceM _ _ _ _ | exact Loc.fieldAddrM _ _ _ _ | exact Loc.fieldM _ _ _ _ | exact Loc.indexAddrM _ _ _ _ | exact Loc.indexM _ _ _ _ | exact Loc.sliceM _ _ _ _ _ _ | exact Loc.mapM _ | exact Loc.lookDone _ _ _ | exact Loc.lookupM _ _ _ _ _ | exact Loc.updateM _ _ _ _ _ | exact Loc.deleteM _ _ _ _ | exact Loc.rangeM _ _ | exact Loc.next1 _ _ _ _ _ _ _ | exact Loc.nextM _ | exact Loc.entryM _ | exact Loc.appS _ _ _ _ _ _ | refine Loc.withTy (fun _ => ?_) | refine Loc.bind ?_ (fun _ => ?_) | refine Loc.cond ?_ ?_ | refine Loc.ite ?_ ?_ | refine Loc.force (fun _ => ?_) | refine Loc.withKey (fun _ => ?_) | (split <;> skip))
theorem Loc.appendF (E : Env) (t : TypeId) (u : TypeId) (s : AV) (x : AV) : Loc (appendF E t u s x) := by
  unfold Go.Proofs.YtnanlaefehaifaaGreat.Vm.appendF
  repeat (first | exact Loc.pure _ | exact Loc.fail _ | exact Loc.of _ _ | exact Loc.getM _ | exact Loc.setM _ _ | exact Loc.newM _ | exact Loc.partA _ _ | exact Loc.cmp2 _ _ _ _ | exact Loc.int2 _ _ _ | exact Loc.eqNil _ _ _ | exact Loc.eqAgg _ _ _ | exact Loc.rd _ _ | exact Loc.rowM _ | exact Loc.loadI _ _ _ | exact Loc.loadM _ _ | exact Loc.storeM _ _ _ | exact Loc.buildM _ _ _ | exact Loc.buildSliceM _ _ _ _ | exact Loc.eqP _ _ _ _ | exact Loc.eqRef _ _ _ | exact Loc.eqT _ _ _ _ _ | exact Loc.sh2 _ _ _ | exact Loc.addA _ _ | exact Loc.binF _ _ _ _ _ _ | exact Loc.unF _ _ | exact Loc.cellsM _ _ | exact Loc.convF _ _ _ _ | exact Loc.makeSliceM _ _ _ _ | exact Loc.fieldAddrM _ _ _ _ | exact Loc.fieldM _ _ _ _ | exact Loc.indexAddrM _ _ _ _ | exact Loc.indexM _ _ _ _ | exact Loc.sliceM _ _ _ _ _ _ | exact Loc.mapM _ | exact Loc.lookDone _ _ _ | exact Loc.lookupM _ _ _ _ _ | exact Loc.updateM _ _ _ _ _ | exact Loc.deleteM _ _ _ _ | exact Loc.rangeM _ _ | exact Loc.next1 _ _ _ _ _ _ _ | exact Loc.nextM _ | exact Loc.entryM _ | exact Loc.appS _ _ _ _ _ _ | exact Loc.appM _ _ _ _ _ | refine Loc.withTy (fun _ => ?_) | refine Loc.bind ?_ (fun _ => ?_) | refine Loc.cond ?_ ?_ | refine Loc.ite ?_ ?_ | refine Loc.force (fun _ => ?_) | refine Loc.withKey (fun _ => ?_) | (split <;> skip))
theorem Loc.lenF (E : Env) (t : TypeId) (x : AV) : Loc (lenF E t x) := by
  unfold Go.Proofs.YtnanlaefehaifaaGreat.Vm.lenF
  repeat (first | exact Loc.pure _ | exact Loc.fail _ | exact Loc.of _ _ | exact Loc.getM _ | exact Loc.setM _ _ | exact Loc.newM _ | exact Loc.partA _ _ | exact Loc.cmp2 _ _ _ _ | exact Loc.int2 _ _ _ | exact Loc.eqNil _ _ _ | exact Loc.eqAgg _ _ _ | exact Loc.rd _ _ | exact Loc.rowM _ | exact Loc.loadI _ _ _ | exact Loc.loadM _ _ | exact Loc.storeM _ _ _ | exact Loc.buildM _ _ _ | exact Loc.buildSliceM _ _ _ _ | exact Loc.eqP _ _ _ _ | exact Loc.eqRef _ _ _ | exact Loc.eqT _ _ _ _ _ | exact Loc.sh2 _ _ _ | exact Loc.addA _ _ | exact Loc.binF _ _ _ _ _ _ | exact Loc.unF _ _ | exact Loc.cellsM _ _ | exact Loc.convF _ _ _ _ | exact Loc.makeSliceM _ _ _ _ | exact Loc.fieldAddrM _ _ _ _ | exact Loc.fieldM _ _ _ _ | exact Loc.indexAddrM _ _ _ _ | exact Loc.indexM _ _ _ _ | exact Loc.sliceM _ _ _ _ _ _ | exact Loc.mapM _ | exact Loc.lookDone _ _ _ | exact Loc.lookupM _ _ _ _ _ | exact Loc.updateM _ _ _ _ _ | exact Loc.deleteM _ _ _ _ | exact Loc.rangeM _ _ | exact Loc.next1 _ _ _ _ _ _ _ | exact Loc.nextM _ | exact Loc.entryM _ | exact Loc.appS _ _ _ _ _ _ | exact Loc.appM _ _ _ _ _ | exact Loc.appendF _ _ _ _ _ | refine Loc.withTy (fun _ => ?_) | refine Loc.bind ?_ (fun _ => ?_) | refine Loc.cond ?_ ?_ | refine Loc.ite ?_ ?_ | refine Loc.force (fun _ => ?_) | refine Loc.withKey (fun _ => ?_) | (split <;> skip))
theorem Loc.copyF (E : Env) (t : TypeId) (d : AV) (x : AV) : Loc (copyF E t d x) := by
  unfold Go.Proofs.YtnanlaefehaifaaGreat.Vm.copyF
  repeat (first | exact Loc.pure _ | exact Loc.fail _ | exact Loc.of _ _ | exact Loc.getM _ | exact Loc.setM _ _ | exact Loc.newM _ | exact Loc.partA _ _ | exact Loc.cmp2 _ _ _ _ | exact Loc.int2 _ _ _ | exact Loc.eqNil _ _ _ | exact Loc.eqAgg _ _ _ | exact Loc.rd _ _ | exact Loc.rowM _ | exact Loc.loadI _ _ _ | exact Loc.loadM _ _ | exact Loc.storeM _ _ _ | exact Loc.buildM _ _ _ | exact Loc.buildSliceM _ _ _ _ | exact Loc.eqP _ _ _ _ | exact Loc.eqRef _ _ _ | exact Loc.eqT _ _ _ _ _ | exact Loc.sh2 _ _ _ | exact Loc.addA _ _ | exact Loc.binF _ _ _ _ _ _ | exact Loc.unF _ _ | exact Loc.cellsM _ _ | exact Loc.convF _ _ _ _ | exact Loc.makeSliceM _ _ _ _ | exact Loc.fieldAddrM _ _ _ _ | exact Loc.fieldM _ _ _ _ | exact Loc.indexAddrM _ _ _ _ | exact Loc.indexM _ _ _ _ | exact Loc.sliceM _ _ _ _ _ _ | exact Loc.mapM _ | exact Loc.lookDone _ _ _ | exact Loc.lookupM _ _ _ _ _ | exact Loc.updateM _ _ _ _ _ | exact Loc.deleteM _ _ _ _ | exact Loc.rangeM _ _ | exact Loc.next1 _ _ _ _ _ _ _ | exact Loc.nextM _ | exact Loc.entryM _ | exact Loc.appS _ _ _ _ _ _ | exact Loc.appM _ _ _ _ _ | exact Loc.appendF _ _ _ _ _ | exact Loc.lenF _ _ _ | refine Loc.withTy (fun _ => ?_) | refine Loc.bind ?_ (fun _ => ?_) | refine Loc.cond ?_ ?_ | refine Loc.ite ?_ ?_ | refine Loc.force (fun _ => ?_) | refine Loc.withKey (fun _ => ?_) | (split <;> skip))
theorem Loc.clearF (E : Env) (t : TypeId) (x : AV) : Loc (clearF E t x) := by
  unfold Go.Proofs.YtnanlaefehaifaaGreat.Vm.clearF
  repeat (first | exact Loc.pure _ | exact Loc.fail _ | exact Loc.of _ _ | exact Loc.getM _ | exact Loc.setM _ _ | exact Loc.newM _ | exact Loc.partA _ _ | exact Loc.cmp2 _ _ _ _ | exact Loc.int2 _ _ _ | exact Loc.eqNil _ _ _ | exact Loc.eqAgg _ _ _ | exact Loc.rd _ _ | exact Loc.rowM _ | exact Loc.loadI _ _ _ | exact Loc.loadM _ _ | exact Loc.storeM _ _ _ | exact Loc.buildM _ _ _ | exact Loc.buildSliceM _ _ _ _ | exact Loc.eqP _ _ _ _ | exact Loc.eqRef _ _ _ | exact Loc.eqT _ _ _ _ _ | exact Loc.sh2 _ _ _ | exact Loc.addA _ _ | exact Loc.binF _ _ _ _ _ _ | exact Loc.unF _ _ | exact Loc.cellsM _ _ | exact Loc.convF _ _ _ _ | exact Loc.makeSliceM _ _ _ _ | exact Loc.fieldAddrM _ _ _ _ | exact Loc.fieldM _ _ _ _ | exact Loc.indexAddrM _ _ _ _ | exact Loc.indexM _ _ _ _ | exact Loc.sliceM _ _ _ _ _ _ | exact Loc.mapM _ | exact Loc.lookDone _ _ _ | exact Loc.lookupM _ _ _ _ _ | exact Loc.updateM _ _ _ _ _ | exact Loc.deleteM _ _ _ _ | exact Loc.rangeM _ _ | exact Loc.next1 _ _ _ _ _ _ _ | exact Loc.nextM _ | exact Loc.entryM _ | exact Loc.appS _ _ _ _ _ _ | exact Loc.appM _ _ _ _ _ | exact Loc.appendF _ _ _ _ _ | exact Loc.lenF _ _ _ | exact Loc.copyF _ _ _ _ | refine Loc.withTy (fun _ => ?_) | refine Loc.bind ?_ (fun _ => ?_) | refine Loc.cond ?_ ?_ | refine Loc.ite ?_ ?_ | refine Loc.force (fun _ => ?_) | refine Loc.withKey (fun _ => ?_) | (split <;> skip))
theorem Loc.capM (i : TyI) (x : AV) : Loc (capM i x) := by
  unfold Go.Proofs.YtnanlaefehaifaaGreat.Vm.capM
  repeat (first | exact Loc.pure _ | exact Loc.fail _ | exact Loc.of _ _ | exact Loc.getM _ | exact Loc.setM _ _ | exact Loc.newM _ | exact Loc.partA _ _ | exact Loc.cmp2 _ _ _ _ | exact Loc.int2 _ _ _ | exact Loc.eqNil _ _ _ | exact Loc.eqAgg _ _ _ | exact Loc.rd _ _ | exact Loc.rowM _ | exact Loc.loadI _ _ _ | exact Loc.loadM _ _ | exact Loc.storeM _ _ _ | exact Loc.buildM _ _ _ | exact Loc.buildSliceM _ _ _ _ | exact Loc.eqP _ _ _ _ | exact Loc.eqRef _ _ _ | exact Loc.eqT _ _ _ _ _ | exact Loc.sh2 _ _ _ | exact Loc.addA _ _ | exact Loc.binF _ _ _ _ _ _ | exact Loc.unF _ _ | exact Loc.cellsM _ _ | exact Loc.convF _ _ _ _ | exact Loc.makeSliceM _ _ _ _ | exact Loc.fieldAddrM _ _ _ _ | exact Loc.fieldM _ _ _ _ | exact Loc.indexAddrM _ _ _ _ | exact Loc.indexM _ _ _ _ | exact Loc.sliceM _ _ _ _ _ _ | exact Loc.mapM _ | exact Loc.lookDone _ _ _ | exact Loc.lookupM _ _ _ _ _ | exact Loc.updateM _ _ _ _ _ | exact Loc.deleteM _ _ _ _ | exact Loc.rangeM _ _ | exact Loc.next1 _ _ _ _ _ _ _ | exact Loc.nextM _ | exact Loc.entryM _ | exact Loc.appS _ _ _ _ _ _ | exact Loc.appM _ _ _ _ _ | exact Loc.appendF _ _ _ _ _ | exact Loc.lenF _ _ _ | exact Loc.copyF _ _ _ _ | exact Loc.clearF _ _ _ | refine Loc.withTy (fun _ => ?_) | refine Loc.bind ?_ (fun _ => ?_) | refine Loc.cond ?_ ?_ | refine Loc.ite ?_ ?_ | refine Loc.force (fun _ => ?_) | refine Loc.withKey (fun _ => ?_) | (split <;> skip))
theorem Loc.two {f : AV → AV → M AV} (h : ∀ x y, Loc (f x y)) (l : List AV) : Loc (two f l) := by
  unfold Go.Proofs.YtnanlaefehaifaaGreat.Vm.two
  split
  · exact h _ _
  · exact Loc.fail _
theorem Loc.one {f : AV → M AV} (h : ∀ x, Loc (f x)) (l : List AV) : Loc (one f l) := by
  unfold Go.Proofs.YtnanlaefehaifaaGreat.Vm.one
  split
  · exact h _
  · exact Loc.fail _
theorem Loc.argT {ts : List TypeId} {i : Nat} {k : TypeId → List AV → M AV} (h : ∀ t l, Loc (k t l)) (l : List AV) : Loc (argT ts i k l) := by
  unfold Go.Proofs.YtnanlaefehaifaaGreat.Vm.argT
  cases ts[i]? with
  | some t => exact h _ _
  | none => exact Loc.fail _
theorem Loc.builtinF (E : Env) (b : Builtin) (ts : List TypeId) (l : List AV) : Loc (builtinF E b ts l) := by
  cases b <;> unfold Go.Proofs.YtnanlaefehaifaaGreat.Vm.builtinF <;> first
    | exact Loc.fail _
    | exact Loc.argT (fun _ _ => Loc.argT (fun _ _ => Loc.two (fun _ _ => Loc.appendF _ _ _ _ _) _) _) _
    | exact Loc.argT (fun _ _ => Loc.one (fun _ => Loc.lenF _ _ _) _) _
    | exact Loc.argT (fun _ _ => Loc.two (fun _ _ => Loc.copyF _ _ _ _) _) _
    | exact Loc.argT (fun _ _ => Loc.one (fun _ => Loc.clearF _ _ _) _) _
    | exact Loc.argT (fun _ _ => Loc.two (fun _ _ => Loc.withTy fun _ => Loc.deleteM _ _ _ _) _) _
    | exact Loc.argT (fun _ _ => Loc.one (fun _ => Loc.withTy fun _ => Loc.capM _ _) _) _
    | exact Loc.two (fun _ _ => Loc.int2 _ _ _) _
theorem Loc.rds (T : Tr AV) : ∀ l, Loc (rds T l)
  | [] => Loc.pure _
  | _ :: r => Loc.bind (Loc.rd _ _) fun _ => Loc.bind (Loc.rds T r) fun _ => Loc.pure _
theorem Loc.rdsP (T : Tr AV) : ∀ l, Loc (rdsP T l)
  | [] => Loc.pure _
  | _ :: r => Loc.bind (Loc.rd _ _) fun _ => Loc.bind (Loc.rdsP T r) fun _ => Loc.pure _
theorem Loc.rdOpt (T : Tr AV) (x : Option Opd) : Loc (rdOpt T x) := by
  unfold Go.Proofs.YtnanlaefehaifaaGreat.Vm.rdOpt
  repeat (first | exact Loc.pure _ | exact Loc.fail _ | exact Loc.of _ _ | exact Loc.getM _ | exact Loc.setM _ _ | exact Loc.newM _ | exact Loc.partA _ _ | exact Loc.cmp2 _ _ _ _ | exact Loc.int2 _ _ _ | exact Loc.eqNil _ _ _ | exact Loc.eqAgg _ _ _ | exact Loc.rd _ _ | exact Loc.rowM _ | exact Loc.loadI _ _ _ | exact Loc.loadM _ _ | exact Loc.storeM _ _ _ | exact Loc.buildM _ _ _ | exact Loc.buildSliceM _ _ _ _ | exact Loc.eqP _ _ _ _ | exact Loc.eqRef _ _ _ | exact Loc.eqT _ _ _ _ _ | exact Loc.sh2 _ _ _ | exact Loc.addA _ _ | exact Loc.binF _ _ _ _ _ _ | exact Loc.unF _ _ | exact Loc.cellsM _ _ | exact Loc.convF _ _ _ _ | exact Loc.makeSliceM _ _ _ _ | exact Loc.fieldAddrM _ _ _ _ | exact Loc.fieldM _ _ _ _ | exact Loc.indexAddrM _ _ _ _ | exact Loc.indexM _ _ _ _ | exact Loc.sliceM _ _ _ _ _ _ | exact Loc.mapM _ | exact Loc.lookDone _ _ _ | exact Loc.lookupM _ _ _ _ _ | exact Loc.updateM _ _ _ _ _ | exact Loc.deleteM _ _ _ _ | exact Loc.rangeM _ _ | exact Loc.next1 _ _ _ _ _ _ _ | exact Loc.nextM _ | exact Loc.entryM _ | exact Loc.appS _ _ _ _ _ _ | exact Loc.appM _ _ _ _ _ | exact Loc.appendF _ _ _ _ _ | exact Loc.lenF _ _ _ | exact Loc.copyF _ _ _ _ | exact Loc.clearF _ _ _ | exact Loc.capM _ _ | exact Loc.builtinF _ _ _ _ | exact Loc.rds _ _ | exact Loc.rdsP _ _ | refine Loc.withTy (fun _ => ?_) | refine Loc.bind ?_ (fun _ => ?_) | refine Loc.cond ?_ ?_ | refine Loc.ite ?_ ?_ | refine Loc.force (fun _ => ?_) | refine Loc.withKey (fun _ => ?_) | (split <;> skip))
theorem Loc.notNil (x : AV) : Loc (notNil x) := by
  unfold Go.Proofs.YtnanlaefehaifaaGreat.Vm.notNil
  repeat (first | exact Loc.pure _ | exact Loc.fail _ | exact Loc.of _ _ | exact Loc.getM _ | exact Loc.setM _ _ | exact Loc.newM _ | exact Loc.partA _ _ | exact Loc.cmp2 _ _ _ _ | exact Loc.int2 _ _ _ | exact Loc.eqNil _ _ _ | exact Loc.eqAgg _ _ _ | exact Loc.rd _ _ | exact Loc.rowM _ | exact Loc.loadI _ _ _ | exact Loc.loadM _ _ | exact Loc.storeM _ _ _ | exact Loc.buildM _ _ _ | exact Loc.buildSliceM _ _ _ _ | exact Loc.eqP _ _ _ _ | exact Loc.eqRef _ _ _ | exact Loc.eqT _ _ _ _ _ | exact Loc.sh2 _ _ _ | exact Loc.addA _ _ | exact Loc.binF _ _ _ _ _ _ | exact Loc.unF _ _ | exact Loc.cellsM _ _ | exact Loc.convF _ _ _ _ | exact Loc.makeSliceM _ _ _ _ | exact Loc.fieldAddrM _ _ _ _ | exact Loc.fieldM _ _ _ _ | exact Loc.indexAddrM _ _ _ _ | exact Loc.indexM _ _ _ _ | exact Loc.sliceM _ _ _ _ _ _ | exact Loc.mapM _ | exact Loc.lookDone _ _ _ | exact Loc.lookupM _ _ _ _ _ | exact Loc.updateM _ _ _ _ _ | exact Loc.deleteM _ _ _ _ | exact Loc.rangeM _ _ | exact Loc.next1 _ _ _ _ _ _ _ | exact Loc.nextM _ | exact Loc.entryM _ | exact Loc.appS _ _ _ _ _ _ | exact Loc.appM _ _ _ _ _ | exact Loc.appendF _ _ _ _ _ | exact Loc.lenF _ _ _ | exact Loc.copyF _ _ _ _ | exact Loc.clearF _ _ _ | exact Loc.capM _ _ | exact Loc.builtinF _ _ _ _ | exact Loc.rds _ _ | exact Loc.rdsP _ _ | exact Loc.rdOpt _ _ | refine Loc.withTy (fun _ => ?_) | refine Loc.bind ?_ (fun _ => ?_) | refine Loc.cond ?_ ?_ | refine Loc.ite ?_ ?_ | refine Loc.force (fun _ => ?_) | refine Loc.withKey (fun _ => ?_) | (split <;> skip))
theorem Loc.value {m : M AV} (h : Loc m) : Loc (value m) := Loc.bind h fun _ => Loc.pure _
theorem Loc.skip {m : M Unit} (h : Loc m) : Loc (skip m) := Loc.bind h fun _ => Loc.pure _
theorem OpC.inj {f g : Tr AV → M ANext} (h : OpC.simp f = OpC.simp g) : f = g := by injection h
theorem Loc.simp {E : Env} {o : Op} {f : Tr AV → M ANext} (ho : opC E o = .simp f) (T : Tr AV) : Loc (f T) := by
  cases o <;> simp only [opC] at ho
  all_goals first
    | (obtain rfl := (OpC.inj ho).symm
       repeat (first | exact Loc.pure _ | exact Loc.fail _ | exact Loc.of _ _ | exact Loc.getM _ | exact Loc.setM _ _ | exact Loc.newM _ | exact Loc.partA _ _ | exact Loc.cmp2 _ _ _ _ | exact Loc.int2 _ _ _ | exact Loc.eqNil _ _ _ | exact Loc.eqAgg _ _ _ | exact Loc.rd _ _ | exact Loc.rowM _ | exact Loc.loadI _ _ _ | exact Loc.loadM _ _ | exact Loc.storeM _ _ _ | exact Loc.buildM _ _ _ | exact Loc.buildSliceM _ _ _ _ | exact Loc.eqP _ _ _ _ | exact Loc.eqRef _ _ _ | exact Loc.eqT _ _ _ _ _ | exact Loc.sh2 _ _ _ | exact Loc.addA _ _ | exact Loc.binF _ _ _ _ _ _ | exact Loc.unF _ _ | exact Loc.cellsM _ _ | exact Loc.convF _ _ _ _ | exact Loc.makeSliceM _ _ _ _ | exact Loc.fieldAddrM _ _ _ _ | exact Loc.fieldM _ _ _ _ | exact Loc.indexAddrM _ _ _ _ | exact Loc.indexM _ _ _ _ | exact Loc.sliceM _ _ _ _ _ _ | exact Loc.mapM _ | exact Loc.lookDone _ _ _ | exact Loc.lookupM _ _ _ _ _ | exact Loc.updateM _ _ _ _ _ | exact Loc.deleteM _ _ _ _ | exact Loc.rangeM _ _ | exact Loc.next1 _ _ _ _ _ _ _ | exact Loc.nextM _ | exact Loc.entryM _ | exact Loc.appS _ _ _ _ _ _ | exact Loc.appM _ _ _ _ _ | exact Loc.appendF _ _ _ _ _ | exact Loc.lenF _ _ _ | exact Loc.copyF _ _ _ _ | exact Loc.clearF _ _ _ | exact Loc.capM _ _ | exact Loc.builtinF _ _ _ _ | exact Loc.rds _ _ | exact Loc.rdsP _ _ | exact Loc.rdOpt _ _ | exact Loc.notNil _ | refine Loc.withTy (fun _ => ?_) | refine Loc.bind ?_ (fun _ => ?_) | refine Loc.cond ?_ ?_ | refine Loc.ite ?_ ?_ | refine Loc.force (fun _ => ?_) | refine Loc.withKey (fun _ => ?_) | refine Loc.value ?_ | refine Loc.skip ?_ | (split <;> skip))
       done)
    | skip
  case makeFunc fn y z =>
    unfold funC at ho
    cases fn <;> simp only at ho <;> obtain rfl := (OpC.inj ho).symm
    all_goals
      repeat (first | exact Loc.pure _ | exact Loc.fail _ | exact Loc.of _ _ | exact Loc.getM _ | exact Loc.setM _ _ | exact Loc.newM _ | exact Loc.partA _ _ | exact Loc.cmp2 _ _ _ _ | exact Loc.int2 _ _ _ | exact Loc.eqNil _ _ _ | exact Loc.eqAgg _ _ _ | exact Loc.rd _ _ | exact Loc.rowM _ | exact Loc.loadI _ _ _ | exact Loc.loadM _ _ | exact Loc.storeM _ _ _ | exact Loc.buildM _ _ _ | exact Loc.buildSliceM _ _ _ _ | exact Loc.eqP _ _ _ _ | exact Loc.eqRef _ _ _ | exact Loc.eqT _ _ _ _ _ | exact Loc.sh2 _ _ _ | exact Loc.addA _ _ | exact Loc.binF _ _ _ _ _ _ | exact Loc.unF _ _ | exact Loc.cellsM _ _ | exact Loc.convF _ _ _ _ | exact Loc.makeSliceM _ _ _ _ | exact Loc.fieldAddrM _ _ _ _ | exact Loc.fieldM _ _ _ _ | exact Loc.indexAddrM _ _ _ _ | exact Loc.indexM _ _ _ _ | exact Loc.sliceM _ _ _ _ _ _ | exact Loc.mapM _ | exact Loc.lookDone _ _ _ | exact Loc.lookupM _ _ _ _ _ | exact Loc.updateM _ _ _ _ _ | exact Loc.deleteM _ _ _ _ | exact Loc.rangeM _ _ | exact Loc.next1 _ _ _ _ _ _ _ | exact Loc.nextM _ | exact Loc.entryM _ | exact Loc.appS _ _ _ _ _ _ | exact Loc.appM _ _ _ _ _ | exact Loc.appendF _ _ _ _ _ | exact Loc.lenF _ _ _ | exact Loc.copyF _ _ _ _ | exact Loc.clearF _ _ _ | exact Loc.capM _ _ | exact Loc.builtinF _ _ _ _ | exact Loc.rds _ _ | exact Loc.rdsP _ _ | exact Loc.rdOpt _ _ | exact Loc.notNil _ | refine Loc.withTy (fun _ => ?_) | refine Loc.bind ?_ (fun _ => ?_) | refine Loc.cond ?_ ?_ | refine Loc.ite ?_ ?_ | refine Loc.force (fun _ => ?_) | refine Loc.withKey (fun _ => ?_) | refine Loc.value ?_ | refine Loc.skip ?_ | (split <;> skip))
  case makeMap ty r =>
    unfold mapC at ho
    cases r <;> simp only at ho <;> obtain rfl := (OpC.inj ho).symm
    all_goals
      repeat (first | exact Loc.pure _ | exact Loc.fail _ | exact Loc.of _ _ | exact Loc.getM _ | exact Loc.setM _ _ | exact Loc.newM _ | exact Loc.partA _ _ | exact Loc.cmp2 _ _ _ _ | exact Loc.int2 _ _ _ | exact Loc.eqNil _ _ _ | exact Loc.eqAgg _ _ _ | exact Loc.rd _ _ | exact Loc.rowM _ | exact Loc.loadI _ _ _ | exact Loc.loadM _ _ | exact Loc.storeM _ _ _ | exact Loc.buildM _ _ _ | exact Loc.buildSliceM _ _ _ _ | exact Loc.eqP _ _ _ _ | exact Loc.eqRef _ _ _ | exact Loc.eqT _ _ _ _ _ | exact Loc.sh2 _ _ _ | exact Loc.addA _ _ | exact Loc.binF _ _ _ _ _ _ | exact Loc.unF _ _ | exact Loc.cellsM _ _ | exact Loc.convF _ _ _ _ | exact Loc.makeSliceM _ _ _ _ | exact Loc.fieldAddrM _ _ _ _ | exact Loc.fieldM _ _ _ _ | exact Loc.indexAddrM _ _ _ _ | exact Loc.indexM _ _ _ _ | exact Loc.sliceM _ _ _ _ _ _ | exact Loc.mapM _ | exact Loc.lookDone _ _ _ | exact Loc.lookupM _ _ _ _ _ | exact Loc.updateM _ _ _ _ _ | exact Loc.deleteM _ _ _ _ | exact Loc.rangeM _ _ | exact Loc.next1 _ _ _ _ _ _ _ | exact Loc.nextM _ | exact Loc.entryM _ | exact Loc.appS _ _ _ _ _ _ | exact Loc.appM _ _ _ _ _ | exact Loc.appendF _ _ _ _ _ | exact Loc.lenF _ _ _ | exact Loc.copyF _ _ _ _ | exact Loc.clearF _ _ _ | exact Loc.capM _ _ | exact Loc.builtinF _ _ _ _ | exact Loc.rds _ _ | exact Loc.rdsP _ _ | exact Loc.rdOpt _ _ | exact Loc.notNil _ | refine Loc.withTy (fun _ => ?_) | refine Loc.bind ?_ (fun _ => ?_) | refine Loc.cond ?_ ?_ | refine Loc.ite ?_ ?_ | refine Loc.force (fun _ => ?_) | refine Loc.withKey (fun _ => ?_) | refine Loc.value ?_ | refine Loc.skip ?_ | (split <;> skip))
  case next y b =>
    unfold nextC at ho
    cases b <;> simp only at ho <;> obtain rfl := (OpC.inj ho).symm
    all_goals
      repeat (first | exact Loc.pure _ | exact Loc.fail _ | exact Loc.of _ _ | exact Loc.getM _ | exact Loc.setM _ _ | exact Loc.newM _ | exact Loc.partA _ _ | exact Loc.cmp2 _ _ _ _ | exact Loc.int2 _ _ _ | exact Loc.eqNil _ _ _ | exact Loc.eqAgg _ _ _ | exact Loc.rd _ _ | exact Loc.rowM _ | exact Loc.loadI _ _ _ | exact Loc.loadM _ _ | exact Loc.storeM _ _ _ | exact Loc.buildM _ _ _ | exact Loc.buildSliceM _ _ _ _ | exact Loc.eqP _ _ _ _ | exact Loc.eqRef _ _ _ | exact Loc.eqT _ _ _ _ _ | exact Loc.sh2 _ _ _ | exact Loc.addA _ _ | exact Loc.binF _ _ _ _ _ _ | exact Loc.unF _ _ | exact Loc.cellsM _ _ | exact Loc.convF _ _ _ _ | exact Loc.makeSliceM _ _ _ _ | exact Loc.fieldAddrM _ _ _ _ | exact Loc.fieldM _ _ _ _ | exact Loc.indexAddrM _ _ _ _ | exact Loc.indexM _ _ _ _ | exact Loc.sliceM _ _ _ _ _ _ | exact Loc.mapM _ | exact Loc.lookDone _ _ _ | exact Loc.lookupM _ _ _ _ _ | exact Loc.updateM _ _ _ _ _ | exact Loc.deleteM _ _ _ _ | exact Loc.rangeM _ _ | exact Loc.next1 _ _ _ _ _ _ _ | exact Loc.nextM _ | exact Loc.entryM _ | exact Loc.appS _ _ _ _ _ _ | exact Loc.appM _ _ _ _ _ | exact Loc.appendF _ _ _ _ _ | exact Loc.lenF _ _ _ | exact Loc.copyF _ _ _ _ | exact Loc.clearF _ _ _ | exact Loc.capM _ _ | exact Loc.builtinF _ _ _ _ | exact Loc.rds _ _ | exact Loc.rdsP _ _ | exact Loc.rdOpt _ _ | exact Loc.notNil _ | refine Loc.withTy (fun _ => ?_) | refine Loc.bind ?_ (fun _ => ?_) | refine Loc.cond ?_ ?_ | refine Loc.ite ?_ ?_ | refine Loc.force (fun _ => ?_) | refine Loc.withKey (fun _ => ?_) | refine Loc.value ?_ | refine Loc.skip ?_ | (split <;> skip))
  case call c =>
    obtain ⟨callee, args, argTypes⟩ := c
    unfold callC at ho
    cases callee with
    | builtin b =>
      obtain rfl := (OpC.inj ho).symm
      repeat (first | exact Loc.pure _ | exact Loc.fail _ | exact Loc.of _ _ | exact Loc.getM _ | exact Loc.setM _ _ | exact Loc.newM _ | exact Loc.partA _ _ | exact Loc.cmp2 _ _ _ _ | exact Loc.int2 _ _ _ | exact Loc.eqNil _ _ _ | exact Loc.eqAgg _ _ _ | exact Loc.rd _ _ | exact Loc.rowM _ | exact Loc.loadI _ _ _ | exact Loc.loadM _ _ | exact Loc.storeM _ _ _ | exact Loc.buildM _ _ _ | exact Loc.buildSliceM _ _ _ _ | exact Loc.eqP _ _ _ _ | exact Loc.eqRef _ _ _ | exact Loc.eqT _ _ _ _ _ | exact Loc.sh2 _ _ _ | exact Loc.addA _ _ | exact Loc.binF _ _ _ _ _ _ | exact Loc.unF _ _ | exact Loc.cellsM _ _ | exact Loc.convF _ _ _ _ | exact Loc.makeSliceM _ _ _ _ | exact Loc.fieldAddrM _ _ _ _ | exact Loc.fieldM _ _ _ _ | exact Loc.indexAddrM _ _ _ _ | exact Loc.indexM _ _ _ _ | exact Loc.sliceM _ _ _ _ _ _ | exact Loc.mapM _ | exact Loc.lookDone _ _ _ | exact Loc.lookupM _ _ _ _ _ | exact Loc.updateM _ _ _ _ _ | exact Loc.deleteM _ _ _ _ | exact Loc.rangeM _ _ | exact Loc.next1 _ _ _ _ _ _ _ | exact Loc.nextM _ | exact Loc.entryM _ | exact Loc.appS _ _ _ _ _ _ | exact Loc.appM _ _ _ _ _ | exact Loc.appendF _ _ _ _ _ | exact Loc.lenF _ _ _ | exact Loc.copyF _ _ _ _ | exact Loc.clearF _ _ _ | exact Loc.capM _ _ | exact Loc.builtinF _ _ _ _ | exact Loc.rds _ _ | exact Loc.rdsP _ _ | exact Loc.rdOpt _ _ | exact Loc.notNil _ | refine Loc.withTy (fun _ => ?_) | refine Loc.bind ?_ (fun _ => ?_) | refine Loc.cond ?_ ?_ | refine Loc.ite ?_ ?_ | refine Loc.force (fun _ => ?_) | refine Loc.withKey (fun _ => ?_) | refine Loc.value ?_ | refine Loc.skip ?_ | (split <;> skip))
    | value y => cases ho
    | invoke y m => cases ho
  case defer c =>
    obtain ⟨callee, args, argTypes⟩ := c
    unfold deferC at ho
    cases callee <;> simp only at ho <;> obtain rfl := (OpC.inj ho).symm
    all_goals
      repeat (first | exact Loc.pure _ | exact Loc.fail _ | exact Loc.of _ _ | exact Loc.getM _ | exact Loc.setM _ _ | exact Loc.newM _ | exact Loc.partA _ _ | exact Loc.cmp2 _ _ _ _ | exact Loc.int2 _ _ _ | exact Loc.eqNil _ _ _ | exact Loc.eqAgg _ _ _ | exact Loc.rd _ _ | exact Loc.rowM _ | exact Loc.loadI _ _ _ | exact Loc.loadM _ _ | exact Loc.storeM _ _ _ | exact Loc.buildM _ _ _ | exact Loc.buildSliceM _ _ _ _ | exact Loc.eqP _ _ _ _ | exact Loc.eqRef _ _ _ | exact Loc.eqT _ _ _ _ _ | exact Loc.sh2 _ _ _ | exact Loc.addA _ _ | exact Loc.binF _ _ _ _ _ _ | exact Loc.unF _ _ | exact Loc.cellsM _ _ | exact Loc.convF _ _ _ _ | exact Loc.makeSliceM _ _ _ _ | exact Loc.fieldAddrM _ _ _ _ | exact Loc.fieldM _ _ _ _ | exact Loc.indexAddrM _ _ _ _ | exact Loc.indexM _ _ _ _ | exact Loc.sliceM _ _ _ _ _ _ | exact Loc.mapM _ | exact Loc.lookDone _ _ _ | exact Loc.lookupM _ _ _ _ _ | exact Loc.updateM _ _ _ _ _ | exact Loc.deleteM _ _ _ _ | exact Loc.rangeM _ _ | exact Loc.next1 _ _ _ _ _ _ _ | exact Loc.nextM _ | exact Loc.entryM _ | exact Loc.appS _ _ _ _ _ _ | exact Loc.appM _ _ _ _ _ | exact Loc.appendF _ _ _ _ _ | exact Loc.lenF _ _ _ | exact Loc.copyF _ _ _ _ | exact Loc.clearF _ _ _ | exact Loc.capM _ _ | exact Loc.builtinF _ _ _ _ | exact Loc.rds _ _ | exact Loc.rdsP _ _ | exact Loc.rdOpt _ _ | exact Loc.notNil _ | refine Loc.withTy (fun _ => ?_) | refine Loc.bind ?_ (fun _ => ?_) | refine Loc.cond ?_ ?_ | refine Loc.ite ?_ ?_ | refine Loc.force (fun _ => ?_) | refine Loc.withKey (fun _ => ?_) | refine Loc.value ?_ | refine Loc.skip ?_ | (split <;> skip))
end
end Go.Proofs.YtnanlaefehaifaaGreat.Vm
