/-
  Texts of this claim, joined: VT, VU, VV, VW, VX, VY.
-/
import Derived.OrdersIn
import Derived.Test.YtnkjkgmohmcobaaGreatDoorBc15
set_option maxHeartbeats 6400000
set_option maxRecDepth 100000
namespace Go.Proofs.YtnkjkgmohmcobaaGreatDoor.Vm
open Go
section
variable {α β:Type}
theorem Loc.cond {b:Bool} {x y:M α} (hx:Loc x) (hy:Loc y):Loc (bif b then x else y):=by cases b<;>assumption
theorem Loc.ite {p:Prop} [Decidable p] {x y:M α} (hx:Loc x) (hy:Loc y):Loc (if p then x else y):=by split<;>assumption
theorem Loc.withTy {E:Env} {t:TypeId} {k:TyI→M α} (h:∀i,Loc (k i)):Loc (withTy E t k):=by
 cases hi:E.ty.get t with
 |none=>exact Loc.congr (Loc.fail "type") (by funext s;unfold Go.Proofs.YtnkjkgmohmcobaaGreatDoor.Vm.withTy;rw [hi];rfl)
 |some i=>exact Loc.congr (h i) (by funext s;unfold Go.Proofs.YtnkjkgmohmcobaaGreatDoor.Vm.withTy;rw [hi])
theorem Loc.partA (b:Bool) (l:List AV):Loc (partA b l):=by
 cases b with
 |true=>exact Loc.congr (Loc.pure (.agg l)) rfl
 |false=>exact Loc.congr (Loc.of (oneA l) "one") rfl
theorem Loc.force {n:Nat} {k:Nat→M α} (h:∀n,Loc (k n)):Loc (forceN n k):=by
 rw [forceN_eq]
 exact h n
theorem Loc.cmp2 (f:Int→Int→Bool) (g:ByteArray→ByteArray→Bool) (x y:AV):Loc (cmp2 f g x y):=Loc.same fun s v s' h=>by
 unfold Go.Proofs.YtnkjkgmohmcobaaGreatDoor.Vm.cmp2 at h ⊢
 split at h
 ·rename_i p q ha hb
  by_cases hpq:p.1=q.1
  ·simp only [if_pos hpq] at h ⊢
   injection h with h1 h2
   exact ⟨h2.symm,fun _=>by rw [h1]⟩
  ·rw [if_neg hpq] at h
   cases h
 ·rename_i hn
  split at h
  ·rename_i p q ha hb
   injection h with h1 h2
   exact ⟨h2.symm,fun s2=>by rw [h1]⟩
  ·cases h
theorem Loc.int2 (f:IntKind→Int→Int→Option AV) (x y:AV):Loc (int2 f x y):=by
 unfold Go.Proofs.YtnkjkgmohmcobaaGreatDoor.Vm.int2
 split
 ·exact Loc.ite (Loc.of _ _) (Loc.fail _)
 ·exact Loc.fail _
theorem Loc.eqNil (f:AV→Option Bool) (x y:AV):Loc (eqNil f x y):=Loc.same fun s v s' h=>by
 unfold Go.Proofs.YtnkjkgmohmcobaaGreatDoor.Vm.eqNil at h ⊢
 cases hx:f x with
 |none=>rw [hx] at h;cases h
 |some b=>
  cases hy:f y with
  |none=>rw [hx,hy] at h;cases b<;>cases h
  |some c=>
   rw [hx,hy] at h
   cases b with
   |true=>
    injection h with h1 h2
    subst h1
    exact ⟨h2.symm,fun _=>rfl⟩
   |false=>
    cases c with
    |true=>
     injection h with h1 h2
     subst h1
     exact ⟨h2.symm,fun _=>rfl⟩
    |false=>cases h
theorem Loc.eqAgg (i:TyI) (x y:AV):Loc (eqAgg i x y):=Loc.same fun s v s' h=>by
 unfold Go.Proofs.YtnkjkgmohmcobaaGreatDoor.Vm.eqAgg at h ⊢
 cases hx:aggA x with
 |none=>rw [hx] at h;cases h
 |some p=>
  cases hy:aggA y with
  |none=>rw [hx,hy] at h;cases h
  |some q=>
   rw [hx,hy] at h
   cases hb:(i.flat&&shapeB (isArrD i.desc) i.size i.zc p) with
   |true=>
    simp only [hb,cond_true] at h ⊢
    obtain ⟨h1,h2⟩:=M.of_ok.1 h
    exact ⟨h2,fun s2=>M.of_ok.2 ⟨h1,rfl⟩⟩
   |false=>simp only [hb,cond_false] at h;cases h
theorem Loc.rd (T:Tr AV) (x:Opd):Loc (rd T x):=Loc.same fun s v s' h=>by
 unfold Go.Proofs.YtnkjkgmohmcobaaGreatDoor.Vm.rd at h ⊢
 cases x with
 |slot t=>
  injection h with h1 h2
  subst h1
  exact ⟨h2.symm,fun _=>rfl⟩
 |val t=>
  injection h with h1 h2
  subst h1
  exact ⟨h2.symm,fun _=>rfl⟩
 |no=>cases h
theorem Loc.rowM (n:Nat):Loc (rowM n):=by
 unfold Go.Proofs.YtnkjkgmohmcobaaGreatDoor.Vm.rowM
 repeat (first|exact Loc.of _ _|exact Loc.getM _|refine Loc.bind ?_ (fun _=>?_))
theorem Loc.loadI (b:Bool) (n:Nat) (a:AV):Loc (loadI b n a):=by
 unfold Go.Proofs.YtnkjkgmohmcobaaGreatDoor.Vm.loadI
 repeat (first|exact Loc.of _ _|exact Loc.partA _ _|exact Loc.rowM _|refine Loc.bind ?_ (fun _=>?_))
theorem Loc.loadM (i:TyI) (a:AV):Loc (loadM i a):=by
 unfold Go.Proofs.YtnkjkgmohmcobaaGreatDoor.Vm.loadM
 repeat (first|exact Loc.loadI _ _ _)
theorem Loc.storeM (i:TyI) (a:AV) (v:AV):Loc (storeM i a v):=by
 unfold Go.Proofs.YtnkjkgmohmcobaaGreatDoor.Vm.storeM
 repeat (first|exact Loc.fail _|exact Loc.of _ _|exact Loc.setM _ _|exact Loc.rowM _|refine Loc.bind ?_ (fun _=>?_)|refine Loc.cond ?_ ?_)
theorem Loc.buildM (E:Env) (i:TyI) (ps:List (Nat × AV)):Loc (buildM E i ps):=by
 unfold Go.Proofs.YtnkjkgmohmcobaaGreatDoor.Vm.buildM
 repeat (first|exact Loc.pure _|exact Loc.fail _|exact Loc.of _ _|refine Loc.withTy (fun _=>?_)|refine Loc.bind ?_ (fun _=>?_)|(split<;>skip))
theorem Loc.buildSliceM (E:Env) (i:TyI) (n:Nat) (ps:List (Nat × AV)):Loc (buildSliceM E i n ps):=by
 unfold Go.Proofs.YtnkjkgmohmcobaaGreatDoor.Vm.buildSliceM
 repeat (first|exact Loc.pure _|exact Loc.fail _|exact Loc.of _ _|exact Loc.newM _|refine Loc.withTy (fun _=>?_)|refine Loc.bind ?_ (fun _=>?_)|refine Loc.cond ?_ ?_|(split<;>skip))
theorem Loc.eqP (E:Env) (d:TyD) (x y:AV):Loc (eqP E d x y):=by
 cases hx:addrA x with
 |none=>exact Loc.congr (Loc.eqNil nilP x y) (by funext s;unfold Go.Proofs.YtnkjkgmohmcobaaGreatDoor.Vm.eqP;rw [hx])
 |some p=>
  cases hy:addrA y with
  |none=>exact Loc.congr (Loc.eqNil nilP x y) (by funext s;unfold Go.Proofs.YtnkjkgmohmcobaaGreatDoor.Vm.eqP;rw [hx,hy])
  |some q=>
   refine Loc.congr (m:=M.bind (M.of (ptrD d) "eq: pointer") fun e=>Go.Proofs.YtnkjkgmohmcobaaGreatDoor.Vm.withTy E e fun j=>bif Nat.beq j.size 0 then M.fail "eq: no cells" else
    M.bind (Go.Proofs.YtnkjkgmohmcobaaGreatDoor.Vm.rowM p.1) fun _=>M.bind (Go.Proofs.YtnkjkgmohmcobaaGreatDoor.Vm.rowM q.1) fun _=>M.pure (Nat.beq p.1 q.1&&Nat.beq p.2 q.2)) ?_ (by funext s;unfold Go.Proofs.YtnkjkgmohmcobaaGreatDoor.Vm.eqP;rw [hx,hy])
   repeat (first|exact Loc.pure _|exact Loc.fail _|exact Loc.of _ _|exact Loc.getM _|exact Loc.setM _ _|exact Loc.newM _|exact Loc.partA _ _|exact Loc.cmp2 _ _ _ _|exact Loc.int2 _ _ _|exact Loc.eqNil _ _ _|exact Loc.eqAgg _ _ _|exact Loc.rd _ _|exact Loc.rowM _|exact Loc.loadI _ _ _|exact Loc.loadM _ _|exact Loc.storeM _ _ _|exact Loc.buildM _ _ _|exact Loc.buildSliceM _ _ _ _|refine Loc.withTy (fun _=>?_)|refine Loc.bind ?_ (fun _=>?_)|refine Loc.cond ?_ ?_|refine Loc.ite ?_ ?_|refine Loc.force (fun _=>?_)|(split<;>skip))
theorem Loc.eqRef (d:TyD) (x:AV) (y:AV):Loc (eqRef d x y):=by
 unfold Go.Proofs.YtnkjkgmohmcobaaGreatDoor.Vm.eqRef
 repeat (first|exact Loc.fail _|exact Loc.eqNil _ _ _|(split<;>skip))
theorem Loc.eqT (E:Env) (i:TyI) (b:Bool) (x:AV) (y:AV):Loc (eqT E i b x y):=by
 unfold Go.Proofs.YtnkjkgmohmcobaaGreatDoor.Vm.eqT
 repeat (first|exact Loc.fail _|exact Loc.of _ _|exact Loc.eqNil _ _ _|exact Loc.eqAgg _ _ _|exact Loc.eqP _ _ _ _|exact Loc.eqRef _ _ _|refine Loc.cond ?_ ?_|(split<;>skip))
theorem Loc.sh2 (f:IntKind→Int→Nat→AV) (x:AV) (y:AV):Loc (sh2 f x y):=by
 unfold Go.Proofs.YtnkjkgmohmcobaaGreatDoor.Vm.sh2
 repeat (first|exact Loc.pure _|exact Loc.fail _|(split<;>skip))
theorem Loc.addA (x y:AV):Loc (addA x y):=by
 cases hx:strA x with
 |none=>exact Loc.congr (Loc.int2 _ x y) (by funext s;unfold Go.Proofs.YtnkjkgmohmcobaaGreatDoor.Vm.addA;rw [hx])
 |some p=>
  cases hy:strA y with
  |none=>exact Loc.congr (Loc.int2 _ x y) (by funext s;unfold Go.Proofs.YtnkjkgmohmcobaaGreatDoor.Vm.addA;rw [hx,hy])
  |some q=>
   refine Loc.congr (m:=bif Nat.ble (Nat.add p.data.size q.data.size) 1000000 then M.pure (.str (p++q)) else M.fail "string: great") (Loc.cond (Loc.pure _) (Loc.fail _)) ?_
   funext s
   unfold Go.Proofs.YtnkjkgmohmcobaaGreatDoor.Vm.addA
   simp only [hx,hy]
   cases Nat.ble (Nat.add p.data.size q.data.size) 1000000<;>rfl
theorem Loc.binF (E:Env) (op:BinOp) (t:TypeId) (b:Bool) (x:AV) (y:AV):Loc (binF E op t b x y):=by
 cases op<;>
 unfold Go.Proofs.YtnkjkgmohmcobaaGreatDoor.Vm.binF
 repeat (first|exact Loc.pure _|exact Loc.cmp2 _ _ _ _|exact Loc.int2 _ _ _|exact Loc.eqT _ _ _ _ _|exact Loc.sh2 _ _ _|exact Loc.addA _ _|refine Loc.withTy (fun _=>?_)|refine Loc.bind ?_ (fun _=>?_)|refine Loc.ite ?_ ?_|(split<;>skip))
theorem Loc.unF (op:UnOp) (x:AV):Loc (unF op x):=by
 cases op<;>
 unfold Go.Proofs.YtnkjkgmohmcobaaGreatDoor.Vm.unF
 repeat (first|exact Loc.pure _|exact Loc.fail _|exact Loc.of _ _|refine Loc.bind ?_ (fun _=>?_)|refine Loc.ite ?_ ?_|(split<;>skip))
theorem Loc.cellsM (n:Nat) (x:AV):Loc (cellsM n x):=by
 unfold Go.Proofs.YtnkjkgmohmcobaaGreatDoor.Vm.cellsM
 repeat (first|exact Loc.pure _|exact Loc.fail _|exact Loc.of _ _|exact Loc.rowM _|refine Loc.bind ?_ (fun _=>?_)|refine Loc.cond ?_ ?_|(split<;>skip))
theorem Loc.convF (E:Env) (a:TypeId) (b:TypeId) (x:AV):Loc (convF E a b x):=by
 unfold Go.Proofs.YtnkjkgmohmcobaaGreatDoor.Vm.convF
 repeat (first|exact Loc.pure _|exact Loc.fail _|exact Loc.of _ _|exact Loc.cellsM _ _|refine Loc.withTy (fun _=>?_)|refine Loc.bind ?_ (fun _=>?_)|refine Loc.cond ?_ ?_|(split<;>skip))
theorem Loc.makeSliceM (E:Env) (i:TyI) (l:AV) (c:AV):Loc (makeSliceM E i l c):=by
 unfold Go.Proofs.YtnkjkgmohmcobaaGreatDoor.Vm.makeSliceM
 repeat (first|exact Loc.pure _|exact Loc.fail _|exact Loc.of _ _|exact Loc.newM _|refine Loc.withTy (fun _=>?_)|refine Loc.bind ?_ (fun _=>?_)|refine Loc.cond ?_ ?_|(split<;>skip))
theorem Loc.fieldAddrM (E:Env) (i:TyI) (f:Nat) (x:AV):Loc (fieldAddrM E i f x):=by
 unfold Go.Proofs.YtnkjkgmohmcobaaGreatDoor.Vm.fieldAddrM
 repeat (first|exact Loc.pure _|exact Loc.fail _|exact Loc.of _ _|refine Loc.withTy (fun _=>?_)|refine Loc.bind ?_ (fun _=>?_)|refine Loc.cond ?_ ?_|refine Loc.force (fun _=>?_)|(split<;>skip))
theorem Loc.fieldM (E:Env) (i:TyI) (f:Nat) (x:AV):Loc (fieldM E i f x):=by
 unfold Go.Proofs.YtnkjkgmohmcobaaGreatDoor.Vm.fieldM
 repeat (first|exact Loc.fail _|exact Loc.of _ _|exact Loc.partA _ _|refine Loc.withTy (fun _=>?_)|refine Loc.bind ?_ (fun _=>?_)|(split<;>skip))
theorem Loc.indexAddrM (E:Env) (i:TyI) (x:AV) (y:AV):Loc (indexAddrM E i x y):=by
 unfold Go.Proofs.YtnkjkgmohmcobaaGreatDoor.Vm.indexAddrM
 repeat (first|exact Loc.pure _|exact Loc.fail _|exact Loc.of _ _|refine Loc.withTy (fun _=>?_)|refine Loc.bind ?_ (fun _=>?_)|refine Loc.cond ?_ ?_|refine Loc.force (fun _=>?_)|(split<;>skip))
theorem Loc.indexM (E:Env) (i:TyI) (x:AV) (y:AV):Loc (indexM E i x y):=by
 unfold Go.Proofs.YtnkjkgmohmcobaaGreatDoor.Vm.indexM
 repeat (first|exact Loc.pure _|exact Loc.fail _|exact Loc.of _ _|exact Loc.partA _ _|refine Loc.withTy (fun _=>?_)|refine Loc.bind ?_ (fun _=>?_)|refine Loc.cond ?_ ?_|(split<;>skip))
theorem Loc.sliceM (E:Env) (i:TyI) (x:AV) (l:Option AV) (h:Option AV) (m:Option AV):Loc (sliceM E i x l h m):=by
 unfold Go.Proofs.YtnkjkgmohmcobaaGreatDoor.Vm.sliceM
 repeat (first|exact Loc.pure _|exact Loc.fail _|exact Loc.of _ _|exact Loc.rowM _|refine Loc.withTy (fun _=>?_)|refine Loc.bind ?_ (fun _=>?_)|refine Loc.cond ?_ ?_|(split<;>skip))
theorem Loc.mapM (n:Nat):Loc (mapM n):=by
 unfold Go.Proofs.YtnkjkgmohmcobaaGreatDoor.Vm.mapM
 repeat (first|exact Loc.of _ _|exact Loc.getM _|refine Loc.bind ?_ (fun _=>?_))
theorem Loc.withKey {E:Env} {t:TypeId} {a:AV} {k:KeyC→M α} (h:∀i,Loc (k i)):Loc (withKey E t a k):=by
 unfold Go.Proofs.YtnkjkgmohmcobaaGreatDoor.Vm.withKey
 exact Loc.withTy fun i=>Loc.cond (h _) (Loc.cond (h _) (Loc.fail _))
theorem Loc.lookDone (b:Bool) (z:AV) (r:Option (Nat × AV)):Loc (lookDone b z r):=by
 unfold Go.Proofs.YtnkjkgmohmcobaaGreatDoor.Vm.lookDone
 repeat (first|exact Loc.pure _|refine Loc.cond ?_ ?_|(split<;>skip))
theorem Loc.lookupM (E:Env) (i:TyI) (b:Bool) (x:AV) (k:AV):Loc (lookupM E i b x k):=by
 unfold Go.Proofs.YtnkjkgmohmcobaaGreatDoor.Vm.lookupM
 repeat (first|exact Loc.fail _|exact Loc.of _ _|exact Loc.mapM _|exact Loc.lookDone _ _ _|refine Loc.withKey (fun _=>?_)|refine Loc.withTy (fun _=>?_)|refine Loc.bind ?_ (fun _=>?_)|(split<;>skip))
theorem Loc.updateM (E:Env) (i:TyI) (x:AV) (k:AV) (v:AV):Loc (updateM E i x k v):=by
 unfold Go.Proofs.YtnkjkgmohmcobaaGreatDoor.Vm.updateM
 repeat (first|exact Loc.fail _|exact Loc.of _ _|exact Loc.setM _ _|exact Loc.mapM _|refine Loc.withKey (fun _=>?_)|refine Loc.bind ?_ (fun _=>?_)|(split<;>skip))
theorem Loc.deleteM (E:Env) (i:TyI) (x:AV) (k:AV):Loc (deleteM E i x k):=by
 unfold Go.Proofs.YtnkjkgmohmcobaaGreatDoor.Vm.deleteM
 repeat (first|exact Loc.pure _|exact Loc.fail _|exact Loc.of _ _|exact Loc.setM _ _|exact Loc.mapM _|refine Loc.withKey (fun _=>?_)|refine Loc.bind ?_ (fun _=>?_)|(split<;>skip))
theorem Loc.rangeM (i:TyI) (x:AV):Loc (rangeM i x):=by
 unfold Go.Proofs.YtnkjkgmohmcobaaGreatDoor.Vm.rangeM
 repeat (first|exact Loc.pure _|exact Loc.fail _|exact Loc.of _ _|exact Loc.newM _|exact Loc.mapM _|refine Loc.bind ?_ (fun _=>?_)|refine Loc.cond ?_ ?_|(split<;>skip))
theorem Loc.next1 (n:Nat) (m:Nat) (since:Nat) (seen:List Nat) (last:Nat) (c:Nat) (l:List Ent):Loc (next1 n m since seen last c l):=by
 unfold Go.Proofs.YtnkjkgmohmcobaaGreatDoor.Vm.next1
 repeat (first|exact Loc.pure _|exact Loc.fail _|exact Loc.setM _ _|refine Loc.bind ?_ (fun _=>?_)|refine Loc.cond ?_ ?_|(split<;>skip))
theorem Loc.nextM (x:AV):Loc (nextM x):=by
 unfold Go.Proofs.YtnkjkgmohmcobaaGreatDoor.Vm.nextM
 repeat (first|exact Loc.pure _|exact Loc.fail _|exact Loc.of _ _|exact Loc.getM _|exact Loc.mapM _|exact Loc.next1 _ _ _ _ _ _ _|refine Loc.bind ?_ (fun _=>?_)|refine Loc.cond ?_ ?_|(split<;>skip))
theorem Loc.step1 (n:Nat) (s:ByteArray) (pos:Nat) (c:Nat) (k:Nat):Loc (step1 n s pos c k):=by
 unfold Go.Proofs.YtnkjkgmohmcobaaGreatDoor.Vm.step1
 repeat (first|exact Loc.pure _|exact Loc.setM _ _|refine Loc.bind ?_ (fun _=>?_)|refine Loc.force (fun _=>?_))
theorem Loc.nextS (x:AV):Loc (nextS x):=by
 unfold Go.Proofs.YtnkjkgmohmcobaaGreatDoor.Vm.nextS
 repeat (first|exact Loc.pure _|exact Loc.fail _|exact Loc.of _ _|exact Loc.getM _|exact Loc.step1 _ _ _ _ _|refine Loc.bind ?_ (fun _=>?_)|refine Loc.cond ?_ ?_)
theorem Loc.entryM (x:AV):Loc (entryM x):=by
 unfold Go.Proofs.YtnkjkgmohmcobaaGreatDoor.Vm.entryM
 repeat (first|exact Loc.pure _|exact Loc.fail _|exact Loc.of _ _|exact Loc.getM _|exact Loc.mapM _|refine Loc.bind ?_ (fun _=>?_)|refine Loc.cond ?_ ?_)
theorem Loc.appS (e:TypeId) (a:Nat) (b:Nat) (s:SlV) (new:List AV) (k:Nat):Loc (appS e a b s new k):=by
 unfold Go.Proofs.YtnkjkgmohmcobaaGreatDoor.Vm.appS
 repeat (first|exact Loc.pure _|exact Loc.fail _|exact Loc.of _ _|exact Loc.setM _ _|exact Loc.newM _|exact Loc.rowM _|refine Loc.bind ?_ (fun _=>?_)|refine Loc.cond ?_ ?_|(split<;>skip))
theorem Loc.appM (e:TypeId) (j:TyI) (s:AV) (new:List AV) (k:Nat):Loc (appM e j s new k):=by
 unfold Go.Proofs.YtnkjkgmohmcobaaGreatDoor.Vm.appM
 repeat (first|exact Loc.pure _|exact Loc.fail _|exact Loc.newM _|exact Loc.appS _ _ _ _ _ _|refine Loc.bind ?_ (fun _=>?_)|refine Loc.cond ?_ ?_|(split<;>skip))
theorem Loc.appendF (E:Env) (t:TypeId) (u:TypeId) (s:AV) (x:AV):Loc (appendF E t u s x):=by
 unfold Go.Proofs.YtnkjkgmohmcobaaGreatDoor.Vm.appendF
 repeat (first|exact Loc.fail _|exact Loc.of _ _|exact Loc.cellsM _ _|exact Loc.appM _ _ _ _ _|refine Loc.withTy (fun _=>?_)|refine Loc.bind ?_ (fun _=>?_)|refine Loc.cond ?_ ?_|(split<;>skip))
theorem Loc.lenF (E:Env) (t:TypeId) (x:AV):Loc (lenF E t x):=by
 unfold Go.Proofs.YtnkjkgmohmcobaaGreatDoor.Vm.lenF
 repeat (first|exact Loc.pure _|exact Loc.fail _|exact Loc.of _ _|exact Loc.mapM _|refine Loc.withTy (fun _=>?_)|refine Loc.bind ?_ (fun _=>?_)|refine Loc.cond ?_ ?_|(split<;>skip))
theorem Loc.copyF (E:Env) (t:TypeId) (d:AV) (x:AV):Loc (copyF E t d x):=by
 unfold Go.Proofs.YtnkjkgmohmcobaaGreatDoor.Vm.copyF
 repeat (first|exact Loc.pure _|exact Loc.fail _|exact Loc.of _ _|exact Loc.setM _ _|exact Loc.rowM _|exact Loc.cellsM _ _|refine Loc.withTy (fun _=>?_)|refine Loc.bind ?_ (fun _=>?_)|refine Loc.cond ?_ ?_|refine Loc.force (fun _=>?_)|(split<;>skip))
theorem Loc.clearF (E:Env) (t:TypeId) (x:AV):Loc (clearF E t x):=by
 unfold Go.Proofs.YtnkjkgmohmcobaaGreatDoor.Vm.clearF
 repeat (first|exact Loc.pure _|exact Loc.fail _|exact Loc.of _ _|exact Loc.setM _ _|exact Loc.rowM _|exact Loc.mapM _|refine Loc.withTy (fun _=>?_)|refine Loc.bind ?_ (fun _=>?_)|refine Loc.cond ?_ ?_|(split<;>skip))
theorem Loc.capM (i:TyI) (x:AV):Loc (capM i x):=by
 unfold Go.Proofs.YtnkjkgmohmcobaaGreatDoor.Vm.capM
 repeat (first|exact Loc.pure _|exact Loc.fail _|(split<;>skip))
theorem Loc.two {f:AV→AV→M AV} (h:∀x y,Loc (f x y)) (l:List AV):Loc (two f l):=by
 unfold Go.Proofs.YtnkjkgmohmcobaaGreatDoor.Vm.two
 split
 ·exact h _ _
 ·exact Loc.fail _
theorem Loc.one {f:AV→M AV} (h:∀x,Loc (f x)) (l:List AV):Loc (one f l):=by
 unfold Go.Proofs.YtnkjkgmohmcobaaGreatDoor.Vm.one
 split
 ·exact h _
 ·exact Loc.fail _
theorem Loc.argT {ts:List TypeId} {i:Nat} {k:TypeId→List AV→M AV} (h:∀t l,Loc (k t l)) (l:List AV):Loc (argT ts i k l):=by
 unfold Go.Proofs.YtnkjkgmohmcobaaGreatDoor.Vm.argT
 cases ts[i]? with
 |some t=>exact h _ _
 |none=>exact Loc.fail _
theorem Loc.builtinF (E:Env) (b:Builtin) (ts:List TypeId) (l:List AV):Loc (builtinF E b ts l):=by
 cases b<;>unfold Go.Proofs.YtnkjkgmohmcobaaGreatDoor.Vm.builtinF<;>first
  |exact Loc.fail _
  |exact Loc.argT (fun _ _=>Loc.argT (fun _ _=>Loc.two (fun _ _=>Loc.appendF _ _ _ _ _) _) _) _
  |exact Loc.argT (fun _ _=>Loc.one (fun _=>Loc.lenF _ _ _) _) _
  |exact Loc.argT (fun _ _=>Loc.two (fun _ _=>Loc.copyF _ _ _ _) _) _
  |exact Loc.argT (fun _ _=>Loc.one (fun _=>Loc.clearF _ _ _) _) _
  |exact Loc.argT (fun _ _=>Loc.two (fun _ _=>Loc.withTy fun _=>Loc.deleteM _ _ _ _) _) _
  |exact Loc.argT (fun _ _=>Loc.one (fun _=>Loc.withTy fun _=>Loc.capM _ _) _) _
  |exact Loc.two (fun _ _=>Loc.int2 _ _ _) _
theorem Loc.rds (T:Tr AV):∀l,Loc (rds T l)
 |[]=>Loc.pure _
 |_::r=>Loc.bind (Loc.rd _ _) fun _=>Loc.bind (Loc.rds T r) fun _=>Loc.pure _
theorem Loc.rdsP (T:Tr AV):∀l,Loc (rdsP T l)
 |[]=>Loc.pure _
 |_::r=>Loc.bind (Loc.rd _ _) fun _=>Loc.bind (Loc.rdsP T r) fun _=>Loc.pure _
theorem Loc.rdOpt (T:Tr AV) (x:Option Opd):Loc (rdOpt T x):=by
 unfold Go.Proofs.YtnkjkgmohmcobaaGreatDoor.Vm.rdOpt
 repeat (first|exact Loc.pure _|exact Loc.rd _ _|refine Loc.bind ?_ (fun _=>?_)|(split<;>skip))
theorem Loc.notNil (x:AV):Loc (notNil x):=by
 unfold Go.Proofs.YtnkjkgmohmcobaaGreatDoor.Vm.notNil
 repeat (first|exact Loc.pure _|exact Loc.fail _|refine Loc.cond ?_ ?_)
theorem Loc.value {m:M AV} (h:Loc m):Loc (value m):=Loc.bind h fun _=>Loc.pure _
theorem Loc.skip {m:M Unit} (h:Loc m):Loc (skip m):=Loc.bind h fun _=>Loc.pure _
theorem OpC.inj {f g:Tr AV→M ANext} (h:OpC.simp f=OpC.simp g):f=g:=by injection h
theorem Loc.simp {E:Env} {o:Op} {f:Tr AV→M ANext} (ho:opC E o= .simp f) (T:Tr AV):Loc (f T):=by
 cases o<;>simp only [opC] at ho
 all_goals first
  |(obtain rfl:=(OpC.inj ho).symm
    repeat (first|exact Loc.pure _|exact Loc.fail _|exact Loc.of _ _|exact Loc.getM _|exact Loc.setM _ _|exact Loc.newM _|exact Loc.partA _ _|exact Loc.cmp2 _ _ _ _|exact Loc.int2 _ _ _|exact Loc.eqNil _ _ _|exact Loc.eqAgg _ _ _|exact Loc.rd _ _|exact Loc.rowM _|exact Loc.loadI _ _ _|exact Loc.loadM _ _|exact Loc.storeM _ _ _|exact Loc.buildM _ _ _|exact Loc.buildSliceM _ _ _ _|exact Loc.eqP _ _ _ _|exact Loc.eqRef _ _ _|exact Loc.eqT _ _ _ _ _|exact Loc.sh2 _ _ _|exact Loc.addA _ _|exact Loc.binF _ _ _ _ _ _|exact Loc.unF _ _|exact Loc.cellsM _ _|exact Loc.convF _ _ _ _|exact Loc.makeSliceM _ _ _ _|exact Loc.fieldAddrM _ _ _ _|exact Loc.fieldM _ _ _ _|exact Loc.indexAddrM _ _ _ _|exact Loc.indexM _ _ _ _|exact Loc.sliceM _ _ _ _ _ _|exact Loc.mapM _|exact Loc.lookDone _ _ _|exact Loc.lookupM _ _ _ _ _|exact Loc.updateM _ _ _ _ _|exact Loc.deleteM _ _ _ _|exact Loc.rangeM _ _|exact Loc.next1 _ _ _ _ _ _ _|exact Loc.nextM _|exact Loc.step1 _ _ _ _ _|exact Loc.nextS _|exact Loc.entryM _|exact Loc.appS _ _ _ _ _ _|exact Loc.appM _ _ _ _ _|exact Loc.appendF _ _ _ _ _|exact Loc.lenF _ _ _|exact Loc.copyF _ _ _ _|exact Loc.clearF _ _ _|exact Loc.capM _ _|exact Loc.builtinF _ _ _ _|exact Loc.rds _ _|exact Loc.rdsP _ _|exact Loc.rdOpt _ _|exact Loc.notNil _|refine Loc.withTy (fun _=>?_)|refine Loc.bind ?_ (fun _=>?_)|refine Loc.cond ?_ ?_|refine Loc.ite ?_ ?_|refine Loc.force (fun _=>?_)|refine Loc.withKey (fun _=>?_)|refine Loc.value ?_|refine Loc.skip ?_|(split<;>skip))
    done)
  |skip
 case makeFunc fn y z=>
  unfold funC at ho
  cases fn<;>simp only at ho<;>obtain rfl:=(OpC.inj ho).symm
  all_goals
   repeat (first|exact Loc.pure _|exact Loc.fail _|exact Loc.of _ _|exact Loc.getM _|exact Loc.setM _ _|exact Loc.newM _|exact Loc.partA _ _|exact Loc.cmp2 _ _ _ _|exact Loc.int2 _ _ _|exact Loc.eqNil _ _ _|exact Loc.eqAgg _ _ _|exact Loc.rd _ _|exact Loc.rowM _|exact Loc.loadI _ _ _|exact Loc.loadM _ _|exact Loc.storeM _ _ _|exact Loc.buildM _ _ _|exact Loc.buildSliceM _ _ _ _|exact Loc.eqP _ _ _ _|exact Loc.eqRef _ _ _|exact Loc.eqT _ _ _ _ _|exact Loc.sh2 _ _ _|exact Loc.addA _ _|exact Loc.binF _ _ _ _ _ _|exact Loc.unF _ _|exact Loc.cellsM _ _|exact Loc.convF _ _ _ _|exact Loc.makeSliceM _ _ _ _|exact Loc.fieldAddrM _ _ _ _|exact Loc.fieldM _ _ _ _|exact Loc.indexAddrM _ _ _ _|exact Loc.indexM _ _ _ _|exact Loc.sliceM _ _ _ _ _ _|exact Loc.mapM _|exact Loc.lookDone _ _ _|exact Loc.lookupM _ _ _ _ _|exact Loc.updateM _ _ _ _ _|exact Loc.deleteM _ _ _ _|exact Loc.rangeM _ _|exact Loc.next1 _ _ _ _ _ _ _|exact Loc.nextM _|exact Loc.step1 _ _ _ _ _|exact Loc.nextS _|exact Loc.entryM _|exact Loc.appS _ _ _ _ _ _|exact Loc.appM _ _ _ _ _|exact Loc.appendF _ _ _ _ _|exact Loc.lenF _ _ _|exact Loc.copyF _ _ _ _|exact Loc.clearF _ _ _|exact Loc.capM _ _|exact Loc.builtinF _ _ _ _|exact Loc.rds _ _|exact Loc.rdsP _ _|exact Loc.rdOpt _ _|exact Loc.notNil _|refine Loc.withTy (fun _=>?_)|refine Loc.bind ?_ (fun _=>?_)|refine Loc.cond ?_ ?_|refine Loc.ite ?_ ?_|refine Loc.force (fun _=>?_)|refine Loc.withKey (fun _=>?_)|refine Loc.value ?_|refine Loc.skip ?_|(split<;>skip))
 case makeMap ty r=>
  unfold mapC at ho
  cases r<;>simp only at ho<;>obtain rfl:=(OpC.inj ho).symm
  all_goals
   repeat (first|exact Loc.pure _|exact Loc.fail _|exact Loc.of _ _|exact Loc.getM _|exact Loc.setM _ _|exact Loc.newM _|exact Loc.partA _ _|exact Loc.cmp2 _ _ _ _|exact Loc.int2 _ _ _|exact Loc.eqNil _ _ _|exact Loc.eqAgg _ _ _|exact Loc.rd _ _|exact Loc.rowM _|exact Loc.loadI _ _ _|exact Loc.loadM _ _|exact Loc.storeM _ _ _|exact Loc.buildM _ _ _|exact Loc.buildSliceM _ _ _ _|exact Loc.eqP _ _ _ _|exact Loc.eqRef _ _ _|exact Loc.eqT _ _ _ _ _|exact Loc.sh2 _ _ _|exact Loc.addA _ _|exact Loc.binF _ _ _ _ _ _|exact Loc.unF _ _|exact Loc.cellsM _ _|exact Loc.convF _ _ _ _|exact Loc.makeSliceM _ _ _ _|exact Loc.fieldAddrM _ _ _ _|exact Loc.fieldM _ _ _ _|exact Loc.indexAddrM _ _ _ _|exact Loc.indexM _ _ _ _|exact Loc.sliceM _ _ _ _ _ _|exact Loc.mapM _|exact Loc.lookDone _ _ _|exact Loc.lookupM _ _ _ _ _|exact Loc.updateM _ _ _ _ _|exact Loc.deleteM _ _ _ _|exact Loc.rangeM _ _|exact Loc.next1 _ _ _ _ _ _ _|exact Loc.nextM _|exact Loc.step1 _ _ _ _ _|exact Loc.nextS _|exact Loc.entryM _|exact Loc.appS _ _ _ _ _ _|exact Loc.appM _ _ _ _ _|exact Loc.appendF _ _ _ _ _|exact Loc.lenF _ _ _|exact Loc.copyF _ _ _ _|exact Loc.clearF _ _ _|exact Loc.capM _ _|exact Loc.builtinF _ _ _ _|exact Loc.rds _ _|exact Loc.rdsP _ _|exact Loc.rdOpt _ _|exact Loc.notNil _|refine Loc.withTy (fun _=>?_)|refine Loc.bind ?_ (fun _=>?_)|refine Loc.cond ?_ ?_|refine Loc.ite ?_ ?_|refine Loc.force (fun _=>?_)|refine Loc.withKey (fun _=>?_)|refine Loc.value ?_|refine Loc.skip ?_|(split<;>skip))
 case next y b=>
  unfold nextC at ho
  cases b<;>simp only at ho<;>obtain rfl:=(OpC.inj ho).symm
  all_goals
   repeat (first|exact Loc.pure _|exact Loc.fail _|exact Loc.of _ _|exact Loc.getM _|exact Loc.setM _ _|exact Loc.newM _|exact Loc.partA _ _|exact Loc.cmp2 _ _ _ _|exact Loc.int2 _ _ _|exact Loc.eqNil _ _ _|exact Loc.eqAgg _ _ _|exact Loc.rd _ _|exact Loc.rowM _|exact Loc.loadI _ _ _|exact Loc.loadM _ _|exact Loc.storeM _ _ _|exact Loc.buildM _ _ _|exact Loc.buildSliceM _ _ _ _|exact Loc.eqP _ _ _ _|exact Loc.eqRef _ _ _|exact Loc.eqT _ _ _ _ _|exact Loc.sh2 _ _ _|exact Loc.addA _ _|exact Loc.binF _ _ _ _ _ _|exact Loc.unF _ _|exact Loc.cellsM _ _|exact Loc.convF _ _ _ _|exact Loc.makeSliceM _ _ _ _|exact Loc.fieldAddrM _ _ _ _|exact Loc.fieldM _ _ _ _|exact Loc.indexAddrM _ _ _ _|exact Loc.indexM _ _ _ _|exact Loc.sliceM _ _ _ _ _ _|exact Loc.mapM _|exact Loc.lookDone _ _ _|exact Loc.lookupM _ _ _ _ _|exact Loc.updateM _ _ _ _ _|exact Loc.deleteM _ _ _ _|exact Loc.rangeM _ _|exact Loc.next1 _ _ _ _ _ _ _|exact Loc.nextM _|exact Loc.step1 _ _ _ _ _|exact Loc.nextS _|exact Loc.entryM _|exact Loc.appS _ _ _ _ _ _|exact Loc.appM _ _ _ _ _|exact Loc.appendF _ _ _ _ _|exact Loc.lenF _ _ _|exact Loc.copyF _ _ _ _|exact Loc.clearF _ _ _|exact Loc.capM _ _|exact Loc.builtinF _ _ _ _|exact Loc.rds _ _|exact Loc.rdsP _ _|exact Loc.rdOpt _ _|exact Loc.notNil _|refine Loc.withTy (fun _=>?_)|refine Loc.bind ?_ (fun _=>?_)|refine Loc.cond ?_ ?_|refine Loc.ite ?_ ?_|refine Loc.force (fun _=>?_)|refine Loc.withKey (fun _=>?_)|refine Loc.value ?_|refine Loc.skip ?_|(split<;>skip))
 case call c=>
  obtain ⟨callee,args,argTypes⟩:=c
  unfold callC at ho
  cases callee with
  |builtin b=>
   obtain rfl:=(OpC.inj ho).symm
   repeat (first|exact Loc.pure _|exact Loc.fail _|exact Loc.of _ _|exact Loc.getM _|exact Loc.setM _ _|exact Loc.newM _|exact Loc.partA _ _|exact Loc.cmp2 _ _ _ _|exact Loc.int2 _ _ _|exact Loc.eqNil _ _ _|exact Loc.eqAgg _ _ _|exact Loc.rd _ _|exact Loc.rowM _|exact Loc.loadI _ _ _|exact Loc.loadM _ _|exact Loc.storeM _ _ _|exact Loc.buildM _ _ _|exact Loc.buildSliceM _ _ _ _|exact Loc.eqP _ _ _ _|exact Loc.eqRef _ _ _|exact Loc.eqT _ _ _ _ _|exact Loc.sh2 _ _ _|exact Loc.addA _ _|exact Loc.binF _ _ _ _ _ _|exact Loc.unF _ _|exact Loc.cellsM _ _|exact Loc.convF _ _ _ _|exact Loc.makeSliceM _ _ _ _|exact Loc.fieldAddrM _ _ _ _|exact Loc.fieldM _ _ _ _|exact Loc.indexAddrM _ _ _ _|exact Loc.indexM _ _ _ _|exact Loc.sliceM _ _ _ _ _ _|exact Loc.mapM _|exact Loc.lookDone _ _ _|exact Loc.lookupM _ _ _ _ _|exact Loc.updateM _ _ _ _ _|exact Loc.deleteM _ _ _ _|exact Loc.rangeM _ _|exact Loc.next1 _ _ _ _ _ _ _|exact Loc.nextM _|exact Loc.step1 _ _ _ _ _|exact Loc.nextS _|exact Loc.entryM _|exact Loc.appS _ _ _ _ _ _|exact Loc.appM _ _ _ _ _|exact Loc.appendF _ _ _ _ _|exact Loc.lenF _ _ _|exact Loc.copyF _ _ _ _|exact Loc.clearF _ _ _|exact Loc.capM _ _|exact Loc.builtinF _ _ _ _|exact Loc.rds _ _|exact Loc.rdsP _ _|exact Loc.rdOpt _ _|exact Loc.notNil _|refine Loc.withTy (fun _=>?_)|refine Loc.bind ?_ (fun _=>?_)|refine Loc.cond ?_ ?_|refine Loc.ite ?_ ?_|refine Loc.force (fun _=>?_)|refine Loc.withKey (fun _=>?_)|refine Loc.value ?_|refine Loc.skip ?_|(split<;>skip))
  |value y=>cases ho
  |invoke y m=>cases ho
 case defer c=>
  obtain ⟨callee,args,argTypes⟩:=c
  unfold deferC at ho
  cases callee<;>simp only at ho<;>obtain rfl:=(OpC.inj ho).symm
  all_goals
   repeat (first|exact Loc.pure _|exact Loc.fail _|exact Loc.of _ _|exact Loc.getM _|exact Loc.setM _ _|exact Loc.newM _|exact Loc.partA _ _|exact Loc.cmp2 _ _ _ _|exact Loc.int2 _ _ _|exact Loc.eqNil _ _ _|exact Loc.eqAgg _ _ _|exact Loc.rd _ _|exact Loc.rowM _|exact Loc.loadI _ _ _|exact Loc.loadM _ _|exact Loc.storeM _ _ _|exact Loc.buildM _ _ _|exact Loc.buildSliceM _ _ _ _|exact Loc.eqP _ _ _ _|exact Loc.eqRef _ _ _|exact Loc.eqT _ _ _ _ _|exact Loc.sh2 _ _ _|exact Loc.addA _ _|exact Loc.binF _ _ _ _ _ _|exact Loc.unF _ _|exact Loc.cellsM _ _|exact Loc.convF _ _ _ _|exact Loc.makeSliceM _ _ _ _|exact Loc.fieldAddrM _ _ _ _|exact Loc.fieldM _ _ _ _|exact Loc.indexAddrM _ _ _ _|exact Loc.indexM _ _ _ _|exact Loc.sliceM _ _ _ _ _ _|exact Loc.mapM _|exact Loc.lookDone _ _ _|exact Loc.lookupM _ _ _ _ _|exact Loc.updateM _ _ _ _ _|exact Loc.deleteM _ _ _ _|exact Loc.rangeM _ _|exact Loc.next1 _ _ _ _ _ _ _|exact Loc.nextM _|exact Loc.step1 _ _ _ _ _|exact Loc.nextS _|exact Loc.entryM _|exact Loc.appS _ _ _ _ _ _|exact Loc.appM _ _ _ _ _|exact Loc.appendF _ _ _ _ _|exact Loc.lenF _ _ _|exact Loc.copyF _ _ _ _|exact Loc.clearF _ _ _|exact Loc.capM _ _|exact Loc.builtinF _ _ _ _|exact Loc.rds _ _|exact Loc.rdsP _ _|exact Loc.rdOpt _ _|exact Loc.notNil _|refine Loc.withTy (fun _=>?_)|refine Loc.bind ?_ (fun _=>?_)|refine Loc.cond ?_ ?_|refine Loc.ite ?_ ?_|refine Loc.force (fun _=>?_)|refine Loc.withKey (fun _=>?_)|refine Loc.value ?_|refine Loc.skip ?_|(split<;>skip))
end
end Go.Proofs.YtnkjkgmohmcobaaGreatDoor.Vm
namespace Go.Proofs.YtnkjkgmohmcobaaGreatDoor.Vm
open Go
section
variable {α β:Type}
structure LocEv (ev:Ev):Prop where
 call:∀f args,Loc (ev.call f args)
 callD:∀f args,Loc (ev.callD f args)
 code:∀r c a,Loc (ev.code r c a)
theorem Loc.loopM (l:Nat):Loc (loopM l):=Loc.bind (Loc.getM _) fun _=>Loc.of _ _
theorem Loc.defsM (l:Nat):Loc (defsM l):=Loc.bind (Loc.getM _) fun _=>Loc.bind (Loc.of _ _) fun _=>Loc.of _ _
theorem Loc.endM (l:Nat) (e:AExit):Loc (endM l e):=Loc.bind (Loc.loopM l) fun r=>by
 cases r
 exact Loc.bind (Loc.setM _ _) fun _=>Loc.pure _
theorem Loc.beginM (l:Nat):Loc (beginM l):=Loc.bind (Loc.loopM l) fun r=>by
 cases r
 exact Loc.cond (Loc.setM _ _) (Loc.fail _)
theorem Loc.roundM {ev:Ev} (hev:LocEv ev) (l:Nat) (args:List AV):Loc (roundM ev l args):=Loc.bind (Loc.loopM l) fun r=>by
 cases r
 refine Loc.cond (Loc.bind (hev.code _ _ _) fun q=>Loc.cond (Loc.bind (Loc.beginM l) fun _=>Loc.bind (hev.code _ _ _) fun _=>Loc.endM _ _) (Loc.fail _)) (Loc.fail _)
theorem Loc.callV {ev:Ev} (hev:LocEv ev) (f:AV) (args:List AV):Loc (callV ev f args):=Loc.bind (Loc.of _ _) fun g=>by
 cases g
 ·exact hev.call _ _
 ·exact Loc.roundM hev _ _
theorem Loc.runC {E:Env} {ev:Ev} (hev:LocEv ev) (T:Tr AV) (o:Op):Loc (runC E ev T (opC E o)):=by
 cases h:opC E o with
 |simp f=>exact Loc.simp h T
 |call x args=>exact Loc.bind (Loc.rds _ _) fun _=>Loc.bind (Loc.rd _ _) fun _=>Loc.value (Loc.callV hev _ _)
 |meth x m args=>exact Loc.bind (Loc.rds _ _) fun _=>Loc.bind (Loc.rd _ _) fun _=>Loc.bind (Loc.of _ _) fun _=>Loc.bind (Loc.of _ _) fun _=>Loc.value (hev.call _ _)
theorem Loc.wantedA (g:Option (Option (Tmp × Bool))) (T:Tr AV):Loc (wantedA g T):=by
 unfold Go.Proofs.YtnkjkgmohmcobaaGreatDoor.Vm.wantedA
 split
 ·exact Loc.pure _
 ·exact Loc.fail _
 ·exact Loc.bind (Loc.of _ _) fun _=>Loc.pure _
theorem Loc.putA (a:AAct) (d:Option Tmp) (v:AV):Loc (putA a d v):=by
 unfold Go.Proofs.YtnkjkgmohmcobaaGreatDoor.Vm.putA
 cases d with
 |none=>exact Loc.pure _
 |some d=>
  cases a
  exact Loc.cond (Loc.pure _) (Loc.fail _)
theorem Loc.deferIn (r:Option Nat) (d:ADef) (a:AAct):Loc (deferIn r d a):=by
 unfold Go.Proofs.YtnkjkgmohmcobaaGreatDoor.Vm.deferIn
 cases r with
 |none=>cases a;exact Loc.pure _
 |some l=>exact Loc.fail _
theorem Loc.doneA (r:Option Nat) (d:Option Tmp) (a:AAct) (x:ANext):Loc (doneA r d a x):=by
 unfold Go.Proofs.YtnkjkgmohmcobaaGreatDoor.Vm.doneA
 cases x with
 |value v=>exact Loc.putA _ _ _
 |skip=>exact Loc.putA _ _ _
 |defer q=>exact Loc.bind (Loc.deferIn _ _ _) fun _=>Loc.putA _ _ _
theorem Loc.operM {E:Env} {ev:Ev} (hev:LocEv ev) (r:Option Nat) (ops:List Oper) (o:Oper) (a:AAct):Loc (operM E ev r ops o a):=
 Loc.bind (Loc.wantedA _ _) fun _=>Loc.cond (Loc.bind (Loc.runC hev _ _) fun _=>Loc.doneA _ _ _ _) (Loc.putA _ _ _)
theorem Loc.opsM {E:Env} {ev:Ev} (hev:LocEv ev) (r:Option Nat) (ops:List Oper):∀(l:List Oper) (a:AAct),Loc (opsM E ev r ops l a)
 |[],_=>Loc.pure _
 |_::l,_=>Loc.bind (Loc.operM hev _ _ _ _) fun _=>Loc.opsM hev r ops l _
theorem Loc.drawM {E:Env} {ev:Ev} (hev:LocEv ev) (r:Option Nat) (ops:List Oper):∀(l:List Oper) (bs:List Nat) (k:Nat) (fp:FP) (a:AAct),Loc (drawM E ev r ops l bs k fp a)
 |[],_,_,_,_=>by unfold Go.Proofs.YtnkjkgmohmcobaaGreatDoor.Vm.drawM;exact Loc.pure _
 |_::_,[],_,_,_=>by unfold Go.Proofs.YtnkjkgmohmcobaaGreatDoor.Vm.drawM;exact Loc.fail _
 |_::l,_::bs,k,fp,a=>by
  unfold Go.Proofs.YtnkjkgmohmcobaaGreatDoor.Vm.drawM
  exact Loc.bind (Loc.touched (Loc.operM hev _ _ _ _)) fun _=>Loc.cond (Loc.drawM hev r ops l bs _ _ _) (Loc.fail _)
theorem Loc.markM (r:Option Nat):Loc (markM r):=by
 unfold Go.Proofs.YtnkjkgmohmcobaaGreatDoor.Vm.markM
 cases r with
 |none=>exact Loc.bind (Loc.newM _) fun _=>Loc.pure _
 |some l=>exact Loc.bind (Loc.loopM l) fun r=>by cases r;exact Loc.pure _
theorem Loc.overM (l:Nat):Loc (overM l):=Loc.bind (Loc.loopM l) fun r=>by
 cases r
 exact Loc.cond (Loc.fail _) (Loc.bind (Loc.setM _ _) fun _=>Loc.of _ _)
theorem Loc.rangeC {ev:Ev} (hev:LocEv ev) (f:Opd) (ps:List Tmp) (az bd:Code) (r:Option Nat) (a:AAct):Loc (rangeC f ps az bd ev r a):=by
 unfold Go.Proofs.YtnkjkgmohmcobaaGreatDoor.Vm.rangeC
 cases a
 exact Loc.bind (Loc.markM r) fun _=>Loc.bind (Loc.newM _) fun _=>Loc.bind (Loc.rd _ _) fun _=>Loc.bind (Loc.of _ _) fun _=>Loc.bind (hev.call _ _) fun _=>Loc.bind (Loc.overM _) fun _=>Loc.pure _
theorem Loc.loopN {x:Ev→Option Nat→AAct→M (AExit × AAct)} {ev:Ev} {r:Option Nat} (hx:∀a,Loc (x ev r a)):∀(n:Nat) (a:AAct),Loc (loopN x ev r n a)
 |0,_=>Loc.fail _
 |n+1,a=>Loc.bind (hx a) fun _=>Loc.cond (Loc.loopN hx n _) (Loc.pure _)
theorem Loc.codeC {E:Env} {ev:Ev} (hev:LocEv ev) (c:Code):∀(r:Option Nat) (a:AAct),Loc (codeC E c ev r a):=by
 induction c with
 |region id ops draw=>
  intro r a
  cases draw with
  |true=>exact Loc.cond (Loc.bind (Loc.drawM hev _ _ _ _ _ _ _) fun _=>Loc.pure _) (Loc.fail _)
  |false=>exact Loc.bind (Loc.opsM hev _ _ _ _) fun _=>Loc.pure _
 |seq x y hx hy=>exact fun r a=>Loc.bind (hx r a) fun q=>Loc.cond (hy r q.2) (Loc.pure _)
 |cond c x y hx hy=>exact fun r a=>Loc.bind (Loc.rd _ _) fun _=>Loc.bind (Loc.of _ _) fun _=>Loc.cond (hx r a) (hy r a)
 |block id x hx=>exact fun r a=>Loc.bind (hx r a) fun _=>Loc.pure _
 |loop x hx=>exact fun r a=>Loc.loopN (fun a=>hx r a) _ a
 |scope x hx=>exact fun r a=>hx r a
 |rangeFunc f ps az bd _ _=>exact fun r a=>Loc.rangeC hev _ _ _ _ r a
 |exit id=>exact fun r a=>Loc.pure _
 |ret=>exact fun r a=>Loc.pure _
 |skip=>exact fun r a=>Loc.pure _
 |label l=>exact fun r a=>Loc.pure _
 |goto l=>exact fun r a=>Loc.fail _
 |refuse w=>exact fun r a=>Loc.fail _
theorem Loc.leaveM {E:Env} {ev:Ev} (hev:LocEv ev):∀l:List ADef,Loc (leaveM E ev l)
 |[]=>Loc.pure _
 |d::ds=>by
  unfold Go.Proofs.YtnkjkgmohmcobaaGreatDoor.Vm.leaveM
  cases d with
  |mark r=>
   refine Loc.bind (Loc.defsM r) fun q=>?_
   cases q with
   |nil=>exact Loc.bind (Loc.setM _ _) fun _=>Loc.leaveM hev ds
   |cons _ _=>exact Loc.fail _
  |fn g args cap=>exact Loc.cond (Loc.leaveM hev ds) (Loc.bind (hev.callD _ _) fun _=>Loc.leaveM hev ds)
theorem Loc.resM (E:Env) (T:Tr AV):∀l,Loc (resM E T l)
 |[]=>Loc.pure _
 |x::r=>by
  unfold Go.Proofs.YtnkjkgmohmcobaaGreatDoor.Vm.resM
  cases x with
  |tmp t=>exact Loc.bind (Loc.resM E T r) fun _=>Loc.pure _
  |cell p t=>exact Loc.withTy fun i=>Loc.bind (Loc.loadM _ _) fun _=>Loc.bind (Loc.resM E T r) fun _=>Loc.pure _
theorem Loc.bodyC {ev:Ev} {fn:Func} {c:CodeC} (hc:∀a,Loc (c ev none a)) (args:List AV):Loc (bodyC fn c ev args):=by
 refine Loc.cond (Loc.bind (hc _) fun q=>Loc.cond (Loc.fail _) ?_) (Loc.fail _)
 obtain ⟨_,a⟩:=q
 cases a
 exact Loc.pure _
theorem Loc.entC {E:Env} {ev:Ev} (hev:LocEv ev) {fn:Func} {c:CodeC} (hc:∀a,Loc (c ev none a)) (args:List AV):Loc (entC E fn c ev args):=
 Loc.bind (Loc.bodyC hc args) fun _=>Loc.bind (Loc.leaveM hev _) fun _=>Loc.bind (Loc.resM _ _ _) fun _=>Loc.pure _
theorem Loc.entD {E:Env} {ev:Ev} {fn:Func} {c:CodeC} (hc:∀a,Loc (c ev none a)) (args:List AV):Loc (entD E fn c ev args):=by
 refine Loc.bind (Loc.bodyC hc args) fun q=>?_
 obtain ⟨T,ds⟩:=q
 cases ds with
 |nil=>exact Loc.bind (Loc.resM _ _ _) fun _=>Loc.pure _
 |cons _ _=>exact Loc.fail _
def OrcLoc (E:Env):Prop:=∀f o,E.orc.get f=some o→∀args,Loc (o args)
theorem Loc.fnC {E:Env} (hO:OrcLoc E) {ev:Ev} (hev:LocEv ev) (f:FuncId) (args:List AV):Loc (fnC E f ev args):=by
 unfold Go.Proofs.YtnkjkgmohmcobaaGreatDoor.Vm.fnC
 cases ho:E.orc.get f with
 |some o=>exact hO f o ho args
 |none=>
  cases E.fn.get f with
  |none=>exact Loc.fail _
  |some fn=>
   simp only
   cases fn.body with
   |none=>exact Loc.fail _
   |some c=>exact Loc.entC hev (fun a=>Loc.codeC hev c none a) args
theorem Loc.fnD {E:Env} {ev:Ev} (hev:LocEv ev) (f:FuncId) (args:List AV):Loc (fnD E f ev args):=by
 unfold Go.Proofs.YtnkjkgmohmcobaaGreatDoor.Vm.fnD
 cases E.fn.get f with
 |none=>exact Loc.fail _
 |some fn=>
  simp only
  cases fn.body with
  |none=>exact Loc.fail _
  |some c=>exact Loc.entD (fun a=>Loc.codeC hev c none a) args
theorem locEv {E:Env} (hO:OrcLoc E):∀n,LocEv (evN E n)
 |0=>⟨fun _ _=>Loc.fail _,fun _ _=>Loc.fail _,fun _ _ _=>Loc.fail _⟩
 |n+1=>⟨fun f args=>Loc.fnC hO (locEv hO n) f args,fun f args=>Loc.fnD (locEv hO n) f args,fun r c a=>Loc.codeC (locEv hO n) c r a⟩
end
end Go.Proofs.YtnkjkgmohmcobaaGreatDoor.Vm
namespace Go.Proofs.YtnkjkgmohmcobaaGreatDoor.Vm
open Go
def Quiet (w w':World):Prop:=w'.heap=w.heap∧w'.os=w.os∧w'.tape=w.tape∧w'.output=w.output
structure ActR (ρ:Ren) (a:AAct) (act:Act):Prop where
 t:TRel ρ a.t a.n act.tmps
 d:DRel ρ a.d act.defers
def FOf (ρ:Ren) (rnd:Option Nat) (F:Fence):Prop:=
 match rnd with
 |none=>F=Fence.wide
 |some l=>∃p,ρ l=some p∧F=Fence.wide.inRound p.1
def Ret (s s':St) (ρ:Ren) (w:World) (v:AV) (e:Ending) (w':World):Prop:=∃ρ' u,e= .returned u∧VRel ρ' v u∧WRel ρ' s'.h w'∧Stp s s' ρ ρ' w w'
inductive ExR:AExit→Exit→Prop
 |normal:ExR .normal .normal
 |exit (i:Nat):ExR (.exit i) (.exit i)
 |ret:ExR .ret .ret
def Left (s s':St) (ρ:Ren) (w:World) (q:AExit × AAct) (e:Exit) (act':Act) (w':World):Prop:=∃ρ',ExR q.1 e∧ActR ρ' q.2 act'∧WRel ρ' s'.h w'∧Stp s s' ρ ρ' w w'
def CodeOK (P:Program) (rnd:Option Nat) (c:Code) (a:AAct) (s:St) (q:AExit × AAct) (s':St):Prop:=
 ∀(ρ:Ren) (w:World) (act:Act) (F:Fence) (n:Nat),FOf ρ rnd F→WRel ρ s.h w→FreshN ρ s.c s'.c→ActR ρ a act→c.wpIn F n P (Left s s' ρ w q) act w
def Enters (P:Program) (f:FuncId):Prop:=∀(args:Array Value) (w:World),(callFunc f args).run P w= .ok (.enter f args) w
def CallOK (P:Program) (f:FuncId) (args:List AV) (s:St) (v:AV) (s':St):Prop:=
 ∀(ρ:Ren) (w:World) (us:Array Value) (n:Nat),WRel ρ s.h w→FreshN ρ s.c s'.c→LRel ρ args us.toList→CallsIn Fence.wide n P f us w (Ret s s' ρ w v)
def CallDOK (P:Program) (f:FuncId) (args:List AV) (s:St) (v:AV) (s':St):Prop:=
 ∀(ρ:Ren) (w:World) (us:Array Value) (n:Nat),WRel ρ s.h w→FreshN ρ s.c s'.c→LRel ρ args us.toList→CallsDIn Fence.wide n P f us .returning w (fun e u' w'=>u'= .returning∧Ret s s' ρ w v e w')
structure EvOK (P:Program) (ev:Ev):Prop where
 call:∀f args s v s',ev.call f args s= .ok v s'→Enters P f∧CallOK P f args s v s'
 callD:∀f args s v s',ev.callD f args s= .ok v s'→Enters P f∧CallDOK P f args s v s'
 code:∀rnd c a s q s',ev.code rnd c a s= .ok q s'→CodeOK P rnd c a s q s'
structure EnvAll (E:Env) (P:Program):Prop extends EnvOK E P where
 meth:∀t m g,findMeth E.meth t m=some g→∀(v:Value) (w:World),(method (P.types.size+Made.depth) t v m).run P w= .ok (g,v) w
 calm:∀g,isCalm g E.calm=true→Enters P g∧∀(args:Array Value) (w:World) (n:Nat),CallsDIn Fence.wide n P g args .returning w (fun e u' w'=>(∃v,e= .returned v)∧u'= .returning∧Quiet w w')
 orc:∀f o,E.orc.get f=some o→Enters P f∧∀args s v s',o args s= .ok v s'→CallOK P f args s v s'
 orcLoc:OrcLoc E
section
variable {P:Program} {s s' s1:St} {ρ ρ':Ren} {w w':World} {F:Fence} {n:Nat}
theorem FOf.wide {rnd:Option Nat} (h:FOf ρ rnd F) {f:FuncId} {args:Array Value} {R:Ending→World→Prop} {m:Nat} (hc:CallsIn Fence.wide m P f args w R):CallsIn F m P f args w R:=by
 unfold FOf at h
 cases rnd with
 |none=>rw [h];exact hc
 |some l=>obtain ⟨p,_,rfl⟩:=h;exact hc
theorem FOf.fn {rnd:Option Nat} (h:FOf ρ rnd F) (f:FuncId):F.fn f:=by
 unfold FOf at h
 cases rnd with
 |none=>rw [h];trivial
 |some l=>obtain ⟨p,_,rfl⟩:=h;trivial
theorem FOf.depth {rnd:Option Nat} (h:FOf ρ rnd F):F.depth.isSome=true→1≤n:=by
 unfold FOf at h
 cases rnd with
 |none=>rw [h];exact fun e=>by cases e
 |some l=>obtain ⟨p,_,rfl⟩:=h;exact fun e=>by cases e
theorem FOf.mono (hl:ρ.le ρ') {rnd:Option Nat} (h:FOf ρ rnd F):FOf ρ' rnd F:=by
 unfold FOf at h ⊢
 cases rnd with
 |none=>exact h
 |some l=>obtain ⟨p,h1,h2⟩:=h;exact ⟨p,hl _ _ h1,h2⟩
theorem FOf.wideRound {rnd:Option Nat} (h:FOf ρ rnd F) {l:Nat} {f:FuncId} {tmps:Array Value} {az bd:Code} {R:Ending→World→Prop} {m:Nat} (hc:RoundIn Fence.wide m P l f tmps az bd w R):RoundIn F m P l f tmps az bd w R:=by
 unfold FOf at h
 cases rnd with
 |none=>rw [h];exact hc
 |some l=>obtain ⟨p,_,rfl⟩:=h;exact hc
theorem ActR.mono (hl:ρ.le ρ') {a:AAct} {act:Act} (h:ActR ρ a act):ActR ρ' a act:=⟨h.t.mono hl,h.d.mono hl⟩
theorem undef_rel:VRel ρ undefA undef:=⟨#[],rfl,by simp [LRel]⟩
theorem slotA_put (T:Tr AV) (d k:Nat) (v:AV):slotA (T.put d (some v)) k=if k=d then v else slotA T k:=by
 unfold slotA
 rw [Tr.get_put]
 by_cases h:k=d
 ·rw [if_pos h,if_pos h]
 ·rw [if_neg h,if_neg h]
theorem getD_set (xs:Array Value) (d k:Nat) (u:Value) (h:d<xs.size):(xs.setIfInBounds d u).getD k undef=if k=d then u else xs.getD k undef:=by
 rw [Array.getD_eq_getD_getElem?,Array.getD_eq_getD_getElem?,Array.getElem?_setIfInBounds]
 by_cases e:k=d
 ·subst e
  rw [if_pos rfl,if_pos rfl,if_pos h]
  rfl
 ·rw [if_neg (fun e'=>e e'.symm),if_neg e]
theorem TRel.put {T:Tr AV} {m:Nat} {tmps:Array Value} {d:Nat} {v:AV} {u:Value} (h:TRel ρ T m tmps) (hd:d<m) (hv:VRel ρ v u):TRel ρ (T.put d (some v)) m (tmps.setIfInBounds d u):=by
 refine ⟨by rw [Array.size_setIfInBounds];exact h.1,fun k=>?_⟩
 rw [slotA_put,getD_set _ _ _ _ (by rw [h.1];exact hd)]
 split
 ·exact hv
 ·exact h.2 k
theorem putA_rel {a a':AAct} {act:Act} {dst:Option Tmp} {v:AV} {u:Value} (h:putA a dst v s= .ok a' s') (ha:ActR ρ a act) (hv:VRel ρ v u):s'=s∧ActR ρ a' (act.put dst u):=by
 unfold putA at h
 cases dst with
 |none=>
  obtain ⟨rfl,rfl⟩:=M.pure_ok.1 h
  exact ⟨rfl,ha⟩
 |some d=>
  obtain ⟨T,m,ds⟩:=a
  simp only at h
  cases hb:Nat.blt d m with
  |false=>rw [bif_false _ _ hb] at h;exact (M.fail_ok.1 h).elim
  |true=>
   rw [bif_true _ _ hb] at h
   obtain ⟨rfl,rfl⟩:=M.pure_ok.1 h
   exact ⟨rfl,ha.t.put (blt_true.1 hb) hv,ha.d⟩
theorem wanted_rel {ops:Array Oper} {o:Oper} {T:Tr AV} {m:Nat} {act:Act} {b:Bool} (h:wantedA (guardC ops.toList o) T s= .ok b s') (hT:TRel ρ T m act.tmps):s'=s∧Region.wanted o (yielded ops act.tmps)=b:=by
 unfold guardC at h
 unfold Region.wanted
 cases hg:o.guard with
 |none=>
  rw [hg] at h
  obtain ⟨rfl,rfl⟩:=M.pure_ok.1 h
  exact ⟨rfl,rfl⟩
 |some g=>
  rw [hg] at h
  simp only [Array.getElem?_toList] at h
  cases hp:ops[g.1]? with
  |none=>simp only [hp] at h;exact ((M.fail_ok (e:= "guard") (s:=s)).1 h).elim
  |some p=>
   rw [hp] at h
   simp only at h
   cases hd:p.dst with
   |none=>simp only [hd] at h;exact ((M.fail_ok (e:= "guard") (s:=s)).1 h).elim
   |some d=>
    rw [hd] at h
    obtain ⟨x,s1,h1,h2⟩:=M.bind_ok.1 h
    obtain ⟨hx,rfl⟩:=M.of_ok.1 h1
    obtain ⟨rfl,rfl⟩:=M.pure_ok.1 h2
    refine ⟨rfl,?_⟩
    have hv:=hT.2 d
    unfold wantO at hx
    split at hx
    ·rename_i x0 hsl
     rw [hsl] at hv
     have hv:act.tmps.getD d undef= .bool x0:=hv
     have hget:act.tmps[d]?=some (.bool x0):=by
      rw [Array.getD_eq_getD_getElem?] at hv
      cases ht:act.tmps[d]? with
      |none=>rw [ht] at hv;cases hv
      |some y=>rw [ht] at hv;rw [show y=Value.bool x0 from hv]
     injection hx with hx
     subst hx
     obtain ⟨gj,gw⟩:=g
     simp only at hp ⊢
     simp only [yielded,hp,Option.bind_some,hd,hget]
     cases x0<;>cases gw<;>rfl
    ·rename_i l hsl
     rw [hsl] at hv
     split at hx
     ·injection hx with hx
      subst hx
      obtain ⟨xs,hv,hl⟩:=hv
      obtain rfl:xs= #[]:=Array.ext' (LRel.nil_iff.1 hl)
      obtain ⟨gj,gw⟩:=g
      simp only at hp ⊢
      rw [Array.getD_eq_getD_getElem?] at hv
      cases ht:act.tmps[d]? with
      |none=>
       simp only [yielded,hp,Option.bind_some,hd,ht]
       rfl
      |some y=>
       rw [ht] at hv
       obtain rfl:y= .tuple #[]:=hv
       simp only [yielded,hp,Option.bind_some,hd,ht]
       rfl
     ·cases hx
    ·cases hx
theorem defer_only {E:Env} {c:Call} {f:Tr AV→M ANext} {T:Tr AV} {x:ANext} (ho:opC E (.defer c)= .simp f) (h:f T s= .ok x s'):∃d,x= .defer d:=by
 simp only [opC] at ho
 obtain ⟨callee,args,argTypes⟩:=c
 unfold deferC at ho
 cases callee with
 |value y=>
  obtain rfl:=(OpC.inj ho).symm
  obtain ⟨_,_,_,h⟩:=M.bind_ok.1 h
  obtain ⟨_,_,_,h⟩:=M.bind_ok.1 h
  obtain ⟨q,_,_,h⟩:=M.bind_ok.1 h
  exact ⟨_,(M.pure_ok.1 h).1⟩
 |builtin b=>
  obtain rfl:=(OpC.inj ho).symm
  exact (M.fail_ok.1 h).elim
 |invoke y m=>
  obtain rfl:=(OpC.inj ho).symm
  exact (M.fail_ok.1 h).elim
theorem call_form {E:Env} {o:Op} {x:Opd} {args:List Opd} (ho:opC E o= .call x args):∃y az ts,o= .call {callee:= .value y,args:=az,argTypes:=ts} ∧x=opd y∧args=opds az.toList:=by
 cases o<;>simp only [opC] at ho
 all_goals first
  |(cases ho;done)
  |skip
 case makeFunc fn y z=>unfold funC at ho;cases fn<;>cases ho
 case makeMap ty r=>unfold mapC at ho;cases r<;>cases ho
 case next y b=>unfold nextC at ho;cases b<;>cases ho
 case call c=>
  obtain ⟨callee,az,ts⟩:=c
  unfold callC at ho
  cases callee with
  |builtin b=>cases ho
  |value y=>
   simp only [OpC.call.injEq] at ho
   exact ⟨y,az,ts,rfl,ho.1.symm,ho.2.symm⟩
  |invoke y m=>cases ho
 case defer c=>
  obtain ⟨callee,az,ts⟩:=c
  unfold deferC at ho
  cases callee<;>cases ho
theorem meth_form {E:Env} {o:Op} {x:Opd} {m:String} {args:List Opd} (ho:opC E o= .meth x m args):∃y az ts,o= .call {callee:= .invoke y m,args:=az,argTypes:=ts} ∧x=opd y∧args=opds az.toList:=by
 cases o<;>simp only [opC] at ho
 all_goals first
  |(cases ho;done)
  |skip
 case makeFunc fn y z=>unfold funC at ho;cases fn<;>cases ho
 case makeMap ty r=>unfold mapC at ho;cases r<;>cases ho
 case next y b=>unfold nextC at ho;cases b<;>cases ho
 case call c=>
  obtain ⟨callee,az,ts⟩:=c
  unfold callC at ho
  cases callee with
  |builtin b=>cases ho
  |value y=>cases ho
  |invoke y m'=>
   simp only [OpC.meth.injEq] at ho
   obtain ⟨h1,rfl,h3⟩:=ho
   exact ⟨y,az,ts,rfl,h1.symm,h3.symm⟩
 case defer c=>
  obtain ⟨callee,az,ts⟩:=c
  unfold deferC at ho
  cases callee<;>cases ho
end
end Go.Proofs.YtnkjkgmohmcobaaGreatDoor.Vm
namespace Go.Proofs.YtnkjkgmohmcobaaGreatDoor.Vm
open Go
section
variable {P:Program} {s s' s0 s1 s2:St} {ρ ρ' ρ0:Ren} {w w' w0:World} {F:Fence} {n:Nat}
theorem Left.pre {q:AExit × AAct} {e:Exit} {act:Act} (h0:Stp s0 s ρ0 ρ w0 w) (h1:s0.c≤s.c) (h2:s.c≤s'.c) (h:Left s s' ρ w q e act w'):Left s0 s' ρ0 w0 q e act w':=by
 obtain ⟨ρ',g1,g2,g3,g4⟩:=h
 exact ⟨ρ',g1,g2,g3,Stp.trans h0 g4 h1 h2⟩
theorem Loc.le {α:Type} {m:M α} (hm:Loc m) {a:α} (h:m s= .ok a s'):s.c≤s'.c:=by
 obtain ⟨_,_,_,_⟩:=s
 obtain ⟨_,_,_,_⟩:=s'
 exact (hm _ _ _ _ _ _ _ _ _ h).grow
theorem loopO_some {o:AObj} {r:LoopR} (h:loopO o=some r):o=(match r with| .mk st pe t n ps az bd dn=> .loop st pe t n ps az bd dn):=by
 cases o<;>simp only [loopO,Option.some.injEq,reduceCtorEq] at h
 subst h
 rfl
theorem loopM_ok {l:Nat} {st:LoopState} {pe:Option Code} {t:Tr AV} {m:Nat} {ps:List Tmp} {az bd:Code} {dn:Nat} (h:loopM l s= .ok (.mk st pe t m ps az bd dn) s'):
  s.h.get l=some (.loop st pe t m ps az bd dn)∧Alike s s':=by
 obtain ⟨o,s1,h1,h2⟩:=M.bind_ok.1 h
 obtain ⟨g1,g2⟩:=getM_alike h1
 obtain ⟨h3,rfl⟩:=M.of_ok.1 h2
 rw [loopO_some h3] at g1
 exact ⟨g1,g2⟩
theorem WRel.loop {l:Nat} {st:LoopState} {pe:Option Code} {t:Tr AV} {m:Nat} {ps:List Tmp} {az bd:Code} {dn:Nat} {p:Nat × Nat × Nat} (hw:WRel ρ s.h w) (h:s.h.get l=some (.loop st pe t m ps az bd dn)) (hp:ρ l=some p):
  ∃r,w.heap[p.1]?=some (.loop r)∧LoopOk ρ st pe t m ps az bd dn r∧(Instr.getLoop p.1).run P w= .ok r w:=by
 obtain ⟨q,ob,h1,h2,r,rfl,h4⟩:=hw.at_ l _ h
 rw [hp] at h1
 injection h1 with h1
 subst h1
 exact ⟨r,h2,h4,by simp [Instr.getLoop,getObj,Sem.run,h2]⟩
theorem loopset_rel {l:Nat} {st st2:LoopState} {pe pe2:Option Code} {t t2:Tr AV} {m m2:Nat} {ps ps2:List Tmp} {az bd as2 bd2:Code} {dn dn2:Nat} {p:Nat × Nat × Nat} {r r0:Loop} (hw:WRel ρ s.h w) (hn:s.h.get l=some (.loop st pe t m ps az bd dn)) (hp:ρ l=some p) (hb:w.heap[p.1]?=some (.loop r0))
  (hr:LoopOk ρ st2 pe2 t2 m2 ps2 as2 bd2 dn2 r) (h:setM l (some (.loop st2 pe2 t2 m2 ps2 as2 bd2 dn2)) s= .ok () s'):
  (setObj p.1 (.loop r)).run P w= .ok () {w with heap:=w.heap.setIfInBounds p.1 (.loop r)} ∧WRel ρ s'.h {w with heap:=w.heap.setIfInBounds p.1 (.loop r)} ∧Stp s s' ρ ρ w {w with heap:=w.heap.setIfInBounds p.1 (.loop r)} ∧s'.c=s.c:=by
 obtain ⟨_,hs'⟩:=setM_ok.1 h
 have hlt:=(Array.getElem?_eq_some_iff.1 hb).1
 have hon:Only p.1 w {w with heap:=w.heap.setIfInBounds p.1 (.loop r)} :=⟨rfl,rfl,rfl,by simp,fun q hq=>by simp [Ne.symm hq]⟩
 have:=set_rel (s':=s') (o:= .loop st2 pe2 t2 m2 ps2 as2 bd2 dn2) hw (by rw [hn];rfl) hp (by rw [hs'];rfl) hon (ob:= .loop r) (by simp [hlt]) ⟨r,rfl,hr⟩
 exact ⟨by simp [setObj,Sem.run,hb],this.1,this.2,by rw [hs'];rfl⟩
theorem allBelow_iff {m:Nat} :∀{l:List Tmp},allBelow m l=true→∀p∈l,p<m
 |[],_,_,h=>by cases h
 |q::r,h,p,hp=>by
  unfold allBelow at h
  rw [Bool.and_eq_true] at h
  rcases List.mem_cons.1 hp with e|e
  ·rw [e];exact blt_true.1 h.1
  ·exact allBelow_iff h.2 p e
theorem putAll_rel {m:Nat} :∀{ps:List Tmp} {vs:List AV} {us:List Value} {t:Tr AV} {tmps:Array Value},TRel ρ t m tmps→(∀p∈ps,p<m)→LRel ρ vs us→
  TRel ρ (putAll t ps vs) m ((ps.zip us).foldl (fun tmps x=>tmps.setIfInBounds x.1 x.2) tmps)
 |[],vs,us,t,tmps,h,_,_=>by
  unfold putAll
  exact h
 |p::ps,[],us,t,tmps,h,_,hr=>by
  rw [LRel.nil_iff.1 hr]
  unfold putAll
  exact h
 |p::ps,v::vs,us,t,tmps,h,hb,hr=>by
  obtain ⟨u,us',rfl,h2,h3⟩:=LRel.cons_iff.1 hr
  unfold putAll
  rw [List.zip_cons_cons,List.foldl_cons]
  exact putAll_rel (h.put (hb p List.mem_cons_self) h2) (fun q hq=>hb q (List.mem_cons_of_mem _ hq)) h3
theorem isNormal_iff {e:AExit} :isNormal e=true↔e= .normal:=by cases e<;>simp [isNormal]
theorem endRound_run {l:Nat} {r:Loop} {j:Option Code} {w2:World} (h1:(Instr.getLoop l).run P w= .ok r w) (h2:(setObj l (.loop {r with state:=if j.isNone then .ready else .done,pending:=j})).run P w= .ok () w2):(Instr.endRound l j).run P w= .ok (.bool j.isNone) w2:=by
 simp only [Instr.endRound,Sem.run_bind,h1,Result.andThen_ok,h2,Sem.run_pure]
theorem round_ok {ev:Ev} (hev:EvOK P ev) (hl:LocEv ev) {l:Nat} {args:List AV} {us:Array Value} {v:AV} {p:Nat × Nat × Nat} (h:roundM ev l args s= .ok v s') (hp:ρ l=some p) (hw:WRel ρ s.h w) (hf:FreshN ρ s.c s'.c) (hu:LRel ρ args us.toList):
  ∃f tmps az bd,(Instr.yield p.1 us).run P w= .ok (.round p.1 f tmps az bd) w∧∀n,RoundIn Fence.wide n P p.1 f tmps az bd w (Ret s s' ρ w v):=by
 unfold roundM at h
 obtain ⟨rr,s1,h1,h2⟩:=M.bind_ok.1 h
 obtain ⟨st,pe,t,m,ps,az,bd,dn⟩:=rr
 obtain ⟨g1,g2⟩:=loopM_ok h1
 simp only at h2
 cases hb:(Nat.beq args.length ps.length&&allBelow m ps) with
 |false=>rw [bif_false _ _ hb] at h2;exact (M.fail_ok.1 h2).elim
 |true=>
  rw [bif_true _ _ hb] at h2
  rw [Bool.and_eq_true] at hb
  obtain ⟨q,s2,h3,h4⟩:=M.bind_ok.1 h2
  cases hq:isNormal q.1 with
  |false=>rw [bif_false _ _ hq] at h4;exact (M.fail_ok.1 h4).elim
  |true=>
   rw [bif_true _ _ hq] at h4
   have hqn:=isNormal_iff.1 hq
   obtain ⟨_,s3,h5,h6⟩:=M.bind_ok.1 h4
   obtain ⟨q',s4,h7,h8⟩:=M.bind_ok.1 h6
   obtain ⟨r,k1,k2,k3⟩:=hw.loop (P:=P) g1 hp
   obtain ⟨e1,e2,e3,e4,e5,e6,dq,e7,e8⟩:=k2
   have hsz:us.size=r.params.size:=by
    rw [← Array.length_toList, ← Array.length_toList,e4,LRel.length _ hu]
    exact beq_true.1 hb.1
   have hc12:=(hl.code _ _ _).le h3
   have hc23:=(Loc.beginM l).le h5
   have hc34:=(hl.code _ _ _).le h7
   have hc4:=(Loc.endM l q'.1).le h8
   have hc1:s.c=s1.c:=g2.2.symm
   refine ⟨r.fn,(r.params.zip us).foldl (fun tmps x=>tmps.setIfInBounds x.1 x.2) r.tmps,r.assign,r.body,?_,fun n=>?_⟩
   ·simp only [Instr.yield,Sem.run_bind,k3,Result.andThen_ok,hsz,ne_eq,not_true_eq_false,if_false,Sem.run_pure]
   ·rw [e5,e6]
    refine roundIn_of_wpIn trivial ?_
    have hact:ActR ρ (.mk (putAll t ps args) m []) {tmps:=(r.params.zip us).foldl (fun tmps x=>tmps.setIfInBounds x.1 x.2) r.tmps,defers:=[]} :=by
     refine ⟨?_,rfl⟩
     have:=putAll_rel (ρ:=ρ) e3 (allBelow_iff hb.2) hu
     rw [← Array.foldl_toList,Array.toList_zip,e4]
     exact this
    have hf1:FreshN ρ s1.c s2.c:=hf.sub (by omega) (by omega)
    refine wpIn_mono (hev.code _ _ _ _ _ _ h3 ρ w _ (Fence.wide.inRound p.1) n ⟨p,hp,rfl⟩ (hw.alike g2) hf1 hact) ?_
    intro e act1 w1 hleft
    obtain ⟨ρ1,x1,x2,x3,x4⟩:=hleft
    rw [hqn] at x1
    cases x1
    unfold beginM at h5
    obtain ⟨rr,s5,y1,y2⟩:=M.bind_ok.1 h5
    obtain ⟨st1,pe1,t1,m1,ps1,as1,bd1,dn1⟩:=rr
    obtain ⟨y3,y4⟩:=loopM_ok y1
    simp only at y2
    cases hr:isReady st1 with
    |false=>rw [bif_false _ _ hr] at y2;exact (M.fail_ok.1 y2).elim
    |true=>
     rw [bif_true _ _ hr] at y2
     have hst1:st1= .ready:=by cases st1<;>first|rfl|cases hr
     have hp1:=x4.le _ _ hp
     obtain ⟨r1,z1,z2,z3⟩:=x3.loop (P:=P) y3 hp1
     obtain ⟨b1,b2,b3,b4,b5,b6,bq,b7,b8⟩:=z2
     obtain ⟨c1,c2,c3,c4⟩:=loopset_rel (P:=P) (r:= {r1 with state:= .busy}) (x3.alike y4) (by rw [y4.1];exact y3) hp1 z1 ⟨rfl,b2,b3,b4,b5,b6,bq,b7,b8⟩ y2
     have hs5:s5.c=s2.c:=y4.2
     refine ⟨{w1 with heap:=w1.heap.setIfInBounds p.1 (.loop {r1 with state:= .busy})},by rw [hst1] at b1;simp only [Instr.beginRound,Sem.run_bind,z3,Result.andThen_ok,c1,b1,Sem.run_pure],?_⟩
     have st02:Stp s s3 ρ ρ1 w _:=Stp.trans (g2.stp x4) (y4.stp c3) (by omega) (by omega)
     have hf3:FreshN ρ1 s3.c s4.c:=(FreshN.step (hf.sub (Nat.le_refl _) (by omega)) st02 (by omega)).sub (Nat.le_refl _) (Nat.le_refl _)
     refine wpIn_mono (hev.code _ _ _ _ _ _ h7 ρ1 _ _ (Fence.wide.inRound p.1) n ⟨p,hp1,rfl⟩ c2 hf3 x2) ?_
     intro e2 act2 w2 hleft2
     obtain ⟨ρ2,u1,u2,u3,u4⟩:=hleft2
     have st04:Stp s s4 ρ ρ2 w w2:=Stp.trans st02 u4 (by omega) (by omega)
     unfold endM at h8
     obtain ⟨rr,s6,v1,v2⟩:=M.bind_ok.1 h8
     obtain ⟨st2,pe2,t2,m2,ps2,as2,bd2,dn2⟩:=rr
     obtain ⟨v3,v4⟩:=loopM_ok v1
     obtain ⟨_,s7,v5,v6⟩:=M.bind_ok.1 v2
     obtain ⟨rfl,rfl⟩:=M.pure_ok.1 v6
     have hp2:=u4.le _ _ hp1
     obtain ⟨r2,d1,d2,d3⟩:=u3.loop (P:=P) v3 hp2
     obtain ⟨a1,a2,a3,a4,a5,a6,aq,a7,a8⟩:=d2
     have fin:∀j:Option Code,jumpOf q'.1=j→isNormal q'.1=j.isNone→∃v w',(Instr.endRound p.1 j).run P w2= .ok v w'∧Ret s s' ρ w (.bool (isNormal q'.1)) (.returned v) w':=by
      intro j hj hjn
      obtain ⟨f1,f2,f3,f4⟩:=loopset_rel (P:=P) (r:= {r2 with state:=if j.isNone then .ready else .done,pending:=j}) (u3.alike v4) (by rw [v4.1];exact v3) hp2 d1 ⟨by rw [hjn];cases j<;>rfl,hj.symm,a3,a4,a5,a6,aq,a7,a8⟩ v5
      refine ⟨_,_,endRound_run d3 f1,ρ2,.bool j.isNone,rfl,by rw [hjn];rfl,f2,Stp.trans st04 (v4.stp f3) (by omega) (by omega)⟩
     generalize q'.1=qe at*
     cases u1 with
     |normal=>exact fin none rfl rfl
     |exit i=>exact fin (some (.exit i)) rfl rfl
     |ret=>exact fin (some .ret) rfl rfl
end
end Go.Proofs.YtnkjkgmohmcobaaGreatDoor.Vm
namespace Go.Proofs.YtnkjkgmohmcobaaGreatDoor.Vm
open Go
section
variable {P:Program} {s s' s0 s1 s2:St} {ρ ρ' ρ0:Ren} {w w' w0:World} {F:Fence} {n:Nat}
theorem FOf.round_none (h:FOf ρ none F):F.round=none:=by rw [show F=Fence.wide from h];rfl
theorem deferIn_rel {rnd:Option Nat} {d:ADef} {a a':AAct} (h:deferIn rnd d a s= .ok a' s'):rnd=none∧s'=s∧a'.t=a.t∧a'.n=a.n∧a'.d=d::a.d:=by
 unfold deferIn at h
 cases rnd with
 |some l=>exact ((M.fail_ok (s:=s)).1 h).elim
 |none=>
  obtain ⟨t,m,ds⟩:=a
  obtain ⟨rfl,rfl⟩:=M.pure_ok.1 h
  exact ⟨rfl,rfl,rfl,rfl,rfl⟩
theorem findMeth_run {E:Env} (hE:EnvAll E P) {t:TypeId} {m:String} {g:FuncId} (h:findMeth E.meth t m=some g) (v:Value) (us:Array Value) (hg:Enters P g) (w:World):(callMethod (.iface t v) m us).run P w= .ok (.enter g (#[v]++us)) w:=by
 simp only [callMethod,Sem.run_bind,run_program,Result.andThen_ok,hE.meth t m g h v w]
 exact hg _ w
theorem callV_ok {ev:Ev} (hev:EvOK P ev) (hl:LocEv ev) {f v:AV} {args:List AV} {us:Array Value} {fv:Value} (h:callV ev f args s= .ok v s') (hfv:VRel ρ f fv) (hw:WRel ρ s.h w) (hf:FreshN ρ s.c s'.c) (hu:LRel ρ args us.toList):
  (∃g az,(do let d ← Deferred.ofValue fv us;invoke d.target d.args:Sem Next).run P w= .ok (.enter g az) w∧∀n,CallsIn Fence.wide n P g az w (Ret s s' ρ w v))∨
  ∃l f tmps az bd,(do let d ← Deferred.ofValue fv us;invoke d.target d.args:Sem Next).run P w= .ok (.round l f tmps az bd) w∧∀n,RoundIn Fence.wide n P l f tmps az bd w (Ret s s' ρ w v):=by
 unfold callV at h
 obtain ⟨g,s1,h1,h2⟩:=M.bind_ok.1 h
 obtain ⟨h3,rfl⟩:=M.of_ok.1 h1
 cases f<;>simp only [fnA,Option.some.injEq,reduceCtorEq] at h3
 case func g first cap=>
  subst h3
  obtain ⟨x,y,rfl,hx,hy⟩:=hfv
  obtain ⟨e1,e2⟩:=hev.call _ _ _ _ _ h2
  refine .inl ⟨g,(x++us)++y,?_,fun n=>e2 ρ w _ n hw hf ?_⟩
  ·simp only [Deferred.ofValue,Sem.run_bind,Sem.run_pure,Result.andThen_ok,invoke]
   exact e1 _ w
  ·rw [Array.toList_append,Array.toList_append]
   exact LRel.append (LRel.append hx hu) hy
 case yield l=>
  subst h3
  obtain ⟨p,hp,rfl⟩:=hfv
  obtain ⟨f,tmps,az,bd,g1,g2⟩:=round_ok hev hl h2 hp hw hf hu
  refine .inr ⟨p.1,f,tmps,az,bd,?_,g2⟩
  simp only [Deferred.ofValue,Sem.run_bind,Sem.run_pure,Result.andThen_ok,invoke]
  rw [show (#[]++us:Array Value)=us by simp]
  exact g1
theorem oper_ok {E:Env} (hE:EnvAll E P) {ev:Ev} (hev:EvOK P ev) (hl:LocEv ev) {rnd:Option Nat} {ops:Array Oper} {i:Nat} {o:Oper} {a a':AAct} {act:Act} (hi:ops[i]?=some o) (h:operM E ev rnd ops.toList o a s= .ok a' s')
  (hF:FOf ρ rnd F) (hw:WRel ρ s.h w) (hf:FreshN ρ s.c s'.c) (ha:ActR ρ a act) {K:Act→World→Prop} {Q:Exit→Act→World→Prop} (hK:∀ρ' act' w',ActR ρ' a' act'→WRel ρ' s'.h w'→Stp s s' ρ ρ' w w'→K act' w'):
  wpOpIn F n P ops Q i K act w:=by
 unfold wpOpIn
 simp only [hi]
 unfold operM at h
 obtain ⟨wt,s1,h1,h2⟩:=M.bind_ok.1 h
 obtain ⟨rfl,hwt⟩:=wanted_rel h1 ha.t
 rw [hwt]
 cases wt with
 |false=>
  rw [bif_false _ _ rfl] at h2
  rw [if_neg (by simp)]
  obtain ⟨rfl,g⟩:=putA_rel h2 ha undef_rel
  exact ⟨fun f _=>hF.fn f,hK ρ _ w g hw (Stp.alike (Alike.refl _))⟩
 |true=>
  rw [bif_true _ _ rfl] at h2
  rw [if_pos rfl]
  obtain ⟨x,s2,h3,h4⟩:=M.bind_ok.1 h2
  have hc2:=(Loc.doneA rnd o.dst a x).le h4
  have hf2:FreshN ρ s1.c s2.c:=hf.sub (Nat.le_refl _) hc2
  refine ⟨fun f _=>hF.fn f,?_⟩
  have fin:∀{v:AV} {u:Value} {ρ2:Ren} {w2:World},x= .value v→VRel ρ2 v u→WRel ρ2 s2.h w2→Stp s1 s2 ρ ρ2 w w2→K (act.put o.dst u) w2:=by
   intro v u ρ2 w2 hx hv hw2 hs2
   subst hx
   obtain ⟨rfl,g⟩:=putA_rel h4 (ha.mono hs2.le) hv
   exact hK ρ2 _ w2 g hw2 hs2
  cases hoc:opC E o.op with
  |simp f=>
   rw [hoc] at h3
   obtain ⟨ρ2,w2,r,g1,g2,g3,g4⟩:=op_does hE.toEnvOK hoc h3 ha.t hw hf2
   have hsem:(∀d,x≠ .defer d)∨rnd=none→o.semAt F.round act.eval=execOp act.eval o:=by
    rintro (hx|hr)
    ·refine Oper.semAt_eq _ _ _ (fun c hc=>?_)
     rw [hc] at hoc
     obtain ⟨d,hd⟩:=defer_only hoc h3
     exact hx d hd
    ·subst hr
     rw [hF.round_none]
     rfl
   cases x with
   |value v=>
    obtain ⟨u,rfl,hv⟩:=g2
    rw [hsem (.inl (by simp)),g1,Oper.uponIn_value]
    exact fin rfl hv g3 g4
   |skip=>
    obtain rfl:r= .skip:=g2
    rw [hsem (.inl (by simp)),g1,Oper.uponIn_skip]
    obtain ⟨rfl,g⟩:=putA_rel h4 (ha.mono g4.le) undef_rel
    exact hK ρ2 _ w2 g g3 g4
   |defer d=>
    obtain ⟨q,rfl,hq⟩:=g2
    obtain ⟨a2,s3,h5,h6⟩:=M.bind_ok.1 h4
    obtain ⟨hr,rfl,e1,e2,e3⟩:=deferIn_rel h5
    rw [hsem (.inr hr),g1,Oper.uponIn_defer]
    have ha2:ActR ρ2 a2 {act with defers:=q::act.defers} :=⟨by rw [e1,e2];exact (ha.mono g4.le).t,by rw [e3];exact ⟨q,_,rfl,hq,(ha.mono g4.le).d⟩⟩
    obtain ⟨rfl,g⟩:=putA_rel h6 ha2 undef_rel
    exact hK ρ2 _ w2 g g3 g4
  |call y args=>
   rw [hoc] at h3
   obtain ⟨oy,az,ts,ho,rfl,rfl⟩:=call_form hoc
   obtain ⟨vs,s3,h5,h6⟩:=M.bind_ok.1 h3
   obtain ⟨rfl,r1⟩:=rds_rel ha.t h5
   obtain ⟨fv,s4,h7,h8⟩:=M.bind_ok.1 h6
   obtain ⟨rfl,r2⟩:=rd_rel h7 ha.t
   obtain ⟨v,h9,rfl⟩:=value_ok h8
   have hsem:o.semAt F.round act.eval=execOp act.eval o:=Oper.semAt_eq _ _ _ (fun c hc=>by rw [ho] at hc;cases hc)
   have hrun:(execOp act.eval o).run P w=(do let d ← Deferred.ofValue (act.eval oy) (az.map act.eval);invoke d.target d.args:Sem Next).run P w:=by
    unfold execOp
    rw [ho]
    rfl
   rw [hsem,hrun]
   rcases callV_ok hev hl (us:=az.map act.eval) h9 r2 hw hf2 (by rw [Array.toList_map];exact r1) with ⟨g,xs,e1,e2⟩|⟨l,g,tmps,as',bd,e1,e2⟩
   ·rw [e1,Oper.uponIn_enter]
    refine ⟨hF.depth,CallsIn.mono (hF.wide (e2 _)) ?_⟩
    rintro e w2 ⟨ρ2,u,rfl,hv,hw2,hs2⟩
    exact fin rfl hv hw2 hs2
   ·rw [e1,Oper.uponIn_round]
    refine ⟨hF.depth,RoundIn.mono (hF.wideRound (e2 _)) ?_⟩
    rintro e w2 ⟨ρ2,u,rfl,hv,hw2,hs2⟩
    exact fin rfl hv hw2 hs2
  |meth y m args=>
   rw [hoc] at h3
   obtain ⟨oy,az,ts,ho,rfl,rfl⟩:=meth_form hoc
   obtain ⟨vs,s3,h5,h6⟩:=M.bind_ok.1 h3
   obtain ⟨rfl,r1⟩:=rds_rel ha.t h5
   obtain ⟨fv,s4,h7,h8⟩:=M.bind_ok.1 h6
   obtain ⟨rfl,r2⟩:=rd_rel h7 ha.t
   obtain ⟨q,s5,h9,h10⟩:=M.bind_ok.1 h8
   obtain ⟨hq,rfl⟩:=M.of_ok.1 h9
   obtain ⟨g,s6,h11,h12⟩:=M.bind_ok.1 h10
   obtain ⟨hg,rfl⟩:=M.of_ok.1 h11
   obtain ⟨v,h13,rfl⟩:=value_ok h12
   obtain ⟨e1,e2⟩:=hev.call _ _ _ _ _ h13
   have hsem:o.semAt F.round act.eval=execOp act.eval o:=Oper.semAt_eq _ _ _ (fun c hc=>by rw [ho] at hc;cases hc)
   cases fv<;>simp only [ifaceA,Option.some.injEq,reduceCtorEq] at hq
   rename_i ti vi
   subst hq
   obtain ⟨u,hu,hur⟩:=r2
   have hrun:(execOp act.eval o).run P w= .ok (.enter g (#[u]++az.map act.eval)) w:=by
    unfold execOp
    rw [ho]
    simp only [resolve,Sem.run_bind,Sem.run_pure,Result.andThen_ok,invoke,hu]
    have e3:(#[Value.iface ti u]++az.map act.eval)[0]?=some (Value.iface ti u):=by rw [Array.getElem?_append_left (Nat.zero_lt_one:0<(#[Value.iface ti u]:Array Value).size)];rfl
    have e4:(#[Value.iface ti u]++az.map act.eval).extract 1 (#[Value.iface ti u]++az.map act.eval).size=az.map act.eval:=by
     apply Array.ext'
     simp only [Array.toList_extract,Array.toList_append,Array.size_append,List.extract_eq_take_drop]
     simp [List.take_of_length_le]
    simp only [e3,e4]
    exact findMeth_run hE hg u _ e1 w
   rw [hsem,hrun,Oper.uponIn_enter]
   refine ⟨hF.depth,CallsIn.mono (hF.wide (e2 ρ w _ _ hw hf2 ?_)) ?_⟩
   ·rw [Array.toList_append,Array.toList_map]
    exact LRel.cons_iff.2 ⟨u,_,rfl,hur,r1⟩
   ·rintro e w2 ⟨ρ2,u,rfl,hv,hw2,hs2⟩
    exact fin rfl hv hw2 hs2
end
end Go.Proofs.YtnkjkgmohmcobaaGreatDoor.Vm
namespace Go.Proofs.YtnkjkgmohmcobaaGreatDoor.Vm
open Go
section
variable {s s':St} {T T':Tr AV}
def Sees (T T':Tr AV) (x:Operand):Prop:=∀t,x= .tmp t→slotA T t=slotA T' t
theorem rd_sees {x:Operand} (h:Sees T T' x):rd T (opd x)=rd T' (opd x):=by
 funext s
 cases x with
 |tmp t=>
  show Rs.ok (slotA T t) s=Rs.ok (slotA T' t) s
  rw [h t rfl]
 |const c=>
  simp only [opd]
  cases constA c<;>rfl
 |global g=>rfl
 |func f=>rfl
theorem rds_sees:∀{l:List Operand},(∀x∈l,Sees T T' x)→rds T (opds l)=rds T' (opds l)
 |[],_=>rfl
 |x::r,h=>by
  unfold opds rds
  rw [rd_sees (h x List.mem_cons_self),rds_sees (fun y hy=>h y (List.mem_cons_of_mem _ hy))]
theorem rdsP_sees:∀{l:List (Nat × Operand)},(∀x∈l,Sees T T' x.2)→rdsP T (opdsP l)=rdsP T' (opdsP l)
 |[],_=>rfl
 |x::r,h=>by
  unfold opdsP rdsP
  rw [rd_sees (h x List.mem_cons_self),rdsP_sees (fun y hy=>h y (List.mem_cons_of_mem _ hy))]
theorem rdOpt_sees {x:Option Operand} (h:∀y,x=some y→Sees T T' y):rdOpt T (optO x)=rdOpt T' (optO x):=by
 cases x with
 |none=>rfl
 |some x=>
  simp only [optO,rdOpt]
  rw [rd_sees (h x rfl)]
theorem simp_sees {E:Env} {o:Op} {f:Tr AV→M ANext} (ho:opC E o= .simp f) (h:∀x∈o.operands,Sees T T' x):f T=f T':=by
 cases o<;>simp only [opC] at ho
 case move y=>obtain rfl:=(OpC.inj ho).symm;simp only;rw [rd_sees (h y (by simp [Op.operands]))]
 case assign y=>obtain rfl:=(OpC.inj ho).symm;simp only;rw [rd_sees (h y (by simp [Op.operands]))]
 case pick c y z=>
  obtain rfl:=(OpC.inj ho).symm
  simp only
  have e1:=rd_sees (h y (by simp [Op.operands]))
  have e2:=rd_sees (h z (by simp [Op.operands]))
  have e3:∀t,rd T (bif t then opd y else opd z)=rd T' (bif t then opd y else opd z):=fun t=>by cases t<;>assumption
  rw [rd_sees (h c (by simp [Op.operands]))]
  simp only [e3]
 case alloc e=>obtain rfl:=(OpC.inj ho).symm;rfl
 case box e y=>obtain rfl:=(OpC.inj ho).symm;simp only;rw [rd_sees (h y (by simp [Op.operands]))]
 case build ty ps=>obtain rfl:=(OpC.inj ho).symm;simp only;rw [rdsP_sees (fun x hx=>h x.2 (by simp only [Op.operands,List.mem_toArray,List.mem_map];exact ⟨x,hx,rfl⟩))]
 case buildSlice ty len ps=>obtain rfl:=(OpC.inj ho).symm;simp only;rw [rdsP_sees (fun x hx=>h x.2 (by simp only [Op.operands,List.mem_toArray,List.mem_map];exact ⟨x,hx,rfl⟩))]
 case load ty y=>obtain rfl:=(OpC.inj ho).symm;simp only;rw [rd_sees (h y (by simp [Op.operands]))]
 case store ty y z=>obtain rfl:=(OpC.inj ho).symm;simp only;rw [rd_sees (h y (by simp [Op.operands])),rd_sees (h z (by simp [Op.operands]))]
 case nilCheck y=>obtain rfl:=(OpC.inj ho).symm;simp only;rw [rd_sees (h y (by simp [Op.operands]))]
 case binOp op ty y z ty2=>obtain rfl:=(OpC.inj ho).symm;simp only;rw [rd_sees (h y (by simp [Op.operands])),rd_sees (h z (by simp [Op.operands]))]
 case unOp op ty y=>obtain rfl:=(OpC.inj ho).symm;simp only;rw [rd_sees (h y (by simp [Op.operands]))]
 case convert a b y=>obtain rfl:=(OpC.inj ho).symm;simp only;rw [rd_sees (h y (by simp [Op.operands]))]
 case makeInterface ty y=>obtain rfl:=(OpC.inj ho).symm;simp only;rw [rd_sees (h y (by simp [Op.operands]))]
 case makeFunc fn y z=>
  unfold funC at ho
  cases fn<;>simp only at ho<;>obtain rfl:=(OpC.inj ho).symm<;>first|rfl|skip
  simp only
  rw [rds_sees (fun x hx=>h x (by simp only [Op.operands,Array.mem_append];exact .inl (by simpa using hx))),rds_sees (l:=z.toList) (fun x hx=>h x (by simp only [Op.operands,Array.mem_append];exact .inr (by simpa using hx)))]
 case makeMap ty r=>
  unfold mapC at ho
  cases r with
  |none=>simp only at ho;obtain rfl:=(OpC.inj ho).symm;rfl
  |some r=>simp only at ho;obtain rfl:=(OpC.inj ho).symm;simp only;rw [rd_sees (h r (by simp [Op.operands]))]
 case makeSlice ty y z=>obtain rfl:=(OpC.inj ho).symm;simp only;rw [rd_sees (h y (by simp [Op.operands])),rd_sees (h z (by simp [Op.operands]))]
 case slice ty y lo hi mx=>
  obtain rfl:=(OpC.inj ho).symm
  simp only
  rw [rd_sees (h y (by simp [Op.operands])),rdOpt_sees (x:=lo) (fun q hq=>h q (by simp [Op.operands,hq])),rdOpt_sees (x:=hi) (fun q hq=>h q (by simp [Op.operands,hq])),rdOpt_sees (x:=mx) (fun q hq=>h q (by simp [Op.operands,hq]))]
 case fieldAddr ty y k=>obtain rfl:=(OpC.inj ho).symm;simp only;rw [rd_sees (h y (by simp [Op.operands]))]
 case field ty y k=>obtain rfl:=(OpC.inj ho).symm;simp only;rw [rd_sees (h y (by simp [Op.operands]))]
 case indexAddr ty y z=>obtain rfl:=(OpC.inj ho).symm;simp only;rw [rd_sees (h y (by simp [Op.operands])),rd_sees (h z (by simp [Op.operands]))]
 case index ty y z=>obtain rfl:=(OpC.inj ho).symm;simp only;rw [rd_sees (h y (by simp [Op.operands])),rd_sees (h z (by simp [Op.operands]))]
 case lookup ty y z b=>obtain rfl:=(OpC.inj ho).symm;simp only;rw [rd_sees (h y (by simp [Op.operands])),rd_sees (h z (by simp [Op.operands]))]
 case mapUpdate ty m y z=>obtain rfl:=(OpC.inj ho).symm;simp only;rw [rd_sees (h m (by simp [Op.operands])),rd_sees (h y (by simp [Op.operands])),rd_sees (h z (by simp [Op.operands]))]
 case insert ty m y z=>obtain rfl:=(OpC.inj ho).symm;simp only;rw [rd_sees (h m (by simp [Op.operands])),rd_sees (h y (by simp [Op.operands])),rd_sees (h z (by simp [Op.operands]))]
 case range ty y=>obtain rfl:=(OpC.inj ho).symm;simp only;rw [rd_sees (h y (by simp [Op.operands]))]
 case next y b=>
  unfold nextC at ho
  cases b<;>simp only at ho<;>obtain rfl:=(OpC.inj ho).symm
  ·simp only;rw [rd_sees (h y (by simp [Op.operands]))]
  ·simp only;rw [rd_sees (h y (by simp [Op.operands]))]
 case entry y=>obtain rfl:=(OpC.inj ho).symm;simp only;rw [rd_sees (h y (by simp [Op.operands]))]
 case extract y k=>obtain rfl:=(OpC.inj ho).symm;simp only;rw [rd_sees (h y (by simp [Op.operands]))]
 case call c=>
  obtain ⟨callee,args,argTypes⟩:=c
  unfold callC at ho
  cases callee with
  |builtin b=>
   obtain rfl:=(OpC.inj ho).symm
   simp only
   rw [rds_sees (fun x hx=>h x (by simp only [Op.operands,Call.operands,Array.mem_append];exact .inr (by simpa using hx)))]
  |value y=>cases ho
  |invoke y m=>cases ho
 case defer c=>
  obtain ⟨callee,args,argTypes⟩:=c
  unfold deferC at ho
  cases callee with
  |value y=>
   obtain rfl:=(OpC.inj ho).symm
   simp only
   rw [rds_sees (fun x hx=>h x (by simp only [Op.operands,Call.operands,Array.mem_append];exact .inr (by simpa using hx))),rd_sees (h y (by simp [Op.operands,Call.operands]))]
  |builtin b=>obtain rfl:=(OpC.inj ho).symm;rfl
  |invoke y m=>obtain rfl:=(OpC.inj ho).symm;rfl
 all_goals
  obtain rfl:=(OpC.inj ho).symm
  rfl
theorem runC_sees {E:Env} {ev:Ev} {o:Op} (h:∀x∈o.operands,Sees T T' x):runC E ev T (opC E o)=runC E ev T' (opC E o):=by
 cases hc:opC E o with
 |simp f=>exact simp_sees hc h
 |call x args=>
  obtain ⟨y,az,ts,ho,rfl,rfl⟩:=call_form hc
  subst ho
  simp only [runC]
  rw [rds_sees (fun x hx=>h x (by simp only [Op.operands,Call.operands,Array.mem_append];exact .inr (by simpa using hx))),rd_sees (h y (by simp [Op.operands,Call.operands]))]
 |meth x m args=>
  obtain ⟨y,az,ts,ho,rfl,rfl⟩:=meth_form hc
  subst ho
  simp only [runC]
  rw [rds_sees (fun x hx=>h x (by simp only [Op.operands,Call.operands,Array.mem_append];exact .inr (by simpa using hx))),rd_sees (h y (by simp [Op.operands,Call.operands]))]
theorem not_defer {E:Env} {ev:Ev} {o:Op} {x:ANext} (hd:isDefer o=false) (h:runC E ev T (opC E o) s= .ok x s'):∀d,x≠ .defer d:=by
 intro d e
 subst e
 cases o<;>first|(cases hd;done)|skip
 all_goals simp only [opC] at h
 case makeFunc fn y z=>unfold funC at h;cases fn<;>simp [opFn,opFail,runC,M.bind_ok,M.pure_ok,M.fail_ok] at h
 case makeMap ty r=>unfold mapC at h;cases r<;>simp [opMapNew,opMapNewR,runC,M.bind_ok,M.pure_ok,withTy_ok] at h
 case next y b=>unfold nextC at h;cases b<;>simp [op1,runC,value,M.bind_ok,M.pure_ok] at h
 case call c=>
  obtain ⟨callee,args,argTypes⟩:=c
  unfold callC at h
  cases callee<;>simp [opBuiltin,runC,value,M.bind_ok,M.pure_ok] at h
 all_goals
  simp [op1,opTy1,opTy2,opFail,opAlloc,opBox,opBuild,opBuildSlice,opStore,opPick,opSlice,opUpdate,opExtract,opBin,runC,value,skip,M.bind_ok,M.pure_ok,M.fail_ok,withTy_ok] at h
end
end Go.Proofs.YtnkjkgmohmcobaaGreatDoor.Vm
