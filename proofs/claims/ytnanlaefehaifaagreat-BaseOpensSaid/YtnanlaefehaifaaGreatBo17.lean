/-
  Texts of this claim, joined: VC, VD.
-/
import Derived.Test.YtnanlaefehaifaaGreatBo16
set_option maxHeartbeats 6400000
set_option maxRecDepth 100000
namespace Go.Proofs.YtnanlaefehaifaaGreat.Vm
open Go
inductive ANext where
  | value (v : AV)
  | skip
  | defer (d : ADef)
inductive OpC where
  | simp (f : Tr AV → M ANext)
  | call (x : Opd) (args : List Opd)
  | meth (x : Opd) (m : String) (args : List Opd)
inductive Ev where
  | mk (fuel : Nat) (call callD : FuncId → List AV → M AV) (code : Option Nat → Code → AAct → M (AExit × AAct))
noncomputable def Ev.fuel : Ev → Nat | .mk n _ _ _ => n
noncomputable def Ev.call : Ev → FuncId → List AV → M AV | .mk _ c _ _ => c
noncomputable def Ev.callD : Ev → FuncId → List AV → M AV | .mk _ _ c _ => c
noncomputable def Ev.code : Ev → Option Nat → Code → AAct → M (AExit × AAct) | .mk _ _ _ c => c
noncomputable def failEv : Ev := .mk 0 (fun _ _ => M.fail "fuel") (fun _ _ => M.fail "fuel") (fun _ _ _ => M.fail "fuel")
inductive LoopR where
  | mk (st : LoopState) (pend : Option Code) (t : Tr AV) (n : Nat) (params : List Tmp) (assign body : Code) (dn : Nat)
noncomputable def loopO : AObj → Option LoopR
  | .loop st pe t n ps az bd dn => some (.mk st pe t n ps az bd dn)
  | _ => none
noncomputable def loopM (l : Nat) : M LoopR := M.bind (getM l) fun o => M.of (loopO o) "loop expected"
noncomputable def defsO : AObj → Option (Option (List ADef))
  | .defs d => some d
  | _ => none
noncomputable def defsM (l : Nat) : M (List ADef) := M.bind (getM l) fun o => M.bind (M.of (defsO o) "deferred calls expected") fun d => M.of d "deferred calls taken"
noncomputable def putAll (t : Tr AV) : List Tmp → List AV → Tr AV
  | [], _ => t
  | _ :: _, [] => t
  | p :: ps, v :: vs => putAll (t.put p (some v)) ps vs
noncomputable def jumpOf : AExit → Option Code
  | .normal => none
  | .exit id => some (.exit id)
  | .ret => some .ret
noncomputable def isNormal : AExit → Bool
  | .normal => true
  | _ => false
noncomputable def isReady : LoopState → Bool
  | .ready => true
  | _ => false
noncomputable def isBusy : LoopState → Bool
  | .busy => true
  | _ => false
noncomputable def allBelow (n : Nat) : List Tmp → Bool
  | [] => true
  | p :: r => Nat.blt p n && allBelow n r
noncomputable def endM (l : Nat) (e : AExit) : M AV := M.bind (loopM l) fun r =>
  match r with
  | .mk _ _ t n ps az bd dn => M.bind (setM l (some (.loop (bif isNormal e then .ready else .done) (jumpOf e) t n ps az bd dn))) fun _ => M.pure (.bool (isNormal e))
noncomputable def beginM (l : Nat) : M Unit := M.bind (loopM l) fun r =>
  match r with
  | .mk st pe t n ps az bd dn => bif isReady st then setM l (some (.loop .busy pe t n ps az bd dn)) else M.fail "round: state"
noncomputable def roundM (ev : Ev) (l : Nat) (args : List AV) : M AV := M.bind (loopM l) fun r =>
  match r with
  | .mk _ _ t n ps az bd _ =>
    bif Nat.beq args.length ps.length && allBelow n ps then
      M.bind (ev.code (some l) az (.mk (putAll t ps args) n [])) fun q =>
      bif isNormal q.1 then M.bind (beginM l) fun _ => M.bind (ev.code (some l) bd q.2) fun q => endM l q.1
      else M.fail "round: assign"
    else M.fail "round: arguments"
inductive FnV where
  | fn (f : FuncId) (first cap : List AV)
  | yield (l : Nat)
noncomputable def fnA : AV → Option FnV
  | .func f a b => some (.fn f a b)
  | .yield l => some (.yield l)
  | _ => none
noncomputable def callV (ev : Ev) (f : AV) (args : List AV) : M AV := M.bind (M.of (fnA f) "call: value") fun f =>
  match f with
  | .fn g first cap => ev.call g (first ++ args ++ cap)
  | .yield l => roundM ev l args
noncomputable def findMeth : List (TypeId × String × FuncId) → TypeId → String → Option FuncId
  | [], _, _ => none
  | x :: r, t, m => bif Nat.beq x.1 t && x.2.1 == m then some x.2.2 else findMeth r t m
noncomputable def ifaceA : AV → Option (TypeId × AV)
  | .iface t v => some (t, v)
  | _ => none
noncomputable def fnOnly : AV → Option (FuncId × List AV × List AV)
  | .func f a b => some (f, a, b)
  | _ => none
noncomputable def value (m : M AV) : M ANext := M.bind m fun x => M.pure (.value x)
noncomputable def skip (m : M Unit) : M ANext := M.bind m fun _ => M.pure .skip
noncomputable def op1 (x : Opd) (f : AV → M AV) : OpC := .simp fun T => M.bind (rd T x) fun v => value (f v)
noncomputable def opTy1 (E : Env) (t : TypeId) (x : Opd) (f : TyI → AV → M AV) : OpC := .simp fun T => withTy E t fun i => M.bind (rd T x) fun v => value (f i v)
noncomputable def opTy2 (E : Env) (t : TypeId) (x y : Opd) (f : TyI → AV → AV → M AV) : OpC := .simp fun T => withTy E t fun i => M.bind (rd T x) fun a => M.bind (rd T y) fun b => value (f i a b)
noncomputable def opFail (m : String) : OpC := .simp fun _ => M.fail m
noncomputable def optO : Option Operand → Option Opd
  | none => none
  | some x => some (opd x)
noncomputable def rdOpt (T : Tr AV) (x : Option Opd) : M (Option AV) :=
  match x with
  | none => M.pure none
  | some x => M.bind (rd T x) fun v => M.pure (some v)
noncomputable def notNil (v : AV) : M AV := bif liveA v then M.pure v else M.fail "nilCheck"
noncomputable def opAlloc (E : Env) (e : TypeId) : OpC := .simp fun _ => withTy E e fun i => M.bind (newM (.row e i.zc)) fun n => M.pure (.value (.ptr n 0))
noncomputable def opBox (e : TypeId) (x : Opd) : OpC := .simp fun T => M.bind (rd T x) fun v => M.bind (M.of (cellsO v) "box") fun cs => M.bind (newM (.row e cs)) fun n => M.pure (.value (.ptr n 0))
noncomputable def opBuild (E : Env) (t : TypeId) (ps : List (Nat × Opd)) : OpC := .simp fun T => withTy E t fun i => M.bind (rdsP T ps) fun vs => value (buildM E i vs)
noncomputable def opBuildSlice (E : Env) (t : TypeId) (len : Nat) (ps : List (Nat × Opd)) : OpC := .simp fun T => withTy E t fun i => M.bind (rdsP T ps) fun vs => value (buildSliceM E i len vs)
noncomputable def opStore (E : Env) (t : TypeId) (a x : Opd) : OpC := .simp fun T => withTy E t fun i => M.bind (rd T a) fun a => M.bind (rd T x) fun x => skip (storeM i a x)
noncomputable def opPick (c a b : Opd) : OpC := .simp fun T => M.bind (rd T c) fun c => M.bind (M.of (boolA c) "pick") fun t => value (rd T (bif t then a else b))
noncomputable def opMapNew : OpC := .simp fun _ => M.bind (newM (.map [] 0)) fun n => M.pure (.value (.map n))
noncomputable def opMapNewR (E : Env) (t : TypeId) (r : Opd) : OpC := .simp fun T => withTy E t fun i => M.bind (rd T r) fun r => M.bind (M.of (intA r) "makeMap") fun _ => M.bind (M.of (mapD i.desc) "makeMap") fun _ => M.bind (newM (.map [] 0)) fun n => M.pure (.value (.map n))
noncomputable def opFn (f : FuncId) (a b : List Opd) : OpC := .simp fun T => M.bind (rds T a) fun a => M.bind (rds T b) fun b => M.pure (.value (.func f a b))
noncomputable def opSlice (E : Env) (t : TypeId) (x : Opd) (lo hi mx : Option Opd) : OpC := .simp fun T => withTy E t fun i => M.bind (rd T x) fun x => M.bind (rdOpt T lo) fun lo => M.bind (rdOpt T hi) fun hi => M.bind (rdOpt T mx) fun mx => value (sliceM E i x lo hi mx)
noncomputable def opUpdate (E : Env) (t : TypeId) (m k x : Opd) : OpC := .simp fun T => withTy E t fun i => M.bind (rd T m) fun m => M.bind (rd T k) fun k => M.bind (rd T x) fun x => skip (updateM E i m k x)
noncomputable def tupA : AV → Option (List AV)
  | .tuple vs => some vs
  | _ => none
noncomputable def opExtract (t : Opd) (i : Nat) : OpC := .simp fun T => M.bind (rd T t) fun t => M.bind (M.of (tupA t) "extract") fun vs => value (M.of vs[i]? "extract")
noncomputable def opBin (E : Env) (op : BinOp) (t : TypeId) (lit : Bool) (x y : Opd) : OpC := .simp fun T => M.bind (rd T x) fun a => M.bind (rd T y) fun b => value (binF E op t lit a b)
noncomputable def opBuiltin (f : List AV → M AV) (args : List Opd) : OpC := .simp fun T => M.bind (rds T args) fun vs => value (f vs)
noncomputable def opDefer (x : Opd) (args : List Opd) : OpC := .simp fun T => M.bind (rds T args) fun vs => M.bind (rd T x) fun f => M.bind (M.of (fnOnly f) "defer: value") fun q => M.pure (.defer (.fn q.1 (q.2.1 ++ vs) q.2.2))
noncomputable def callC (E : Env) (c : Call) : OpC :=
  match c.callee with
  | .builtin b => opBuiltin (builtinF E b c.argTypes.toList) (opds c.args.toList)
  | .value f => .call (opd f) (opds c.args.toList)
  | .invoke x m => .meth (opd x) m (opds c.args.toList)
noncomputable def deferC (c : Call) : OpC :=
  match c.callee with
  | .value f => opDefer (opd f) (opds c.args.toList)
  | _ => opFail "defer: form"
noncomputable def funC (fn : Fn) (a b : Array Operand) : OpC :=
  match fn with
  | .func f => opFn f (opds a.toList) (opds b.toList)
  | _ => opFail "makeFunc"
noncomputable def mapC (E : Env) (t : TypeId) (r : Option Operand) : OpC :=
  match r with
  | none => opMapNew
  | some r => opMapNewR E t (opd r)
noncomputable def nextC (it : Opd) (s : Bool) : OpC :=
  match s with
  | true => opFail "next: string"
  | false => op1 it nextM
noncomputable def opC (E : Env) (o : Op) : OpC :=
  match o with
  | .move x => op1 (opd x) M.pure
  | .assign x => op1 (opd x) M.pure
  | .pick c a b => opPick (opd c) (opd a) (opd b)
  | .alloc e => opAlloc E e
  | .box e x => opBox e (opd x)
  | .build t ps => opBuild E t (opdsP ps.toList)
  | .buildSlice t len ps => opBuildSlice E t len (opdsP ps.toList)
  | .load t a => opTy1 E t (opd a) loadM
  | .store t a x => opStore E t (opd a) (opd x)
  | .nilCheck x => op1 (opd x) notNil
  | .binOp op t x y _ => opBin E op t (isConst x || isConst y) (opd x) (opd y)
  | .unOp op _ x => op1 (opd x) (unF op)
  | .convert s d x => op1 (opd x) (convF E s d)
  | .makeInterface t x => opTy1 E t (opd x) fun i v => bif concreteD i.desc then M.pure (.iface t v) else M.fail "makeInterface"
  | .makeFunc fn a b => funC fn a b
  | .makeMap t r => mapC E t r
  | .makeSlice t l c => opTy2 E t (opd l) (opd c) (makeSliceM E)
  | .slice t x lo hi mx => opSlice E t (opd x) (optO lo) (optO hi) (optO mx)
  | .fieldAddr t x f => opTy1 E t (opd x) fun i => fieldAddrM E i f
  | .field t x f => opTy1 E t (opd x) fun i => fieldM E i f
  | .indexAddr t x i => opTy2 E t (opd x) (opd i) (indexAddrM E)
  | .index t x i => opTy2 E t (opd x) (opd i) (indexM E)
  | .lookup t x k ok => opTy2 E t (opd x) (opd k) fun i => lookupM E i ok
  | .mapUpdate t m k x => opUpdate E t (opd m) (opd k) (opd x)
  | .insert t m k x => opUpdate E t (opd m) (opd k) (opd x)
  | .range t x => opTy1 E t (opd x) rangeM
  | .next it s => nextC (opd it) s
  | .entry it => op1 (opd it) entryM
  | .extract t i => opExtract (opd t) i
  | .call c => callC E c
  | .defer c => deferC c
  | _ => opFail "operation"
noncomputable def runC (E : Env) (ev : Ev) (T : Tr AV) (c : OpC) : M ANext :=
  match c with
  | .simp f => f T
  | .call x args => M.bind (rds T args) fun vs => M.bind (rd T x) fun f => value (callV ev f vs)
  | .meth x m args => M.bind (rds T args) fun vs => M.bind (rd T x) fun x => M.bind (M.of (ifaceA x) "invoke") fun q => M.bind (M.of (findMeth E.meth q.1 m) "method") fun f => value (ev.call f (q.2 :: vs))
noncomputable def putA (a : AAct) (dst : Option Tmp) (v : AV) : M AAct :=
  match dst with
  | none => M.pure a
  | some d =>
    match a with
    | .mk t n ds => bif Nat.blt d n then M.pure (.mk (t.put d (some v)) n ds) else M.fail "slot"
noncomputable def guardC (ops : List Oper) (o : Oper) : Option (Option (Tmp × Bool)) :=
  match o.guard with
  | none => none
  | some g =>
    match ops[g.1]? with
    | some p => match p.dst with
      | some d => some (some (d, g.2))
      | none => some none
    | none => some none
noncomputable def wantedA (g : Option (Option (Tmp × Bool))) (T : Tr AV) : M Bool :=
  match g with
  | none => M.pure true
  | some none => M.fail "guard"
  | some (some q) => M.bind (M.of (boolA (slotA T q.1)) "guard") fun b => M.pure (b == q.2)
noncomputable def deferIn (rnd : Option Nat) (d : ADef) (a : AAct) : M AAct :=
  match rnd with
  | none => match a with
    | .mk t n ds => M.pure (.mk t n (d :: ds))
  | some _ => M.fail "defer in a round"
noncomputable def doneA (rnd : Option Nat) (dst : Option Tmp) (a : AAct) (x : ANext) : M AAct :=
  match x with
  | .value v => putA a dst v
  | .skip => putA a dst undefA
  | .defer d => M.bind (deferIn rnd d a) fun a => putA a dst undefA
noncomputable def operM (E : Env) (ev : Ev) (rnd : Option Nat) (ops : List Oper) (o : Oper) (a : AAct) : M AAct := M.bind (wantedA (guardC ops o) a.t) fun wt =>
  bif wt then M.bind (runC E ev a.t (opC E o.op)) fun x => doneA rnd o.dst a x
  else putA a o.dst undefA
noncomputable def opsM (E : Env) (ev : Ev) (rnd : Option Nat) (ops : List Oper) : List Oper → AAct → M AAct
  | [], a => M.pure a
  | o :: r, a => M.bind (operM E ev rnd ops o a) fun a => opsM E ev rnd ops r a
noncomputable def slotBit : Operand → Nat
  | .tmp t => Nat.shiftLeft 1 t
  | _ => 0
noncomputable def slotsOf : List Operand → Nat
  | [] => 0
  | x :: r => Nat.lor (slotBit x) (slotsOf r)
noncomputable def dstBit (o : Oper) : Nat := match o.dst with | some d => Nat.shiftLeft 1 d | none => 0
noncomputable def isDefer : Op → Bool
  | .defer _ => true
  | _ => false
abbrev FP := List (Nat × TS × TS)
noncomputable def apartF (bef : Nat) (r w : TS) : FP → Bool
  | [] => true
  | x :: l => (Nat.testBit bef x.1 || !(meets w x.2.1 || meets w x.2.2 || meets x.2.2 r)) && apartF bef r w l
noncomputable def befOf (acc : List Nat) : List Edge → Nat
  | [] => 0
  | e :: l => Nat.lor (bif Region.binds .any e then Nat.lor (Nat.shiftLeft 1 e.on) ((acc[e.on]?).getD 0) else 0) (befOf acc l)
noncomputable def befs : List Oper → List Nat → List Nat
  | [], acc => acc
  | o :: r, acc => befs r (acc ++ [befOf acc o.after.toList])
noncomputable def guardBit (ops : List Oper) (o : Oper) : Nat :=
  match o.guard with
  | some g => match ops[g.1]? with
    | some p => dstBit p
    | none => 0
  | none => 0
noncomputable def usedBits (ops : List Oper) (o : Oper) : Nat := Nat.lor (slotsOf o.op.operands.toList) (guardBit ops o)
noncomputable def slotApart (ops : List Oper) (bef u d : Nat) : List Oper → Nat → Nat → Bool
  | [], _, _ => true
  | o :: r, j, k => Nat.ble k j || ((Nat.testBit bef j || (Nat.beq (Nat.land u (dstBit o)) 0 && Nat.beq (Nat.land d (Nat.lor (dstBit o) (usedBits ops o))) 0)) && slotApart ops bef u d r (Nat.succ j) k)
noncomputable def edgesBelow (k : Nat) : List Edge → Bool
  | [] => true
  | e :: r => (!(Region.binds .any e) || Nat.blt e.on k) && edgesBelow k r
noncomputable def slotsOk (ops : List Oper) : List Oper → List Nat → Nat → Bool
  | o :: r, bef :: bs, k => !(isDefer o.op) && edgesBelow k o.after.toList && slotApart ops bef (usedBits ops o) (dstBit o) ops 0 k && slotsOk ops r bs (Nat.succ k)
  | [], _, _ => true
  | _ :: _, [], _ => false
noncomputable def addF (k : Nat) (r w : TS) (fp : FP) : FP :=
  match r with
  | [] => match w with
    | [] => fp
    | _ :: _ => (k, r, w) :: fp
  | _ :: _ => (k, r, w) :: fp
noncomputable def drawM (E : Env) (ev : Ev) (rnd : Option Nat) (ops : List Oper) : List Oper → List Nat → Nat → FP → AAct → M AAct
  | [], _, _, _, a => M.pure a
  | _ :: _, [], _, _, _ => M.fail "order: count"
  | o :: r, bef :: bs, k, fp, a =>
    M.bind (touched (operM E ev rnd ops o a)) fun q =>
    bif apartF bef q.2.1 q.2.2 fp then drawM E ev rnd ops r bs (Nat.succ k) (addF k q.2.1 q.2.2 fp) q.1
    else M.fail ("order: not apart " ++ o.pos)
abbrev CodeC := Ev → Option Nat → AAct → M (AExit × AAct)
noncomputable def normalC (m : M AAct) : M (AExit × AAct) := M.bind m fun a => M.pure (.normal, a)
noncomputable def regionC (E : Env) (l : List Oper) : CodeC := fun ev rnd a => normalC (opsM E ev rnd l l a)
noncomputable def posOf (l : List Oper) : String :=
  match l with
  | [] => ""
  | o :: _ => o.pos
noncomputable def drawC (E : Env) (l : List Oper) : CodeC := fun ev rnd a => bif slotsOk l l (befs l []) 0 then normalC (drawM E ev rnd l l (befs l []) 0 [] a) else M.fail ("order: slots " ++ posOf l)
noncomputable def seqC (x y : CodeC) : CodeC := fun ev rnd a => M.bind (x ev rnd a) fun q => bif isNormal q.1 then y ev rnd q.2 else M.pure q
noncomputable def condC (c : Opd) (x y : CodeC) : CodeC := fun ev rnd a => M.bind (rd a.t c) fun v => M.bind (M.of (boolA v) "cond") fun b => bif b then x ev rnd a else y ev rnd a
noncomputable def outOf (id : Nat) (e : AExit) : AExit :=
  match e with
  | .exit i => bif Nat.beq i id then .normal else e
  | _ => e
noncomputable def blockC (id : Nat) (x : CodeC) : CodeC := fun ev rnd a => M.bind (x ev rnd a) fun q => M.pure (outOf id q.1, q.2)
noncomputable def loopN (x : Ev → Option Nat → AAct → M (AExit × AAct)) (ev : Ev) (rnd : Option Nat) : Nat → AAct → M (AExit × AAct)
  | 0, _ => M.fail "loop: fuel"
  | f + 1, a => M.bind (x ev rnd a) fun q => bif isNormal q.1 then loopN x ev rnd f q.2 else M.pure q
noncomputable def loopC (x : CodeC) : CodeC := fun ev rnd a => loopN x ev rnd ev.fuel a
noncomputable def exitC (e : AExit) : CodeC := fun _ _ a => M.pure (e, a)
noncomputable def failC (m : String) : CodeC := fun _ _ _ => M.fail m
noncomputable def markM (rnd : Option Nat) : M (Nat × List ADef) :=
  match rnd with
  | some l => M.bind (loopM l) fun r =>
    match r with
    | .mk _ _ _ _ _ _ _ dn => M.pure (dn, [])
  | none => M.bind (newM (.defs (some []))) fun r => M.pure (r, [.mark r])
noncomputable def pendA (pe : Option Code) : Option AExit :=
  match pe with
  | none => some .normal
  | some c => match c with
    | .exit id => some (.exit id)
    | .ret => some .ret
    | _ => none
noncomputable def overM (l : Nat) : M AExit := M.bind (loopM l) fun r =>
  match r with
  | .mk st pe t n ps az bd dn => bif isBusy st then M.fail "range: busy" else M.bind (setM l (some (.loop .exhausted pe t n ps az bd dn))) fun _ => M.of (pendA pe) "range: jump"
noncomputable def rangeC (f : Opd) (ps : List Tmp) (az bd : Code) : CodeC := fun ev rnd a =>
  match a with
  | .mk T n ds => M.bind (markM rnd) fun mk => M.bind (newM (.loop .ready none T n ps az bd mk.1)) fun l => M.bind (rd T f) fun f => M.bind (M.of (fnOnly f) "range: function") fun q =>
    M.bind (ev.call q.1 (q.2.1 ++ [.yield l] ++ q.2.2)) fun _ => M.bind (overM l) fun e => M.pure (e, .mk T n (mk.2 ++ ds))
noncomputable def regC (E : Env) (l : List Oper) (draw : Bool) : CodeC :=
  match draw with
  | true => drawC E l
  | false => regionC E l
noncomputable def codeC (E : Env) : Code → CodeC
  | .skip => exitC .normal
  | .label _ => exitC .normal
  | .region _ ops draw => regC E ops.toList draw
  | .seq x y => seqC (codeC E x) (codeC E y)
  | .cond c x y => condC (opd c) (codeC E x) (codeC E y)
  | .block id b => blockC id (codeC E b)
  | .loop b => loopC (codeC E b)
  | .scope b => codeC E b
  | .exit id => exitC (.exit id)
  | .ret => exitC .ret
  | .rangeFunc f ps az bd => rangeC (opd f) ps.toList az bd
  | .goto _ => failC "goto"
  | .refuse _ => failC "refuse"
noncomputable def isCalm (g : Nat) : List FuncId → Bool
  | [] => false
  | x :: r => Nat.beq g x || isCalm g r
noncomputable def leaveM (E : Env) (ev : Ev) : List ADef → M Unit
  | [] => M.pure ()
  | d :: ds =>
    match d with
    | .mark r => M.bind (defsM r) fun q =>
      match q with
      | [] => M.bind (setM r (some (.defs none))) fun _ => leaveM E ev ds
      | _ :: _ => M.fail "deferred in a round"
    | .fn g args cap => bif isCalm g E.calm then leaveM E ev ds else M.bind (ev.callD g (args ++ cap)) fun _ => leaveM E ev ds
noncomputable def resM (E : Env) (T : Tr AV) : List ResultVar → M (List AV)
  | [] => M.pure []
  | x :: r =>
    match x with
    | .tmp t => M.bind (resM E T r) fun vs => M.pure (slotA T t :: vs)
    | .cell p t => withTy E t fun i => M.bind (loadM i (slotA T p)) fun v => M.bind (resM E T r) fun vs => M.pure (v :: vs)
noncomputable def args0 : Tr AV → Nat → List AV → Tr AV
  | t, _, [] => t
  | t, k, v :: r => args0 (t.put k (some v)) (Nat.succ k) r
noncomputable def tupOf (vs : List AV) : AV :=
  match vs with
  | [] => .tuple []
  | v :: r => match r with
    | [] => v
    | _ :: _ => .tuple vs
noncomputable def isExit : AExit → Bool
  | .exit _ => true
  | _ => false
noncomputable def bodyC (fn : Func) (c : CodeC) (ev : Ev) (args : List AV) : M (Tr AV × List ADef) :=
  bif Nat.ble args.length fn.ntmps then
    M.bind (c ev none (.mk (args0 .nil 0 args) fn.ntmps [])) fun q =>
    bif isExit q.1 then M.fail "exit" else
    match q.2 with
    | .mk T _ ds => M.pure (T, ds)
  else M.fail "arguments"
noncomputable def entC (E : Env) (fn : Func) (c : CodeC) (ev : Ev) (args : List AV) : M AV := M.bind (bodyC fn c ev args) fun q => M.bind (leaveM E ev q.2) fun _ => M.bind (resM E q.1 fn.results.toList) fun vs => M.pure (tupOf vs)
noncomputable def entD (E : Env) (fn : Func) (c : CodeC) (ev : Ev) (args : List AV) : M AV := M.bind (bodyC fn c ev args) fun q =>
  match q.2 with
  | [] => M.bind (resM E q.1 fn.results.toList) fun vs => M.pure (tupOf vs)
  | _ :: _ => M.fail "deferred: it defers"
noncomputable def fnC (E : Env) (f : FuncId) : Ev → List AV → M AV :=
  match E.orc.get f with
  | some o => fun _ => o
  | none => match E.fn.get f with
    | none => fun _ _ => M.fail "function"
    | some fn => match fn.body with
      | none => fun _ _ => M.fail "body"
      | some c => entC E fn (codeC E c)
noncomputable def fnD (E : Env) (f : FuncId) : Ev → List AV → M AV :=
  match E.fn.get f with
  | none => fun _ _ => M.fail "function"
  | some fn => match fn.body with
    | none => fun _ _ => M.fail "body"
    | some c => entD E fn (codeC E c)
noncomputable def evN (E : Env) : Nat → Ev
  | 0 => failEv
  | n + 1 => .mk n (fun f args s => fnC E f (evN E n) args s) (fun f args s => fnD E f (evN E n) args s) (fun r c a s => codeC E c (evN E n) r a s)
end Go.Proofs.YtnanlaefehaifaaGreat.Vm
namespace Go.Proofs.YtnanlaefehaifaaGreat.Vm
open Go
theorem forceN_eq {α : Type} (x : Nat) (k : Nat → α) : forceN x k = k x := by cases x <;> rfl
theorem forceI_eq {α : Type} (x : Int) (k : Int → α) : forceI x k = k x := by cases x <;> simp [forceI, forceN_eq]
theorem bif_true {α : Type} {b : Bool} (x y : α) (h : b = true) : (bif b then x else y) = x := by rw [h]; rfl
theorem bif_false {α : Type} {b : Bool} (x y : α) (h : b = false) : (bif b then x else y) = y := by rw [h]; rfl
theorem beq_true {a b : Nat} : Nat.beq a b = true ↔ a = b := ⟨Nat.eq_of_beq_eq_true, fun h => by subst h; exact Nat.beq_refl a⟩
theorem ble_true {a b : Nat} : Nat.ble a b = true ↔ a ≤ b := ⟨Nat.le_of_ble_eq_true, Nat.ble_eq_true_of_le⟩
theorem blt_true {a b : Nat} : Nat.blt a b = true ↔ a < b := ble_true
section
variable {α : Type}
theorem bool_rec {α : Type} (b : Bool) (x y : α) : (Bool.rec x y b : α) = if b = true then y else x := by cases b <;> rfl
theorem Tr.get_node (l : Tr α) (v : Option α) (r : Tr α) (n : Nat) : (Tr.node l v r).get n = if n = 0 then v else if n % 2 = 1 then l.get (n / 2) else r.get (n / 2 - 1) := by
  show (Bool.rec (Bool.rec (r.get (n / 2 - 1)) (l.get (n / 2)) (Nat.beq (n % 2) 1)) v (Nat.beq n 0) : Option α) = _
  rw [bool_rec, bool_rec]
  simp only [beq_true]
theorem Tr.put1_succ (f n : Nat) (x : Option α) : (Tr.put1 (f + 1) n x : Tr α) = if n = 0 then .node .nil x .nil else if n % 2 = 1 then .node (Tr.put1 f (n / 2) x) none .nil else .node .nil none (Tr.put1 f (n / 2 - 1) x) := by
  show (Bool.rec (Bool.rec (Tr.node .nil none (Tr.put1 f (n / 2 - 1) x)) (.node (Tr.put1 f (n / 2) x) none .nil) (Nat.beq (n % 2) 1)) (.node .nil x .nil) (Nat.beq n 0) : Tr α) = _
  rw [bool_rec, bool_rec]
  simp only [beq_true]
theorem Tr.put_nil (n : Nat) (x : Option α) : (Tr.nil : Tr α).put n x = Tr.put1 (n + 1) n x := rfl
theorem Tr.put_node (l : Tr α) (v : Option α) (r : Tr α) (n : Nat) (x : Option α) : (Tr.node l v r).put n x = if n = 0 then .node l x r else if n % 2 = 1 then .node (l.put (n / 2) x) v r else .node l v (r.put (n / 2 - 1) x) := by
  show (Bool.rec (Bool.rec (Tr.node l v (r.put (n / 2 - 1) x)) (.node (l.put (n / 2) x) v r) (Nat.beq (n % 2) 1)) (.node l x r) (Nat.beq n 0) : Tr α) = _
  rw [bool_rec, bool_rec]
  simp only [beq_true]
theorem Tr.get_put1 (x : Option α) : ∀ (f n m : Nat), n < f → (Tr.put1 f n x : Tr α).get m = if m = n then x else none
  | 0, n, m, h => by omega
  | f + 1, n, m, h => by
    rw [Tr.put1_succ]
    by_cases h0 : n = 0
    · subst h0
      rw [if_pos rfl, Tr.get_node]
      by_cases hm : m = 0
      · rw [if_pos hm, if_pos hm]
      · rw [if_neg hm, if_neg hm]
        split <;> rfl
    · rw [if_neg h0]
      by_cases h1 : n % 2 = 1
      · rw [if_pos h1, Tr.get_node]
        by_cases hm : m = 0
        · rw [if_pos hm, if_neg (by omega)]
        · rw [if_neg hm]
          by_cases h2 : m % 2 = 1
          · rw [if_pos h2, Tr.get_put1 x f (n / 2) (m / 2) (by omega)]
            by_cases h3 : m = n
            · rw [if_pos h3, if_pos (by omega)]
            · rw [if_neg h3, if_neg (by omega)]
          · rw [if_neg h2, if_neg (by omega)]
            rfl
      · rw [if_neg h1, Tr.get_node]
        by_cases hm : m = 0
        · rw [if_pos hm, if_neg (by omega)]
        · rw [if_neg hm]
          by_cases h2 : m % 2 = 1
          · rw [if_pos h2, if_neg (by omega)]
            rfl
          · rw [if_neg h2, Tr.get_put1 x f (n / 2 - 1) (m / 2 - 1) (by omega)]
            by_cases h3 : m = n
            · rw [if_pos h3, if_pos (by omega)]
            · rw [if_neg h3, if_neg (by omega)]
theorem Tr.get_put (x : Option α) : ∀ (t : Tr α) (n m : Nat), (t.put n x).get m = if m = n then x else t.get m
  | .nil, n, m => by
    rw [Tr.put_nil, Tr.get_put1 x (n + 1) n m (by omega)]
    rfl
  | .node l v r, n, m => by
    rw [Tr.put_node]
    by_cases h0 : n = 0
    · subst h0
      rw [if_pos rfl, Tr.get_node, Tr.get_node]
      by_cases hm : m = 0
      · rw [if_pos hm, if_pos hm]
      · rw [if_neg hm, if_neg hm, if_neg hm]
    · rw [if_neg h0]
      by_cases h1 : n % 2 = 1
      · rw [if_pos h1, Tr.get_node, Tr.get_node]
        by_cases hm : m = 0
        · rw [if_pos hm, if_neg (by omega), if_pos hm]
        · rw [if_neg hm, if_neg hm]
          by_cases h2 : m % 2 = 1
          · rw [if_pos h2, if_pos h2, Tr.get_put x l]
            by_cases h3 : m = n
            · rw [if_pos h3, if_pos (by omega)]
            · rw [if_neg h3, if_neg (by omega)]
          · rw [if_neg h2, if_neg h2, if_neg (by omega)]
      · rw [if_neg h1, Tr.get_node, Tr.get_node]
        by_cases hm : m = 0
        · rw [if_pos hm, if_neg (by omega), if_pos hm]
        · rw [if_neg hm, if_neg hm]
          by_cases h2 : m % 2 = 1
          · rw [if_pos h2, if_pos h2, if_neg (by omega)]
          · rw [if_neg h2, if_neg h2, Tr.get_put x r]
            by_cases h3 : m = n
            · rw [if_pos h3, if_pos (by omega)]
            · rw [if_neg h3, if_neg (by omega)]
end
section
variable {α β : Type} {s s' : St}
theorem M.bind_ok {m : M α} {k : α → M β} {y : β} : M.bind m k s = .ok y s' ↔ ∃ x s1, m s = .ok x s1 ∧ k x s1 = .ok y s' := by
  unfold M.bind
  cases m s with
  | ok a t =>
    constructor
    · intro h; exact ⟨a, t, rfl, h⟩
    · rintro ⟨x, s1, h1, h2⟩
      injection h1 with h3 h4
      subst h3 h4
      exact h2
  | err e => simp
theorem M.pure_ok {a b : α} : M.pure a s = .ok b s' ↔ b = a ∧ s' = s := by
  simp [M.pure, eq_comm]
theorem M.fail_ok {e : String} {b : α} : M.fail e s = .ok b s' ↔ False := by simp [M.fail]
theorem M.of_ok {o : Option α} {e : String} {b : α} : M.of o e s = .ok b s' ↔ o = some b ∧ s' = s := by
  unfold M.of
  cases o <;> simp [eq_comm]
theorem getM_ok {n : Nat} {o : AObj} : getM n s = .ok o s' ↔ n < s.c ∧ s.h.get n = some o ∧ s' = .mk s.h s.c (s.r.add n) s.w := by
  obtain ⟨h, c, r, w⟩ := s
  unfold getM
  simp only [St.h, St.c, St.r, St.w]
  cases hb : Nat.ble c n with
  | true =>
    have := ble_true.1 hb
    simp only [cond_true, reduceCtorEq, false_iff]
    omega
  | false =>
    have hn : n < c := by
      rcases Nat.lt_or_ge n c with h1 | h1
      · exact h1
      · rw [ble_true.2 h1] at hb; cases hb
    cases hg : h.get n <;> simp [hn, eq_comm]
theorem setM_ok {n : Nat} {o : Option AObj} {u : Unit} : setM n o s = .ok u s' ↔ n < s.c ∧ s' = .mk (s.h.put n o) s.c s.r (s.w.add n) := by
  obtain ⟨h, c, r, w⟩ := s
  unfold setM
  simp only [St.h, St.c, St.r, St.w]
  cases hb : Nat.ble c n with
  | true =>
    have := ble_true.1 hb
    simp only [cond_true, reduceCtorEq, false_iff]
    omega
  | false =>
    have hn : n < c := by
      rcases Nat.lt_or_ge n c with h1 | h1
      · exact h1
      · rw [ble_true.2 h1] at hb; cases hb
    simp [hn, eq_comm]
theorem newM_ok {o : AObj} {n : Nat} : newM o s = .ok n s' ↔ n = s.c ∧ s' = .mk (s.h.put s.c (some o)) (s.c + 1) s.r (s.w.add s.c) := by
  obtain ⟨h, c, r, w⟩ := s
  unfold newM
  simp only [St.h, St.c, St.r, St.w, forceN_eq, Rs.ok.injEq, eq_comm (a := c)]
  exact ⟨fun ⟨a, b⟩ => ⟨a, b.symm⟩, fun ⟨a, b⟩ => ⟨a, b.symm⟩⟩
theorem withTy_ok {E : Env} {t : TypeId} {k : TyI → M α} {b : α} : withTy E t k s = .ok b s' ↔ ∃ i, E.ty.get t = some i ∧ k i s = .ok b s' := by
  unfold withTy
  cases E.ty.get t <;> simp
def Alike (s s' : St) : Prop := s'.h = s.h ∧ s'.c = s.c
theorem Alike.refl (s : St) : Alike s s := ⟨rfl, rfl⟩
theorem Alike.trans {s1 : St} (h : Alike s s1) (h' : Alike s1 s') : Alike s s' := ⟨h'.1.trans h.1, h'.2.trans h.2⟩
theorem getM_alike {n : Nat} {o : AObj} (h : getM n s = .ok o s') : s.h.get n = some o ∧ Alike s s' := by
  obtain ⟨_, h1, rfl⟩ := getM_ok.1 h
  exact ⟨h1, rfl, rfl⟩
theorem rowM_ok {n : Nat} {q : TypeId × List AV} (h : rowM n s = .ok q s') : s.h.get n = some (.row q.1 q.2) ∧ n < s.c ∧ Alike s s' := by
  unfold rowM at h
  obtain ⟨o, s1, h1, h2⟩ := M.bind_ok.1 h
  obtain ⟨hlt, h3, rfl⟩ := getM_ok.1 h1
  obtain ⟨h4, rfl⟩ := M.of_ok.1 h2
  cases o <;> simp only [rowO, Option.some.injEq, reduceCtorEq] at h4
  subst h4
  exact ⟨h3, hlt, rfl, rfl⟩
end
def Ren := Nat → Option (Nat × Nat × Nat)
def Ren.le (ρ ρ' : Ren) : Prop := ∀ n p, ρ n = some p → ρ' n = some p
theorem Ren.le_refl (ρ : Ren) : ρ.le ρ := fun _ _ h => h
theorem Ren.le_trans {ρ ρ1 ρ2 : Ren} (h : ρ.le ρ1) (h' : ρ1.le ρ2) : ρ.le ρ2 := fun n p e => h' n p (h n p e)
noncomputable def bytesV (l n : Nat) : List Value := (unpack l n).map byteV
def isOne : AV → Bool
  | .agg _ => false
  | .tuple _ => false
  | .bytes _ _ => false
  | _ => true
def capR (cap : Option Nat) (c off es κ : Nat) : Prop :=
  match cap with
  | some c' => c = c'
  | none => off + c * es = κ
def XOf (b : Option (Nat × Nat)) (one : Bool) (us : List Value) (V : Value → Prop) : Prop :=
  match b with
  | some p => us = bytesV p.1 p.2 ∧ p.2 < 2 ^ (8 * p.1)
  | none => one = true ∧ ∃ v, us = [v] ∧ V v
mutual
def VRel (ρ : Ren) : AV → Value → Prop
  | .int k n, v => v = .int k n
  | .bool b, v => v = .bool b
  | .str s, v => v = .string s
  | .nilp, v => v = .pointer none
  | .ptr n off, v => ∃ p, ρ n = some p ∧ v = .pointer (some ⟨p.1, p.2.1 + off, none⟩)
  | .nilslice, v => v = .slice none 0 0
  | .slice n off len cap es, v => ∃ p c, ρ n = some p ∧ v = .slice (some ⟨p.1, p.2.1 + off, none⟩) len c ∧ len ≤ c ∧ capR cap c off es p.2.2
  | .empty, v => ∃ a c, v = .slice (some a) 0 c
  | .nilmap, v => v = .map none
  | .map n, v => ∃ p, ρ n = some p ∧ v = .map (some p.1)
  | .nilfunc, v => v = .nilFunc
  | .func f a b, v => ∃ x y : Array Value, v = .func (.func f) x y ∧ LRel ρ a x.toList ∧ LRel ρ b y.toList
  | .yield n, v => ∃ p, ρ n = some p ∧ v = .func (.yield p.1) #[] #[]
  | .niliface, v => v = .nilIface
  | .iface t x, v => ∃ u, v = .iface t u ∧ VRel ρ x u
  | .agg cs, v => ∃ a : Array Value, v = .agg a ∧ CRel ρ cs a.toList
  | .tuple vs, v => ∃ a : Array Value, v = .tuple a ∧ LRel ρ vs a.toList
  | .bytes _ _, _ => False
def LRel (ρ : Ren) : List AV → List Value → Prop
  | [], vs => vs = []
  | a :: r, vs => ∃ v vs', vs = v :: vs' ∧ VRel ρ a v ∧ LRel ρ r vs'
def CRel (ρ : Ren) : List AV → List Value → Prop
  | [], vs => vs = []
  | a :: r, vs => ∃ us vs', vs = us ++ vs' ∧ XOf (isB a) (isOne a) us (fun v => VRel ρ a v) ∧ CRel ρ r vs'
end
theorem XOf.mono {b : Option (Nat × Nat)} {one : Bool} {us : List Value} {V V' : Value → Prop} (hV : ∀ v, V v → V' v) (h : XOf b one us V) : XOf b one us V' := by
  cases b with
  | some p => exact h
  | none =>
    obtain ⟨h1, v, h2, h3⟩ := h
    exact ⟨h1, v, h2, hV v h3⟩
mutual
theorem VRel.mono {ρ ρ' : Ren} (hl : ρ.le ρ') : ∀ (a : AV) (v : Value), VRel ρ a v → VRel ρ' a v
  | .int _ _, _, h => h
  | .bool _, _, h => h
  | .str _, _, h => h
  | .nilp, _, h => h
  | .ptr n off, v, h => by
    obtain ⟨p, h1, h2⟩ := h
    exact ⟨p, hl _ _ h1, h2⟩
  | .nilslice, _, h => h
  | .slice n off len cap es, v, h => by
    obtain ⟨p, c, h1, h2⟩ := h
    exact ⟨p, c, hl _ _ h1, h2⟩
  | .empty, _, h => h
  | .nilmap, _, h => h
  | .map n, v, h => by
    obtain ⟨p, h1, h2⟩ := h
    exact ⟨p, hl _ _ h1, h2⟩
  | .nilfunc, _, h => h
  | .func f a b, v, h => by
    obtain ⟨x, y, h1, h2, h3⟩ := h
    exact ⟨x, y, h1, LRel.mono hl a _ h2, LRel.mono hl b _ h3⟩
  | .yield n, v, h => by
    obtain ⟨p, h1, h2⟩ := h
    exact ⟨p, hl _ _ h1, h2⟩
  | .niliface, _, h => h
  | .iface t x, v, h => by
    obtain ⟨u, h1, h2⟩ := h
    exact ⟨u, h1, VRel.mono hl x u h2⟩
  | .agg cs, v, h => by
    obtain ⟨a, h1, h2⟩ := h
    exact ⟨a, h1, CRel.mono hl cs _ h2⟩
  | .tuple vs, v, h => by
    obtain ⟨a, h1, h2⟩ := h
    exact ⟨a, h1, LRel.mono hl vs _ h2⟩
  | .bytes _ _, _, h => h
theorem LRel.mono {ρ ρ' : Ren} (hl : ρ.le ρ') : ∀ (l : List AV) (vs : List Value), LRel ρ l vs → LRel ρ' l vs
  | [], _, h => h
  | a :: r, vs, h => by
    obtain ⟨v, vs', h1, h2, h3⟩ := h
    exact ⟨v, vs', h1, VRel.mono hl a v h2, LRel.mono hl r vs' h3⟩
theorem CRel.mono {ρ ρ' : Ren} (hl : ρ.le ρ') : ∀ (l : List AV) (vs : List Value), CRel ρ l vs → CRel ρ' l vs
  | [], _, h => h
  | a :: r, vs, h => by
    obtain ⟨us, vs', h1, h2, h3⟩ := h
    exact ⟨us, vs', h1, XOf.mono (fun v hv => VRel.mono hl a v hv) h2, CRel.mono hl r vs' h3⟩
end
section
variable {ρ : Ren}
theorem CRel.nil : CRel ρ [] [] := by simp [CRel]
theorem CRel.nil_iff {vs : List Value} : CRel ρ [] vs ↔ vs = [] := by simp [CRel]
theorem CRel.cons_iff {a : AV} {r : List AV} {vs : List Value} : CRel ρ (a :: r) vs ↔ ∃ us vs', vs = us ++ vs' ∧ XOf (isB a) (isOne a) us (fun v => VRel ρ a v) ∧ CRel ρ r vs' := by
  rw [CRel]
theorem LRel.nil_iff {vs : List Value} : LRel ρ [] vs ↔ vs = [] := by simp [LRel]
theorem LRel.cons_iff {a : AV} {r : List AV} {vs : List Value} : LRel ρ (a :: r) vs ↔ ∃ v vs', vs = v :: vs' ∧ VRel ρ a v ∧ LRel ρ r vs' := by
  rw [LRel]
theorem unpack_length : ∀ (l n : Nat), (unpack l n).length = l
  | 0, _ => rfl
  | l + 1, n => by rw [unpack, List.length_cons, unpack_length l]
theorem bytesV_length (l n : Nat) : (bytesV l n).length = l := by rw [bytesV, List.length_map, unpack_length]
theorem XOf.length {a : AV} {us : List Value} (h : XOf (isB a) (isOne a) us (fun v => VRel ρ a v)) : us.length = (match isB a with | some (l, _) => l | none => 1) := by
  cases hb : isB a with
  | some p =>
    rw [hb] at h
    rw [h.1, bytesV_length]
  | none =>
    rw [hb] at h
    obtain ⟨_, v, rfl, _⟩ := h
    rfl
theorem CRel.length : ∀ (l : List AV) {vs : List Value}, CRel ρ l vs → vs.length = lenC l
  | [], vs, h => by rw [CRel.nil_iff.1 h]; rfl
  | a :: r, vs, h => by
    obtain ⟨us, vs', rfl, h2, h3⟩ := CRel.cons_iff.1 h
    rw [List.length_append, CRel.length r h3, XOf.length h2]
    rfl
theorem LRel.length : ∀ (l : List AV) {vs : List Value}, LRel ρ l vs → vs.length = l.length
  | [], vs, h => by rw [LRel.nil_iff.1 h]; rfl
  | a :: r, vs, h => by
    obtain ⟨v, vs', rfl, h2, h3⟩ := LRel.cons_iff.1 h
    rw [List.length_cons, LRel.length r h3, List.length_cons]
theorem LRel.append : ∀ {l m : List AV} {us vs : List Value}, LRel ρ l us → LRel ρ m vs → LRel ρ (l ++ m) (us ++ vs)
  | [], m, us, vs, h, h' => by rw [LRel.nil_iff.1 h]; exact h'
  | a :: r, m, us, vs, h, h' => by
    obtain ⟨v, us', rfl, h2, h3⟩ := LRel.cons_iff.1 h
    exact LRel.cons_iff.2 ⟨v, us' ++ vs, rfl, h2, LRel.append h3 h'⟩
theorem LRel.get : ∀ {l : List AV} {vs : List Value} {i : Nat} {a : AV}, LRel ρ l vs → l[i]? = some a → ∃ v, vs[i]? = some v ∧ VRel ρ a v
  | [], vs, i, a, h, h' => by simp at h'
  | x :: r, vs, i, a, h, h' => by
    obtain ⟨v, vs', rfl, h2, h3⟩ := LRel.cons_iff.1 h
    cases i with
    | zero =>
      obtain rfl : x = a := by simpa using h'
      exact ⟨v, rfl, h2⟩
    | succ i => exact LRel.get (i := i) h3 (by simpa using h')
theorem unpack_split (n : Nat) : ∀ (k l : Nat), k ≤ l → unpack l n = unpack k (n % 2 ^ (8 * k)) ++ unpack (l - k) (n >>> (8 * k))
  | k, l, h => by
    induction k generalizing n l with
    | zero => simp [unpack]
    | succ k ih =>
      cases l with
      | zero => omega
      | succ l =>
        have e1 : n % 2 ^ (8 * (k + 1)) % 256 = n % 256 := by
          rw [show (256 : Nat) = 2 ^ 8 from rfl]
          exact Nat.mod_mod_of_dvd n (Nat.pow_dvd_pow 2 (by omega))
        have e2 : n % 2 ^ (8 * (k + 1)) / 256 = (n / 256) % 2 ^ (8 * k) := by
          rw [show 8 * (k + 1) = 8 * k + 8 by omega, Nat.pow_add, show (2 : Nat) ^ 8 = 256 from rfl, Nat.mul_comm, Nat.mod_mul_right_div_self]
        have e3 : n >>> (8 * (k + 1)) = (n / 256) >>> (8 * k) := by
          rw [Nat.shiftRight_eq_div_pow, Nat.shiftRight_eq_div_pow, Nat.div_div_eq_div_mul, show (256 : Nat) = 2 ^ 8 from rfl, ← Nat.pow_add]
          congr 2
          omega
        show UInt8.ofNat (n % 256) :: unpack l (n / 256) = (UInt8.ofNat (n % 2 ^ (8 * (k + 1)) % 256) :: unpack k (n % 2 ^ (8 * (k + 1)) / 256)) ++ unpack (l + 1 - (k + 1)) (n >>> (8 * (k + 1)))
        rw [e1, e2, e3, ih (n / 256) l (by omega), show l + 1 - (k + 1) = l - k by omega]
        rfl
theorem unpack_join (l l2 n n2 : Nat) (hn : n < 2 ^ (8 * l)) : unpack (l + l2) (n + n2 <<< (8 * l)) = unpack l n ++ unpack l2 n2 := by
  rw [unpack_split (n + n2 <<< (8 * l)) l (l + l2) (by omega), show l + l2 - l = l2 by omega]
  have e1 : (n + n2 <<< (8 * l)) % 2 ^ (8 * l) = n := by
    rw [Nat.shiftLeft_eq, Nat.add_mul_mod_self_right, Nat.mod_eq_of_lt hn]
  have e2 : (n + n2 <<< (8 * l)) >>> (8 * l) = n2 := by
    rw [Nat.shiftLeft_eq, Nat.shiftRight_eq_div_pow, Nat.add_mul_div_right _ _ (Nat.two_pow_pos _), Nat.div_eq_of_lt hn, Nat.zero_add]
  rw [e1, e2]
theorem join_lt (l l2 n n2 : Nat) (hn : n < 2 ^ (8 * l)) (h2 : n2 < 2 ^ (8 * l2)) : n + n2 <<< (8 * l) < 2 ^ (8 * (l + l2)) := by
  rw [Nat.shiftLeft_eq, show 8 * (l + l2) = 8 * l2 + 8 * l by omega, Nat.pow_add]
  have : (n2 + 1) * 2 ^ (8 * l) ≤ 2 ^ (8 * l2) * 2 ^ (8 * l) := Nat.mul_le_mul_right _ h2
  rw [Nat.add_mul, Nat.one_mul] at this
  omega
theorem shr_lt (l k n : Nat) (hk : k ≤ l) (hn : n < 2 ^ (8 * l)) : n >>> (8 * k) < 2 ^ (8 * (l - k)) := by
  rw [Nat.shiftRight_eq_div_pow, Nat.div_lt_iff_lt_mul (Nat.two_pow_pos _), ← Nat.pow_add]
  rwa [show 8 * (l - k) + 8 * k = 8 * l by omega]
theorem isB_some {a : AV} {l n : Nat} (h : isB a = some (l, n)) : a = .bytes l n := by
  cases a <;> simp only [isB, Option.some.injEq, reduceCtorEq, Prod.mk.injEq] at h
  obtain ⟨rfl, rfl⟩ := h
  rfl
theorem CRel.bytes_iff {l n : Nat} {r : List AV} {vs : List Value} : CRel ρ (.bytes l n :: r) vs ↔ ∃ vs', vs = bytesV l n ++ vs' ∧ n < 2 ^ (8 * l) ∧ CRel ρ r vs' := by
  rw [CRel.cons_iff]
  constructor
  · rintro ⟨us, vs', rfl, ⟨rfl, h2⟩, h3⟩
    exact ⟨vs', rfl, h2, h3⟩
  · rintro ⟨vs', rfl, h2, h3⟩
    exact ⟨_, vs', rfl, ⟨rfl, h2⟩, h3⟩
theorem CRel.one_iff {a : AV} {r : List AV} {vs : List Value} (hb : isB a = none) : CRel ρ (a :: r) vs ↔ ∃ v vs', vs = v :: vs' ∧ isOne a = true ∧ VRel ρ a v ∧ CRel ρ r vs' := by
  rw [CRel.cons_iff, hb]
  constructor
  · rintro ⟨us, vs', rfl, ⟨h1, v, rfl, h2⟩, h3⟩
    exact ⟨v, vs', rfl, h1, h2, h3⟩
  · rintro ⟨v, vs', rfl, h1, h2, h3⟩
    exact ⟨[v], vs', rfl, ⟨h1, v, rfl, h2⟩, h3⟩
theorem splitC_rel : ∀ (l : List AV) {k : Nat} {x y : List AV} {vs : List Value}, splitC l k = some (x, y) → CRel ρ l vs → CRel ρ x (vs.take k) ∧ CRel ρ y (vs.drop k) ∧ k ≤ vs.length
  | [], k, x, y, vs, h, hr => by
    unfold splitC at h
    cases hb : Nat.beq k 0 with
    | true =>
      rw [bif_true _ _ hb] at h
      obtain rfl := beq_true.1 hb
      simp only [Option.some.injEq, Prod.mk.injEq] at h
      obtain ⟨rfl, rfl⟩ := h
      rw [CRel.nil_iff.1 hr]
      exact ⟨CRel.nil, CRel.nil, Nat.zero_le _⟩
    | false => rw [bif_false _ _ hb] at h; cases h
  | a :: r, k, x, y, vs, h, hr => by
    unfold splitC at h
    cases hb : Nat.beq k 0 with
    | true =>
      rw [bif_true _ _ hb] at h
      obtain rfl := beq_true.1 hb
      simp only [Option.some.injEq, Prod.mk.injEq] at h
      obtain ⟨rfl, rfl⟩ := h
      exact ⟨CRel.nil, hr, Nat.zero_le _⟩
    | false =>
      rw [bif_false _ _ hb] at h
      have hk : k ≠ 0 := fun e => by rw [beq_true.2 e] at hb; cases hb
      cases ha : isB a with
      | some p =>
        obtain ⟨l, n⟩ := p
        obtain rfl := isB_some ha
        simp only [ha] at h
        obtain ⟨vs', rfl, hn, h3⟩ := CRel.bytes_iff.1 hr
        have hl := bytesV_length l n
        cases hlk : Nat.ble l k with
        | true =>
          rw [bif_true _ _ hlk] at h
          have hle := ble_true.1 hlk
          cases hs : splitC r (Nat.sub k l) with
          | none => rw [hs] at h; cases h
          | some q =>
            obtain ⟨x', y'⟩ := q
            rw [hs] at h
            simp only [Option.some.injEq, Prod.mk.injEq] at h
            obtain ⟨rfl, rfl⟩ := h
            obtain ⟨g1, g2, g3⟩ := splitC_rel r hs h3
            have e : k = (bytesV l n).length + (k - l) := by omega
            refine ⟨?_, ?_, ?_⟩
            · rw [e, List.take_length_add_append]
              exact CRel.bytes_iff.2 ⟨_, rfl, hn, g1⟩
            · rw [e, List.drop_length_add_append]
              exact g2
            · rw [List.length_append, hl]
              have : Nat.sub k l = k - l := rfl
              omega
        | false =>
          rw [bif_false _ _ hlk] at h
          have hlt : k < l := by
            rcases Nat.lt_or_ge k l with h1 | h1
            · exact h1
            · rw [ble_true.2 h1] at hlk; cases hlk
          simp only [Option.some.injEq, Prod.mk.injEq] at h
          obtain ⟨rfl, rfl⟩ := h
          have e : bytesV l n = bytesV k (n % 2 ^ (8 * k)) ++ bytesV (l - k) (n >>> (8 * k)) := by
            unfold bytesV
            rw [unpack_split n k l (by omega), List.map_append]
          have hlk2 := bytesV_length k (n % 2 ^ (8 * k))
          refine ⟨?_, ?_, ?_⟩
          · rw [e, List.append_assoc, List.take_append_of_le_length (by omega), List.take_of_length_le (by omega)]
            exact CRel.bytes_iff.2 ⟨[], (List.append_nil _).symm, Nat.mod_lt _ (Nat.two_pow_pos _), CRel.nil⟩
          · rw [e, List.append_assoc, List.drop_append_of_le_length (by omega), List.drop_of_length_le (by omega), List.nil_append]
            exact CRel.bytes_iff.2 ⟨vs', rfl, shr_lt l k n (by omega) hn, h3⟩
          · rw [List.length_append]
            omega
      | none =>
        simp only [ha] at h
        obtain ⟨v, vs', rfl, h1, h2, h3⟩ := (CRel.one_iff ha).1 hr
        cases hs : splitC r (Nat.sub k 1) with
        | none => rw [hs] at h; cases h
        | some q =>
          obtain ⟨x', y'⟩ := q
          rw [hs] at h
          simp only [Option.some.injEq, Prod.mk.injEq] at h
          obtain ⟨rfl, rfl⟩ := h
          obtain ⟨g1, g2, g3⟩ := splitC_rel r hs h3
          have e : k = (k - 1) + 1 := by omega
          have e' : Nat.sub k 1 = k - 1 := rfl
          refine ⟨?_, ?_, ?_⟩
          · rw [e, List.take_succ_cons]
            exact (CRel.one_iff ha).2 ⟨v, _, rfl, h1, h2, g1⟩
          · rw [e, List.drop_succ_cons]
            exact g2
          · rw [List.length_cons]
            omega
theorem joinB_rel {l n : Nat} {us vs : List Value} {y : List AV} (hu : us = bytesV l n) (hn : n < 2 ^ (8 * l)) (hy : CRel ρ y vs) : CRel ρ (joinB l n y) (us ++ vs) := by
  subst hu
  cases y with
  | nil =>
    rw [CRel.nil_iff.1 hy]
    exact CRel.bytes_iff.2 ⟨[], rfl, hn, CRel.nil⟩
  | cons b r =>
    cases hb : isB b with
    | none =>
      simp only [joinB, hb]
      exact CRel.bytes_iff.2 ⟨vs, rfl, hn, hy⟩
    | some p =>
      obtain ⟨l2, n2⟩ := p
      obtain rfl := isB_some hb
      obtain ⟨vs', rfl, hn2, h3⟩ := CRel.bytes_iff.1 hy
      simp only [joinB, hb, forceN_eq]
      refine CRel.bytes_iff.2 ⟨vs', ?_, join_lt l l2 n n2 hn hn2, h3⟩
      rw [← List.append_assoc]
      congr 1
      unfold bytesV
      rw [← List.map_append]
      exact congrArg _ (unpack_join l l2 n n2 hn).symm
theorem joinC_rel : ∀ (x : List AV) {y : List AV} {us vs : List Value}, CRel ρ x us → CRel ρ y vs → CRel ρ (joinC x y) (us ++ vs)
  | [], y, us, vs, h, h' => by rw [CRel.nil_iff.1 h]; exact h'
  | [a], y, us, vs, h, h' => by
    unfold joinC
    cases ha : isB a with
    | some p =>
      obtain ⟨l, n⟩ := p
      obtain rfl := isB_some ha
      obtain ⟨vs', rfl, hn, h3⟩ := CRel.bytes_iff.1 h
      rw [CRel.nil_iff.1 h3, List.append_nil]
      exact joinB_rel rfl hn h'
    | none =>
      obtain ⟨v, vs', rfl, h1, h2, h3⟩ := (CRel.one_iff ha).1 h
      rw [CRel.nil_iff.1 h3]
      exact (CRel.one_iff ha).2 ⟨v, vs, rfl, h1, h2, h'⟩
  | a :: b :: r, y, us, vs, h, h' => by
    unfold joinC
    obtain ⟨u, us', rfl, h2, h3⟩ := CRel.cons_iff.1 h
    exact CRel.cons_iff.2 ⟨u, us' ++ vs, by rw [List.append_assoc], h2, joinC_rel (b :: r) h3 h'⟩
theorem loadC_rel {cs l : List AV} {off k : Nat} {vs : List Value} (h : loadC cs off k = some l) (hr : CRel ρ cs vs) : CRel ρ l ((vs.drop off).take k) ∧ off + k ≤ vs.length := by
  unfold loadC at h
  cases h1 : splitC cs off with
  | none => rw [h1] at h; cases h
  | some q =>
    obtain ⟨x, y⟩ := q
    rw [h1] at h
    simp only at h
    cases h2 : splitC y k with
    | none => rw [h2] at h; cases h
    | some q2 =>
      obtain ⟨z, t⟩ := q2
      rw [h2] at h
      simp only [Option.some.injEq] at h
      subst h
      obtain ⟨_, g2, g3⟩ := splitC_rel cs h1 hr
      obtain ⟨f1, _, f3⟩ := splitC_rel y h2 g2
      rw [List.length_drop] at f3
      exact ⟨f1, by omega⟩
theorem storeC_rel {cs new cs' : List AV} {off k : Nat} {vs us : List Value} (h : storeC cs off k new = some cs') (hr : CRel ρ cs vs) (hn : CRel ρ new us) : CRel ρ cs' (vs.take off ++ (us ++ vs.drop (off + k))) ∧ off + k ≤ vs.length := by
  unfold storeC at h
  cases h1 : splitC cs off with
  | none => rw [h1] at h; cases h
  | some q =>
    obtain ⟨x, y⟩ := q
    rw [h1] at h
    simp only at h
    cases h2 : splitC y k with
    | none => rw [h2] at h; cases h
    | some q2 =>
      obtain ⟨z, t⟩ := q2
      rw [h2] at h
      simp only [Option.some.injEq] at h
      subst h
      obtain ⟨g1, g2, g3⟩ := splitC_rel cs h1 hr
      obtain ⟨_, f2, f3⟩ := splitC_rel y h2 g2
      rw [List.length_drop] at f3
      rw [List.drop_drop] at f2
      exact ⟨joinC_rel x g1 (joinC_rel new hn f2), by omega⟩
theorem byteOf_some {n : Int} {b : Nat} (h : byteOf n = some b) : n = (b : Int) ∧ b ≤ 255 := by
  unfold byteOf at h
  cases n with
  | ofNat m =>
    cases hm : Nat.ble m 255 with
    | true =>
      simp only [hm, cond_true, Option.some.injEq] at h
      subst h
      exact ⟨rfl, ble_true.1 hm⟩
    | false => simp [hm] at h
  | negSucc m => cases h
theorem isU8_true {k : IntKind} (h : isU8 k = true) : k = .u8 := by cases k <;> first | rfl | cases h
theorem bytesV_one (b : Nat) (h : b ≤ 255) : bytesV 1 b = [.int .u8 (b : Int)] := by
  have : (UInt8.ofNat b).toNat = b := by rw [UInt8.toNat_ofNat']; omega
  show [byteV (UInt8.ofNat (b % 256))] = _
  rw [Nat.mod_eq_of_lt (show b < 256 by omega)]
  unfold byteV
  rw [this]
theorem isOne_cells {a : AV} {v : Value} (h1 : isOne a = true) (h : VRel ρ a v) : v.cells = #[v] ∧ v.oneCell' = true := by
  cases a <;> simp only [isOne, Bool.false_eq_true] at h1 <;> simp only [VRel] at h
  case ptr => obtain ⟨p, _, rfl⟩ := h; exact ⟨rfl, rfl⟩
  case slice => obtain ⟨p, c, _, rfl, _⟩ := h; exact ⟨rfl, rfl⟩
  case empty => obtain ⟨a, c, rfl⟩ := h; exact ⟨rfl, rfl⟩
  case map => obtain ⟨p, _, rfl⟩ := h; exact ⟨rfl, rfl⟩
  case func => obtain ⟨x, y, rfl, _⟩ := h; exact ⟨rfl, rfl⟩
  case yield => obtain ⟨p, _, rfl⟩ := h; exact ⟨rfl, rfl⟩
  case iface => obtain ⟨u, rfl, _⟩ := h; exact ⟨rfl, rfl⟩
  all_goals (subst h; exact ⟨rfl, rfl⟩)
theorem cellsO_rel {a : AV} {v : Value} {cs : List AV} (h : cellsO a = some cs) (hv : VRel ρ a v) : CRel ρ cs v.cells.toList := by
  have one : ∀ {a : AV}, isB a = none → isOne a = true → VRel ρ a v → CRel ρ [a] v.cells.toList := by
    intro a hb h1 hv
    rw [(isOne_cells h1 hv).1]
    exact (CRel.one_iff hb).2 ⟨v, [], rfl, h1, hv, CRel.nil⟩
  cases a <;> simp only [cellsO, Option.some.injEq, reduceCtorEq] at h
  case int k n =>
    cases hk : isU8 k with
    | true =>
      rw [bif_true _ _ hk] at h
      cases hb : byteOf n with
      | none => rw [hb] at h; cases h
      | some b =>
        rw [hb] at h
        simp only [Option.some.injEq] at h
        subst h
        obtain ⟨rfl, hb2⟩ := byteOf_some hb
        obtain rfl := isU8_true hk
        have : v = .int .u8 (b : Int) := hv
        subst this
        exact CRel.bytes_iff.2 ⟨[], by rw [bytesV_one b hb2]; rfl, show b < 256 by omega, CRel.nil⟩
    | false =>
      rw [bif_false _ _ hk] at h
      simp only [Option.some.injEq] at h
      subst h
      exact one rfl rfl hv
  case agg =>
    subst h
    obtain ⟨x, rfl, h2⟩ := hv
    exact h2
  all_goals (subst h; exact one rfl rfl hv)
theorem oneA_rel {l : List AV} {a : AV} {vs : List Value} (h : oneA l = some a) (hr : CRel ρ l vs) : ∃ v, vs = [v] ∧ VRel ρ a v := by
  unfold oneA at h
  split at h
  · rename_i x
    cases hb : isB x with
    | some p =>
      obtain ⟨l, n⟩ := p
      obtain rfl := isB_some hb
      simp only [hb] at h
      cases hl : Nat.beq l 1 with
      | true =>
        rw [bif_true _ _ hl] at h
        obtain rfl := beq_true.1 hl
        simp only [Option.some.injEq] at h
        subst h
        obtain ⟨vs', rfl, hn, h3⟩ := CRel.bytes_iff.1 hr
        have hn' : n < 256 := hn
        rw [CRel.nil_iff.1 h3, List.append_nil, bytesV_one n (by omega)]
        exact ⟨_, rfl, rfl⟩
      | false => rw [bif_false _ _ hl] at h; cases h
    | none =>
      simp only [hb, Option.some.injEq] at h
      subst h
      obtain ⟨v, vs', rfl, _, h2, h3⟩ := (CRel.one_iff hb).1 hr
      rw [CRel.nil_iff.1 h3]
      exact ⟨v, rfl, h2⟩
  · cases h
end
end Go.Proofs.YtnanlaefehaifaaGreat.Vm
