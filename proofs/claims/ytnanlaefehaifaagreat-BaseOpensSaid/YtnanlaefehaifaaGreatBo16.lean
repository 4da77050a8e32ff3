/-
  Texts of this claim, joined: VA, VB.
-/
import Derived.Test.YtnanlaefehaifaaGreatBo01
set_option maxHeartbeats 6400000
set_option maxRecDepth 100000
namespace Go.Proofs.YtnanlaefehaifaaGreat.Vm
open Go
def forceN {α : Type} (x : Nat) (k : Nat → α) : α :=
  match x with
  | 0 => k 0
  | p + 1 => k (p + 1)
def forceI {α : Type} (x : Int) (k : Int → α) : α :=
  match x with
  | .ofNat m => forceN m fun m => k (.ofNat m)
  | .negSucc m => forceN m fun m => k (.negSucc m)
inductive AV where
  | int (k : IntKind) (n : Int)
  | bool (b : Bool)
  | str (s : ByteArray)
  | nilp
  | ptr (n off : Nat)
  | nilslice
  | slice (n off len : Nat) (cap : Option Nat) (es : Nat)
  | empty
  | nilmap
  | map (n : Nat)
  | nilfunc
  | func (fn : FuncId) (first cap : List AV)
  | yield (n : Nat)
  | niliface
  | iface (t : TypeId) (v : AV)
  | agg (cs : List AV)
  | tuple (vs : List AV)
  | bytes (len n : Nat)
  deriving Inhabited
inductive Tr (α : Type) where
  | nil
  | node (l : Tr α) (v : Option α) (r : Tr α)
namespace Tr
variable {α : Type}
noncomputable def get (t : Tr α) : Nat → Option α :=
  Tr.rec (motive := fun _ => Nat → Option α) (fun _ => none)
    (fun _ v _ gl gr n => Bool.rec (Bool.rec (gr (Nat.sub (Nat.div n 2) 1)) (gl (Nat.div n 2)) (Nat.beq (Nat.mod n 2) 1)) v (Nat.beq n 0)) t
noncomputable def put1 (f : Nat) : Nat → Option α → Tr α :=
  Nat.rec (motive := fun _ => Nat → Option α → Tr α) (fun _ _ => .nil)
    (fun _ ih n x => Bool.rec (Bool.rec (.node .nil none (ih (Nat.sub (Nat.div n 2) 1) x)) (.node (ih (Nat.div n 2) x) none .nil) (Nat.beq (Nat.mod n 2) 1)) (.node .nil x .nil) (Nat.beq n 0)) f
noncomputable def put (t : Tr α) : Nat → Option α → Tr α :=
  Tr.rec (motive := fun _ => Nat → Option α → Tr α) (fun n x => put1 (Nat.succ n) n x)
    (fun l v r pl pr n x => Bool.rec (Bool.rec (.node l v (pr (Nat.sub (Nat.div n 2) 1) x)) (.node (pl (Nat.div n 2) x) v r) (Nat.beq (Nat.mod n 2) 1)) (.node l x r) (Nat.beq n 0)) t
end Tr
inductive ADef where
  | fn (f : FuncId) (args cap : List AV)
  | mark (n : Nat)
inductive AObj where
  | row (elem : TypeId) (cs : List AV)
  | map (es : List (AV × AV × Nat)) (clock : Nat)
  | iter (m : Option Nat) (since : Nat) (seen : List Nat) (last : Nat)
  | loop (st : LoopState) (pend : Option Code) (t : Tr AV) (n : Nat) (params : List Tmp) (assign body : Code) (dn : Nat)
  | defs (ds : Option (List ADef))
abbrev TS := List (Nat × Nat)
def addT : TS → Nat → Nat → TS
  | [], c, b => [(c, b)]
  | x :: r, c, b =>
    match x with
    | (c', m) => bif Nat.beq c c' then forceN (Nat.lor m b) fun m => (c', m) :: r else (c', m) :: addT r c b
def TS.add (t : TS) (n : Nat) : TS := addT t (Nat.div n 256) (Nat.shiftLeft 1 (Nat.mod n 256))
def meets1 (c m : Nat) : TS → Bool
  | [] => false
  | x :: r =>
    match x with
    | (c', m') => bif Nat.beq c c' then !(Nat.beq (Nat.land m m') 0) || meets1 c m r else meets1 c m r
def meets : TS → TS → Bool
  | [], _ => false
  | x :: r, t =>
    match x with
    | (c, m) => meets1 c m t || meets r t
def TS.or : TS → TS → TS
  | [], t => t
  | x :: r, t =>
    match x with
    | (c, m) => addT (TS.or r t) c m
inductive St where
  | mk (h : Tr AObj) (c : Nat) (r w : TS)
def St.h : St → Tr AObj | .mk h _ _ _ => h
def St.c : St → Nat | .mk _ c _ _ => c
def St.r : St → TS | .mk _ _ r _ => r
def St.w : St → TS | .mk _ _ _ w => w
inductive Rs (α : Type) where
  | ok (a : α) (s : St)
  | err (m : String)
def M (α : Type) := St → Rs α
namespace M
variable {α β : Type}
def pure (a : α) : M α := fun s => .ok a s
def fail (m : String) : M α := fun _ => .err m
def bind (m : M α) (k : α → M β) : M β := fun s =>
  match m s with
  | .ok a s => k a s
  | .err e => .err e
def of (o : Option α) (m : String) : M α := fun s =>
  match o with
  | some a => .ok a s
  | none => .err m
end M
noncomputable def getM (n : Nat) : M AObj := fun s =>
  match s with
  | .mk h c r w => bif Nat.ble c n then .err "get: beyond" else
    match h.get n with
    | some o => .ok o (.mk h c (r.add n) w)
    | none => .err "get: nothing there"
noncomputable def setM (n : Nat) (o : Option AObj) : M Unit := fun s =>
  match s with
  | .mk h c r w => bif Nat.ble c n then .err "set: beyond" else .ok () (.mk (h.put n o) c r (w.add n))
noncomputable def newM (o : AObj) : M Nat := fun s =>
  match s with
  | .mk h c r w => forceN (Nat.succ c) fun c' => .ok c (.mk (h.put c (some o)) c' r (w.add c))
def touched {α : Type} (m : M α) : M (α × TS × TS) := fun s =>
  match s with
  | .mk h c r w =>
    match m (.mk h c [] []) with
    | .ok a s' =>
      match s' with
      | .mk h' c' r' w' => .ok (a, r', w') (.mk h' c' (TS.or r' r) (TS.or w' w))
    | .err e => .err e
def isB : AV → Option (Nat × Nat)
  | .bytes l n => some (l, n)
  | _ => none
def lenC : List AV → Nat
  | [] => 0
  | a :: r => (match isB a with | some (l, _) => l | none => 1) + lenC r
def splitC : List AV → Nat → Option (List AV × List AV)
  | [], k => bif Nat.beq k 0 then some ([], []) else none
  | a :: r, k =>
    bif Nat.beq k 0 then some ([], a :: r) else
    match isB a with
    | some (l, n) =>
      bif Nat.ble l k then
        match splitC r (Nat.sub k l) with
        | some (x, y) => some (a :: x, y)
        | none => none
      else some ([.bytes k (Nat.mod n (Nat.pow 2 (Nat.mul 8 k)))], .bytes (Nat.sub l k) (Nat.shiftRight n (Nat.mul 8 k)) :: r)
    | none =>
      match splitC r (Nat.sub k 1) with
      | some (x, y) => some (a :: x, y)
      | none => none
def joinB (l n : Nat) : List AV → List AV
  | [] => [.bytes l n]
  | b :: r =>
    match isB b with
    | some (l2, n2) => forceN (Nat.add l l2) fun l3 => forceN (Nat.add n (Nat.shiftLeft n2 (Nat.mul 8 l))) fun n3 => .bytes l3 n3 :: r
    | none => .bytes l n :: b :: r
def joinC : List AV → List AV → List AV
  | [], y => y
  | a :: r, y =>
    match r with
    | [] => match isB a with
      | some (l, n) => joinB l n y
      | none => a :: y
    | _ :: _ => a :: joinC r y
def byteOf : Int → Option Nat
  | .ofNat n => bif Nat.ble n 255 then some n else none
  | .negSucc _ => none
def isU8 : IntKind → Bool
  | .u8 => true
  | _ => false
def cellsO (v : AV) : Option (List AV) :=
  match v with
  | .agg cs => some cs
  | .int k n => bif isU8 k then (match byteOf n with | some b => some [.bytes 1 b] | none => none) else some [v]
  | .tuple _ => none
  | .bytes _ _ => none
  | _ => some [v]
def oneA : List AV → Option AV
  | [a] =>
    match isB a with
    | some (l, n) => bif Nat.beq l 1 then some (.int .u8 (.ofNat n)) else none
    | none => some a
  | _ => none
def loadC (cs : List AV) (off k : Nat) : Option (List AV) :=
  match splitC cs off with
  | some (_, y) =>
    match splitC y k with
    | some (z, _) => some z
    | none => none
  | none => none
def storeC (cs : List AV) (off k : Nat) (new : List AV) : Option (List AV) :=
  match splitC cs off with
  | some (x, y) =>
    match splitC y k with
    | some (_, z) => some (joinC x (joinC new z))
    | none => none
  | none => none
inductive TyD where
  | int (k : IntKind)
  | bool
  | str
  | ptr (elem : TypeId)
  | slice (elem : TypeId)
  | arr (len : Nat) (elem : TypeId)
  | struct (fields : List (Nat × TypeId))
  | map (key elem : TypeId)
  | fn
  | ifc
  | other
structure TyI where
  agg : Bool
  size : Nat
  bytes : Nat
  zero : AV
  zc : List AV
  desc : TyD
  flat : Bool
inductive AAct where
  | mk (t : Tr AV) (n : Nat) (d : List ADef)
def AAct.t : AAct → Tr AV | .mk t _ _ => t
def AAct.n : AAct → Nat | .mk _ n _ => n
def AAct.d : AAct → List ADef | .mk _ _ d => d
inductive AExit where
  | normal
  | exit (id : Nat)
  | ret
structure Env where
  ty : Tr TyI
  fn : Tr Func
  meth : List (TypeId × String × FuncId)
  orc : Tr (List AV → M AV)
  calm : List FuncId
def undefA : AV := .tuple []
def constA : Value → Option AV
  | .int k n => some (.int k n)
  | .bool b => some (.bool b)
  | .string s => some (.str s)
  | .pointer none => some .nilp
  | .slice none 0 0 => some .nilslice
  | .map none => some .nilmap
  | .nilFunc => some .nilfunc
  | .nilIface => some .niliface
  | _ => none
inductive Opd where
  | slot (t : Nat)
  | val (v : AV)
  | no
def opd : Operand → Opd
  | .tmp t => .slot t
  | .const v => match constA v with
    | some a => .val a
    | none => .no
  | .global _ => .no
  | .func f => .val (.func f [] [])
noncomputable def slotA (T : Tr AV) (t : Nat) : AV :=
  match T.get t with
  | some v => v
  | none => undefA
noncomputable def rd (T : Tr AV) (x : Opd) : M AV := fun s =>
  match x with
  | .slot t => .ok (slotA T t) s
  | .val v => .ok v s
  | .no => .err "operand"
def opds : List Operand → List Opd
  | [] => []
  | x :: r => opd x :: opds r
noncomputable def rds (T : Tr AV) : List Opd → M (List AV)
  | [] => M.pure []
  | x :: r => M.bind (rd T x) fun v => M.bind (rds T r) fun vs => M.pure (v :: vs)
end Go.Proofs.YtnanlaefehaifaaGreat.Vm
namespace Go.Proofs.YtnanlaefehaifaaGreat.Vm
open Go
noncomputable def withTy {α : Type} (E : Env) (t : TypeId) (k : TyI → M α) : M α := fun s =>
  match E.ty.get t with
  | some i => k i s
  | none => .err "type"
noncomputable def addrA : AV → Option (Nat × Nat)
  | .ptr n o => some (n, o)
  | _ => none
noncomputable def rowO : AObj → Option (TypeId × List AV)
  | .row e cs => some (e, cs)
  | _ => none
noncomputable def rowM (n : Nat) : M (TypeId × List AV) := M.bind (getM n) fun o => M.of (rowO o) "row expected"
noncomputable def partA (agg : Bool) (l : List AV) : M AV := fun s =>
  match agg with
  | true => .ok (.agg l) s
  | false => M.of (oneA l) "one" s
noncomputable def loadI (agg : Bool) (size : Nat) (a : AV) : M AV := M.bind (M.of (addrA a) "load: address") fun p =>
  M.bind (rowM p.1) fun q => M.bind (M.of (loadC q.2 p.2 size) "load: cells") fun l => partA agg l
noncomputable def loadM (i : TyI) (a : AV) : M AV := loadI i.agg i.size a
noncomputable def storeM (i : TyI) (a v : AV) : M Unit := M.bind (M.of (addrA a) "store: address") fun p =>
  M.bind (rowM p.1) fun q => M.bind (M.of (cellsO v) "store: value") fun new =>
  bif Nat.beq (lenC new) i.size then M.bind (M.of (storeC q.2 p.2 i.size new) "store: cells") fun cs => setM p.1 (some (.row q.1 cs)) else M.fail "store: size"
noncomputable def fillA (place : Nat → Option (Nat × Nat)) (cs : List AV) : List (Nat × AV) → Option (List AV)
  | [] => some cs
  | x :: r =>
    match place x.1 with
    | none => none
    | some p =>
      match cellsO x.2 with
      | none => none
      | some new =>
        bif Nat.beq (lenC new) p.2 then
          match storeC cs p.1 p.2 new with
          | some cs' => fillA place cs' r
          | none => none
        else none
noncomputable def opdsP : List (Nat × Operand) → List (Nat × Opd)
  | [] => []
  | x :: r => (x.1, opd x.2) :: opdsP r
noncomputable def rdsP (T : Tr AV) : List (Nat × Opd) → M (List (Nat × AV))
  | [] => M.pure []
  | x :: r => M.bind (rd T x.2) fun v => M.bind (rdsP T r) fun vs => M.pure ((x.1, v) :: vs)
noncomputable def placeS (E : Env) (fs : List (Nat × TypeId)) (i : Nat) : Option (Nat × Nat) :=
  match fs[i]? with
  | some p => match E.ty.get p.2 with
    | some j => some (p.1, j.size)
    | none => none
  | none => none
noncomputable def placeA (size : Nat) (i : Nat) : Option (Nat × Nat) := some (Nat.mul i size, size)
noncomputable def fieldsD : TyD → Option (List (Nat × TypeId))
  | .struct fs => some fs
  | _ => none
noncomputable def arrD : TyD → Option (Nat × TypeId)
  | .arr n e => some (n, e)
  | _ => none
noncomputable def sliceD : TyD → Option TypeId
  | .slice e => some e
  | _ => none
noncomputable def mapD : TyD → Option (TypeId × TypeId)
  | .map k e => some (k, e)
  | _ => none
noncomputable def intD : TyD → Option IntKind
  | .int k => some k
  | _ => none
noncomputable def strD : TyD → Bool
  | .str => true
  | _ => false
noncomputable def buildM (E : Env) (i : TyI) (parts : List (Nat × AV)) : M AV :=
  match fieldsD i.desc with
  | some fs => M.bind (M.of (fillA (placeS E fs) i.zc parts) "build") fun cs => M.pure (.agg cs)
  | none => match arrD i.desc with
    | some p => withTy E p.2 fun j => M.bind (M.of (fillA (placeA j.size) i.zc parts) "build") fun cs => M.pure (.agg cs)
    | none => M.fail "build: type"
noncomputable def zerosA (z : List AV) : Nat → List AV
  | 0 => []
  | n + 1 => joinC z (zerosA z n)
noncomputable def buildSliceM (E : Env) (i : TyI) (len : Nat) (parts : List (Nat × AV)) : M AV :=
  match sliceD i.desc with
  | some e => withTy E e fun j =>
    bif Nat.ble (Nat.mul len j.size) 100000 && !(Nat.beq j.size 0) then
      M.bind (M.of (fillA (placeA j.size) (zerosA j.zc len) parts) "buildSlice") fun cs =>
      M.bind (newM (.row e cs)) fun n => M.pure (.slice n 0 len (some len) j.size)
    else M.fail "buildSlice: size"
  | none => M.fail "buildSlice: type"
noncomputable def mkInt (k : IntKind) (n : Int) : AV := forceI n fun n => .int k n
noncomputable def wrapF (k : IntKind) (n : Int) : AV := mkInt k (k.wrap n)
noncomputable def isConst : Operand → Bool
  | .const _ => true
  | _ => false
noncomputable def intA : AV → Option (IntKind × Int)
  | .int k n => some (k, n)
  | _ => none
noncomputable def boolA : AV → Option Bool
  | .bool b => some b
  | _ => none
noncomputable def strA : AV → Option ByteArray
  | .str s => some s
  | _ => none
noncomputable def natOf : Int → Option Nat
  | .ofNat n => some n
  | .negSucc _ => none
noncomputable def natA (v : AV) : Option Nat :=
  match intA v with
  | some p => natOf p.2
  | none => none
noncomputable def nilP : AV → Option Bool
  | .nilp => some true
  | .ptr _ _ => some false
  | _ => none
noncomputable def nilS : AV → Option Bool
  | .nilslice => some true
  | .slice _ _ _ _ _ => some false
  | .empty => some false
  | _ => none
noncomputable def nilM : AV → Option Bool
  | .nilmap => some true
  | .map _ => some false
  | _ => none
noncomputable def nilF : AV → Option Bool
  | .nilfunc => some true
  | .func _ _ _ => some false
  | .yield _ => some false
  | _ => none
noncomputable def nilI : AV → Option Bool
  | .niliface => some true
  | .iface _ _ => some false
  | _ => none
noncomputable def liveA : AV → Bool
  | .ptr _ _ => true
  | .map _ => true
  | .func _ _ _ => true
  | .yield _ => true
  | .iface _ _ => true
  | _ => false
noncomputable def aggA : AV → Option (List AV)
  | .agg cs => some cs
  | _ => none
noncomputable def eqLB : List AV → List AV → Option Bool
  | [], [] => some true
  | a :: x, b :: y =>
    match isB a, isB b with
    | some p, some q => bif Nat.beq p.1 q.1 then (match eqLB x y with | some r => some (Nat.beq p.2 q.2 && r) | none => none) else none
    | _, _ => none
  | _, _ => none
noncomputable def eqLI : List AV → List AV → Option Bool
  | [], [] => some true
  | a :: x, b :: y =>
    match intA a, intA b with
    | some p, some q => if p.1 = q.1 then (match eqLI x y with | some r => some (p.2 == q.2 && r) | none => none) else none
    | _, _ => none
  | _, _ => none
noncomputable def isArrD : TyD → Bool
  | .arr _ _ => true
  | _ => false
noncomputable def eqFlat (arr : Bool) : List AV → List AV → Option Bool :=
  match arr with
  | true => eqLB
  | false => eqLI
noncomputable def kindsD : TyD → Nat
  | .int _ => 0
  | .bool => 6
  | .str => 0
  | .ptr _ => 1
  | .struct _ => 3
  | .arr _ _ => 3
  | .slice _ => 2
  | .map _ _ => 2
  | .fn => 2
  | .ifc => 4
  | .other => 5
noncomputable def keyD : TyD → Bool
  | .int _ => true
  | .bool => true
  | .str => true
  | _ => false
noncomputable def concreteD : TyD → Bool
  | .ifc => false
  | .other => false
  | _ => true
noncomputable def eqNil (f : AV → Option Bool) (x y : AV) : M Bool := fun s =>
  match f x, f y with
  | some true, some b => .ok b s
  | some false, some true => .ok false s
  | _, _ => .err "eq: forms"
noncomputable def ptrD : TyD → Option TypeId
  | .ptr e => some e
  | _ => none
noncomputable def eqP (E : Env) (d : TyD) (x y : AV) : M Bool := fun s =>
  match addrA x, addrA y with
  | some p, some q => (M.bind (M.of (ptrD d) "eq: pointer") fun e => withTy E e fun j => bif Nat.beq j.size 0 then M.fail "eq: no cells" else
    M.bind (rowM p.1) fun _ => M.bind (rowM q.1) fun _ => M.pure (Nat.beq p.1 q.1 && Nat.beq p.2 q.2)) s
  | _, _ => eqNil nilP x y s
noncomputable def eqRef (d : TyD) : AV → AV → M Bool :=
  match d with
  | .slice _ => eqNil nilS
  | .map _ _ => eqNil nilM
  | .fn => eqNil nilF
  | _ => fun _ _ => M.fail "eq: type"
noncomputable def eqIS (a b : AV) : Option Bool :=
  match intA a, intA b with
  | some p, some q => if p.1 = q.1 then some (p.2 == q.2) else none
  | _, _ =>
    match strA a, strA b with
    | some p, some q => some (p == q)
    | _, _ => none
noncomputable def eqAgg (i : TyI) (x y : AV) : M Bool := fun s =>
  match aggA x, aggA y with
  | some a, some b => bif i.flat && Nat.beq (lenC a) i.size then M.of (eqFlat (isArrD i.desc) a b) "eq: parts" s else .err "eq: struct"
  | _, _ => .err "eq: struct"
noncomputable def eqB (a b : AV) : Option Bool :=
  match boolA a, boolA b with
  | some p, some q => some (p == q)
  | _, _ => none
noncomputable def eqT (E : Env) (i : TyI) (lit : Bool) (x y : AV) : M Bool :=
  match kindsD i.desc with
  | 0 => M.of (eqIS x y) "eq: scalars"
  | 1 => eqP E i.desc x y
  | 2 => eqRef i.desc x y
  | 3 => eqAgg i x y
  | 4 => bif lit then eqNil nilI x y else M.fail "eq: two values of an interface"
  | 6 => M.of (eqB x y) "eq: truth values"
  | _ => M.fail "eq: type"
noncomputable def int2 (f : IntKind → Int → Int → Option AV) (x y : AV) : M AV :=
  match intA x, intA y with
  | some p, some q => if p.1 = q.1 then M.of (f p.1 p.2 q.2) "binop" else M.fail "binop: kinds"
  | _, _ => M.fail "binop: ints"
noncomputable def sh2 (f : IntKind → Int → Nat → AV) (x y : AV) : M AV :=
  match intA x, natA y with
  | some p, some n => M.pure (f p.1 p.2 (min n p.1.bits))
  | _, _ => M.fail "shift"
noncomputable def cmp2 (f : Int → Int → Bool) (g : ByteArray → ByteArray → Bool) (x y : AV) : M AV := fun s =>
  match intA x, intA y with
  | some p, some q => if p.1 = q.1 then .ok (.bool (f p.2 q.2)) s else .err "binop: kinds"
  | _, _ =>
    match strA x, strA y with
    | some a, some b => .ok (.bool (g a b)) s
    | _, _ => .err "compare"
noncomputable def ltS (a b : ByteArray) : Bool := Op.bytesLess a.toList b.toList
noncomputable def leS (a b : ByteArray) : Bool := Op.bytesLess a.toList b.toList || a.toList == b.toList
noncomputable def addA (x y : AV) : M AV := fun s =>
  match strA x, strA y with
  | some a, some b => bif Nat.ble (Nat.add a.data.size b.data.size) 1000000 then .ok (.str (a ++ b)) s else .err "string: great"
  | _, _ => int2 (fun k a b => some (wrapF k (a + b))) x y s
noncomputable def bitsA (f : (n : Nat) → BitVec n → BitVec n → BitVec n) (k : IntKind) (a b : Int) : Option AV := some (wrapF k (f k.bits (BitVec.ofInt k.bits a) (BitVec.ofInt k.bits b)).toNat)
noncomputable def binF (E : Env) (op : BinOp) (t : TypeId) (lit : Bool) : AV → AV → M AV :=
  match op with
  | .eql => fun x y => withTy E t fun i => M.bind (eqT E i lit x y) fun b => M.pure (.bool b)
  | .neq => fun x y => withTy E t fun i => M.bind (eqT E i lit x y) fun b => M.pure (.bool (!b))
  | .shl => sh2 fun k a n => wrapF k (a * 2 ^ n)
  | .shr => sh2 fun k a n => mkInt k (a.fdiv (2 ^ n))
  | .add => addA
  | .sub => int2 fun k a b => some (wrapF k (a - b))
  | .mul => int2 fun k a b => some (wrapF k (a * b))
  | .quo => int2 fun k a b => if b = 0 then none else some (wrapF k (a.tdiv b))
  | .rem => int2 fun k a b => if b = 0 then none else some (mkInt k (a.tmod b))
  | .and => int2 (bitsA fun _ a b => a &&& b)
  | .or => int2 (bitsA fun _ a b => a ||| b)
  | .xor => int2 (bitsA fun _ a b => a ^^^ b)
  | .andNot => int2 (bitsA fun _ a b => a &&& ~~~b)
  | .lss => cmp2 (fun a b => decide (a < b)) ltS
  | .leq => cmp2 (fun a b => decide (a ≤ b)) leS
  | .gtr => cmp2 (fun a b => decide (a > b)) (fun a b => !(leS a b))
  | .geq => cmp2 (fun a b => decide (a ≥ b)) (fun a b => !(ltS a b))
noncomputable def unF (op : UnOp) : AV → M AV :=
  match op with
  | .neg => fun x => M.bind (M.of (intA x) "unop") fun p => M.pure (wrapF p.1 (0 - p.2))
  | .xor => fun x => M.bind (M.of (intA x) "unop") fun p => M.of (bitsA (fun _ a b => a ^^^ b) p.1 (if p.1.signed then -1 else p.1.max) p.2) "unop"
  | .not => fun x => M.bind (M.of (boolA x) "unop") fun b => M.pure (.bool (!b))
  | .plus => fun _ => M.fail "unop"
noncomputable def unpack : Nat → Nat → List UInt8
  | 0, _ => []
  | l + 1, n => UInt8.ofNat (Nat.mod n 256) :: unpack l (Nat.div n 256)
noncomputable def pack : List UInt8 → Nat
  | [] => 0
  | b :: r => Nat.add b.toNat (Nat.mul 256 (pack r))
noncomputable def bytesOfC : List AV → Option (List UInt8)
  | [] => some []
  | a :: r =>
    match isB a with
    | some p => match bytesOfC r with
      | some x => some (unpack p.1 p.2 ++ x)
      | none => none
    | none => none
inductive SlV where
  | mk (n off len : Nat) (cap : Option Nat) (es : Nat)
inductive SlK where
  | nil
  | empty
  | some (v : SlV)
noncomputable def slA : AV → Option SlK
  | .nilslice => Option.some .nil
  | .empty => Option.some .empty
  | .slice n off len cap es => Option.some (.some (.mk n off len cap es))
  | _ => none
noncomputable def packS (s : ByteArray) : List AV :=
  match s.toList with
  | [] => []
  | b :: r => [.bytes (List.length (b :: r)) (pack (b :: r))]
noncomputable def cellsM (size : Nat) (x : AV) : M (List AV × Nat) :=
  match slA x with
  | some .nil => M.pure ([], 0)
  | some .empty => M.pure ([], 0)
  | some (.some (.mk n off len _ es)) => bif Nat.beq es size then M.bind (rowM n) fun q => M.bind (M.of (loadC q.2 off (Nat.mul len es)) "slice: cells") fun cs => M.pure (cs, len) else M.fail "slice: size"
  | none => bif Nat.beq size 1 then M.bind (M.of (strA x) "slice expected") fun s => M.pure (packS s, s.toList.length) else M.fail "slice: string"
noncomputable def convF (E : Env) (src dst : TypeId) : AV → M AV := fun x => withTy E src fun i => withTy E dst fun j =>
  match intD j.desc with
  | some k => M.bind (M.of (intA x) "convert") fun p => M.pure (wrapF k p.2)
  | none =>
    bif strD j.desc then
      bif strD i.desc then M.bind (M.of (strA x) "convert") fun s => M.pure (.str s) else
      match sliceD i.desc with
      | some e => withTy E e fun q =>
        match intD q.desc, slA x with
        | some .u8, some _ => M.bind (cellsM 1 x) fun cs => M.bind (M.of (bytesOfC cs.1) "convert: bytes") fun l => M.pure (.str ⟨l.toArray⟩)
        | _, _ => M.fail "convert"
      | none => M.fail "convert"
    else M.fail "convert"
noncomputable def makeSliceM (E : Env) (i : TyI) (l c : AV) : M AV :=
  match sliceD i.desc with
  | some e => withTy E e fun j => M.bind (M.of (natA l) "makeSlice") fun l => M.bind (M.of (natA c) "makeSlice") fun c =>
    bif Nat.ble l c && Nat.ble c 100000 && Nat.ble (Nat.mul j.bytes c) 100000000 && !(Nat.beq j.size 0) then
      M.bind (newM (.row e (zerosA j.zc c))) fun n => M.pure (.slice n 0 l (some c) j.size)
    else M.fail "makeSlice: size"
  | none => M.fail "makeSlice: type"
noncomputable def fieldAddrM (E : Env) (i : TyI) (f : Nat) (x : AV) : M AV :=
  match fieldsD i.desc with
  | some fs => match fs[f]? with
    | some q => withTy E q.2 fun j => bif Nat.beq j.size 0 then M.fail "fieldAddr: no cells" else M.bind (M.of (addrA x) "fieldAddr") fun p => M.pure (forceN (Nat.add p.2 q.1) fun o => .ptr p.1 o)
    | none => M.fail "fieldAddr"
  | none => M.fail "fieldAddr: type"
noncomputable def fieldM (E : Env) (i : TyI) (f : Nat) (x : AV) : M AV :=
  match fieldsD i.desc with
  | some fs => match fs[f]? with
    | some q => withTy E q.2 fun j => M.bind (M.of (aggA x) "field") fun cs => M.bind (M.of (loadC cs q.1 j.size) "field") fun l => partA j.agg l
    | none => M.fail "field"
  | none => M.fail "field: type"
noncomputable def indexAddrM (E : Env) (i : TyI) (x ix : AV) : M AV := M.bind (M.of (natA ix) "index") fun k =>
  match sliceD i.desc with
  | some e => withTy E e fun j =>
    match slA x with
    | some (.some (.mk n off len _ es)) => bif Nat.blt k len && Nat.beq j.size es then M.pure (forceN (Nat.add off (Nat.mul k es)) fun o => .ptr n o) else M.fail "index: out of range"
    | _ => M.fail "index: slice"
  | none => match arrD i.desc with
    | some q => withTy E q.2 fun j => M.bind (M.of (addrA x) "index") fun p =>
      bif Nat.blt k q.1 then M.pure (forceN (Nat.add p.2 (Nat.mul k j.size)) fun o => .ptr p.1 o) else M.fail "index: out of range"
    | none => M.fail "index: type"
noncomputable def indexM (E : Env) (i : TyI) (x ix : AV) : M AV := M.bind (M.of (natA ix) "index") fun k =>
  match arrD i.desc with
  | some q => withTy E q.2 fun j => M.bind (M.of (aggA x) "index") fun cs =>
    bif Nat.blt k q.1 then M.bind (M.of (loadC cs (Nat.mul k j.size) j.size) "index") fun l => partA j.agg l else M.fail "index: out of range"
  | none => bif strD i.desc then M.bind (M.of (strA x) "index") fun s =>
      match s.toList[k]? with
      | some b => M.pure (.int .u8 b.toNat)
      | none => M.fail "index: out of range"
    else M.fail "index: type"
noncomputable def bound1 (v : Option AV) (d most : Nat) : Option Nat :=
  match v with
  | none => some d
  | some v => match natA v with
    | some n => bif Nat.ble n most then some n else none
    | none => none
noncomputable def boundsA (len cap : Nat) (lo hi mx : Option AV) : Option (Nat × Nat × Nat) :=
  bif mx.isSome && hi.isNone then none else
  match bound1 mx cap cap with
  | none => none
  | some m =>
    match bound1 hi len m with
    | none => none
    | some h =>
      match bound1 lo 0 h with
      | none => none
      | some l => bif Nat.ble h m && Nat.ble l h then some (l, h, m) else none
noncomputable def cutF (n off es : Nat) (l h m : Nat) : AV := .slice n (bif Nat.beq m l then off else Nat.add off (Nat.mul l es)) (Nat.sub h l) (some (Nat.sub m l)) es
noncomputable def sliceM (E : Env) (i : TyI) (x : AV) (lo hi mx : Option AV) : M AV :=
  match sliceD i.desc with
  | some e => withTy E e fun j =>
    match slA x with
    | some .nil => M.bind (M.of (boundsA 0 0 lo hi mx) "slice: bounds") fun _ => M.pure .nilslice
    | some (.some (.mk n off len (some c) es)) => bif Nat.beq es j.size then M.bind (M.of (boundsA len c lo hi mx) "slice: bounds") fun q => M.pure (cutF n off es q.1 q.2.1 q.2.2) else M.fail "slice: size"
    | some (.some (.mk n off len none es)) => M.bind (rowM n) fun r =>
      bif Nat.beq es 0 || !(Nat.beq es j.size) then M.fail "slice: size" else M.bind (M.of (boundsA len (Nat.div (Nat.sub (lenC r.2) off) es) lo hi mx) "slice: bounds") fun q =>
      match mx with
      | some _ => M.pure (cutF n off es q.1 q.2.1 q.2.2)
      | none => bif Nat.blt q.1 q.2.2 then M.pure (.slice n (Nat.add off (Nat.mul q.1 es)) (Nat.sub q.2.1 q.1) none es) else M.pure .empty
    | _ => M.fail "slice: form"
  | none => match arrD i.desc with
    | some p => withTy E p.2 fun j => M.bind (M.of (addrA x) "slice: array") fun a => M.bind (M.of (boundsA p.1 p.1 lo hi mx) "slice: bounds") fun q => M.pure (cutF a.1 a.2 j.size q.1 q.2.1 q.2.2)
    | none => bif strD i.desc then M.bind (M.of (strA x) "slice: string") fun s =>
        match mx with
        | some _ => M.fail "slice: string"
        | none => M.bind (M.of (boundsA s.toList.length s.toList.length lo hi none) "slice: bounds") fun q => M.pure (.str (s.extract q.1 q.2.1))
      else M.fail "slice: type"
abbrev Ent := AV × AV × Nat
noncomputable def sameI (a b : AV) : Option Bool :=
  match intA a, intA b with
  | some p, some q => if p.1 = q.1 then some (p.2 == q.2) else none
  | _, _ => none
noncomputable def sameS (a b : AV) : Option Bool :=
  match strA a, strA b with
  | some p, some q => some (p == q)
  | _, _ => none
noncomputable def sameB (a b : AV) : Option Bool :=
  match boolA a, boolA b with
  | some p, some q => some (p == q)
  | _, _ => none
abbrev KeyC := AV → AV → Option Bool
noncomputable def sameKey (d : TyD) : KeyC :=
  match d with
  | .int _ => sameI
  | .str => sameS
  | .bool => sameB
  | _ => fun _ _ => none
noncomputable def findE (f : KeyC) (k : AV) : List Ent → Nat → Option (Option (Nat × AV))
  | [], _ => some none
  | e :: r, i =>
    match f k e.1 with
    | some true => some (some (i, e.2.1))
    | some false => findE f k r (Nat.succ i)
    | none => none
noncomputable def putE (f : KeyC) (k v : AV) : List Ent → Nat → Option (List Ent × Nat)
  | [], c => some ([(k, v, c)], Nat.succ c)
  | e :: r, c =>
    match f k e.1 with
    | some true => some ((k, v, e.2.2) :: r, c)
    | some false => match putE f k v r c with
      | some q => some (e :: q.1, q.2)
      | none => none
    | none => none
noncomputable def delE (f : KeyC) (k : AV) : List Ent → Option (List Ent)
  | [] => some []
  | e :: r =>
    match f k e.1 with
    | some true => some r
    | some false => match delE f k r with
      | some r' => some (e :: r')
      | none => none
    | none => none
noncomputable def mapA : AV → Option (Option Nat)
  | .nilmap => some none
  | .map n => some (some n)
  | _ => none
noncomputable def mapO : AObj → Option (List Ent × Nat)
  | .map es c => some (es, c)
  | _ => none
noncomputable def mapM (n : Nat) : M (List Ent × Nat) := M.bind (getM n) fun o => M.of (mapO o) "map expected"
noncomputable def withKey {α : Type} (E : Env) (t : TypeId) (f : KeyC → M α) : M α := withTy E t fun i => bif keyD i.desc then f (sameKey i.desc) else M.fail "map: key"
noncomputable def lookDone (ok : Bool) (z : AV) (r : Option (Nat × AV)) : M AV :=
  match r with
  | some p => M.pure (bif ok then .tuple [p.2, .bool true] else p.2)
  | none => M.pure (bif ok then .tuple [z, .bool false] else z)
noncomputable def lookupM (E : Env) (i : TyI) (ok : Bool) (x k : AV) : M AV :=
  match mapD i.desc with
  | some p => withKey E p.1 fun f => withTy E p.2 fun j => M.bind (M.of (mapA x) "lookup: map") fun m =>
    match m with
    | none => lookDone ok j.zero none
    | some n => M.bind (mapM n) fun q => M.bind (M.of (findE f k q.1 0) "lookup: key") fun r => lookDone ok j.zero r
  | none => M.fail "lookup: type"
noncomputable def updateM (E : Env) (i : TyI) (x k v : AV) : M Unit :=
  match mapD i.desc with
  | some p => withKey E p.1 fun f => M.bind (M.of (mapA x) "update: map") fun m => M.bind (M.of m "update: nil") fun n =>
    M.bind (mapM n) fun q => M.bind (M.of (putE f k v q.1 q.2) "update: key") fun r => setM n (some (.map r.1 r.2))
  | none => M.fail "update: type"
noncomputable def deleteM (E : Env) (i : TyI) (x k : AV) : M AV :=
  match mapD i.desc with
  | some p => withKey E p.1 fun f => M.bind (M.of (mapA x) "delete: map") fun m =>
    match m with
    | none => M.pure undefA
    | some n => M.bind (mapM n) fun q => M.bind (M.of (delE f k q.1) "delete: key") fun es => M.bind (setM n (some (.map es q.2))) fun _ => M.pure undefA
  | none => M.fail "delete: type"
noncomputable def rangeM (i : TyI) (x : AV) : M AV :=
  match mapD i.desc with
  | some _ => M.bind (M.of (mapA x) "range: map") fun m =>
    match m with
    | none => M.bind (newM (.iter none 0 [] 0)) fun n => M.pure (.ptr n 0)
    | some m => M.bind (mapM m) fun q => M.bind (newM (.iter (some m) q.2 [] q.2)) fun n => M.pure (.ptr n 0)
  | none => M.fail "range: type"
noncomputable def iterO : AObj → Option (Option Nat × Nat × List Nat × Nat)
  | .iter m since seen last => some (m, since, seen, last)
  | _ => none
noncomputable def seenB (b : Nat) : List Nat → Bool
  | [] => false
  | x :: r => Nat.beq b x || seenB b r
noncomputable def next1 (n m since : Nat) (seen : List Nat) (last c : Nat) : List Ent → M AV
  | [] => M.pure (.tuple [.bool false])
  | [e] =>
    bif seenB e.2.2 seen then (bif Nat.blt e.2.2 last then M.pure (.tuple [.bool false]) else M.fail "next: clock") else
    match seen with
    | [] => bif Nat.blt e.2.2 since then M.bind (setM n (some (.iter (some m) since [e.2.2] c))) fun _ => M.pure (.tuple [.bool true, e.1, e.2.1]) else M.fail "next: new entry"
    | _ :: _ => M.fail "next: new entry"
  | _ => M.fail "next: many"
noncomputable def nextM (it : AV) : M AV := M.bind (M.of (addrA it) "next") fun p => bif !(Nat.beq p.2 0) then M.fail "next: where" else M.bind (getM p.1) fun o => M.bind (M.of (iterO o) "next: iterator") fun q =>
  match q.1 with
  | none => M.pure (.tuple [.bool false])
  | some m => M.bind (mapM m) fun r => next1 p.1 m q.2.1 q.2.2.1 q.2.2.2 r.2 r.1
noncomputable def findB (b : Nat) : List Ent → Option Ent
  | [] => none
  | e :: r => bif Nat.beq e.2.2 b then some e else findB b r
noncomputable def entryM (it : AV) : M AV := M.bind (M.of (addrA it) "entry") fun p => bif !(Nat.beq p.2 0) then M.fail "entry: where" else M.bind (getM p.1) fun o => M.bind (M.of (iterO o) "entry: iterator") fun q =>
  M.bind (M.of q.1 "entry: nil") fun m => M.bind (mapM m) fun r =>
  bif Nat.beq r.2 q.2.2.2 then M.bind (M.of q.2.2.1.getLast? "entry: no step") fun b => M.bind (M.of (findB b r.1) "entry: gone") fun e => M.pure (.tuple [e.1, e.2.1]) else M.fail "entry: clock"
noncomputable def seqD : TyD → Bool
  | .slice _ => true
  | .str => true
  | _ => false
noncomputable def roomB (cap : Option Nat) (need off es : Nat) (cs : List AV) : Bool :=
  match cap with
  | some c => Nat.ble need c
  | none => Nat.ble (Nat.add off (Nat.mul need es)) (lenC cs)
noncomputable def appS (e : TypeId) (size bytes : Nat) (s : SlV) (new : List AV) (k : Nat) : M AV :=
  match s with
  | .mk n off len cap es => M.bind (rowM n) fun q =>
    bif Nat.beq es 0 || !(Nat.beq es size) then M.fail "append: size" else
    bif roomB cap (Nat.add len k) off es q.2 then
      M.bind (M.of (storeC q.2 (Nat.add off (Nat.mul len es)) (Nat.mul k es) new) "append: place") fun cs => M.bind (setM n (some (.row q.1 cs))) fun _ => M.pure (.slice n off (Nat.add len k) cap es)
    else
      bif Nat.ble (Nat.mul (Nat.add len k) bytes) 100000000 && Nat.ble (Nat.add len k) 100000000 then
        M.bind (M.of (loadC q.2 off (Nat.mul len es)) "append: old") fun old =>
        M.bind (match cap with | some _ => M.pure () | none => bif Nat.beq q.1 e then setM n none else M.fail "append: type") fun _ =>
        M.bind (newM (.row e (joinC old new))) fun n' => M.pure (.slice n' 0 (Nat.add len k) none es)
      else M.fail "append: great"
noncomputable def appM (e : TypeId) (j : TyI) (s : AV) (new : List AV) (k : Nat) : M AV :=
  match slA s with
  | some .nil => bif Nat.beq k 0 then M.pure .nilslice else
    bif Nat.ble (Nat.mul k j.bytes) 100000000 && Nat.ble k 100000000 then M.bind (newM (.row e new)) fun n => M.pure (.slice n 0 k none j.size) else M.fail "append: great"
  | some (.some v) => bif Nat.beq k 0 then M.pure s else appS e j.size j.bytes v new k
  | _ => M.fail "append: slice"
noncomputable def appendF (E : Env) (t u : TypeId) (s x : AV) : M AV := withTy E t fun i =>
  match sliceD i.desc with
  | some e => withTy E e fun j => withTy E u fun xi =>
    bif Nat.beq j.size 0 then M.fail "append: size" else
    match intD xi.desc with
    | some _ => M.bind (M.of (natA x) "append: zeros") fun n => bif Nat.ble n 100000 && Nat.ble (Nat.mul n j.bytes) 100000000 then appM e j s (zerosA j.zc n) n else M.fail "append: many"
    | none => bif seqD xi.desc then M.bind (cellsM j.size x) fun q => appM e j s q.1 q.2 else M.fail "append: what"
  | none => M.fail "append: type"
noncomputable def mkNat (n : Nat) : AV := forceN n fun n => .int .i64 (.ofNat n)
noncomputable def lenS : SlK → Nat
  | .some (.mk _ _ n _ _) => n
  | _ => 0
noncomputable def lenF (E : Env) (t : TypeId) (x : AV) : M AV := withTy E t fun i =>
  match arrD i.desc with
  | some q => M.pure (mkNat q.1)
  | none => match sliceD i.desc with
    | some _ => M.bind (M.of (slA x) "len") fun k => M.pure (mkNat (lenS k))
    | none => match mapD i.desc with
      | some _ => M.bind (M.of (mapA x) "len") fun m =>
        match m with
        | none => M.pure (mkNat 0)
        | some m => M.bind (mapM m) fun q => M.pure (mkNat q.1.length)
      | none => bif strD i.desc then M.bind (M.of (strA x) "len") fun s => M.pure (mkNat s.toList.length) else M.fail "len"
noncomputable def copyF (E : Env) (t : TypeId) (d x : AV) : M AV := withTy E t fun i =>
  match sliceD i.desc with
  | some e => withTy E e fun j => M.bind (cellsM j.size x) fun r =>
    match slA d with
    | some (.some (.mk n off len _ es)) => bif !(Nat.beq es j.size) then M.fail "copy: size" else M.bind (rowM n) fun q => forceN (bif Nat.ble r.2 len then r.2 else len) fun m =>
      bif Nat.beq m 0 then M.pure (mkNat 0) else
      M.bind (M.of (loadC r.1 0 (Nat.mul m j.size)) "copy") fun new =>
      M.bind (M.of (storeC q.2 off (Nat.mul m es) new) "copy: place") fun cs => M.bind (setM n (some (.row q.1 cs))) fun _ => M.pure (mkNat m)
    | some _ => M.pure (mkNat 0)
    | none => M.fail "copy: where"
  | none => M.fail "copy: type"
noncomputable def clearF (E : Env) (t : TypeId) (x : AV) : M AV := withTy E t fun i =>
  match slA x with
  | some (.some (.mk n off len _ es)) =>
    match sliceD i.desc with
    | some e => withTy E e fun j => M.bind (rowM n) fun q =>
      bif Nat.beq len 0 then M.pure undefA else
      bif !(Nat.beq es j.size) then M.fail "clear: size" else
      M.bind (M.of (storeC q.2 off (Nat.mul len es) (zerosA j.zc len)) "clear") fun cs => M.bind (setM n (some (.row q.1 cs))) fun _ => M.pure undefA
    | none => M.fail "clear: type"
  | some _ => M.pure undefA
  | none => M.bind (M.of (mapA x) "clear") fun m =>
    match m with
    | none => M.pure undefA
    | some n => M.bind (mapM n) fun q => M.bind (setM n (some (.map [] q.2))) fun _ => M.pure undefA
noncomputable def capM (i : TyI) (x : AV) : M AV :=
  match sliceD i.desc with
  | none => M.fail "cap"
  | some _ => match slA x with
    | some .nil => M.pure (mkNat 0)
    | some (.some (.mk _ _ _ (some c) _)) => M.pure (mkNat c)
    | _ => M.fail "cap"
noncomputable def two (f : AV → AV → M AV) : List AV → M AV
  | [a, b] => f a b
  | _ => M.fail "arguments"
noncomputable def one (f : AV → M AV) : List AV → M AV
  | [a] => f a
  | _ => M.fail "arguments"
noncomputable def argT (ts : List TypeId) (i : Nat) (k : TypeId → List AV → M AV) : List AV → M AV :=
  match ts[i]? with
  | some t => k t
  | none => fun _ => M.fail "argument's type"
noncomputable def min2A (x y : AV) : M AV := int2 (fun k x y => some (.int k (if y < x then y else x))) x y
noncomputable def max2A (x y : AV) : M AV := int2 (fun k x y => some (.int k (if x < y then y else x))) x y
noncomputable def builtinF (E : Env) (b : Builtin) (ts : List TypeId) : List AV → M AV :=
  match b with
  | .append => argT ts 0 fun t => argT ts 1 fun u => two (appendF E t u)
  | .len => argT ts 0 fun t => one (lenF E t)
  | .copy => argT ts 0 fun t => two (copyF E t)
  | .clear => argT ts 0 fun t => one (clearF E t)
  | .delete => argT ts 0 fun t => two fun m k => withTy E t fun i => deleteM E i m k
  | .cap => argT ts 0 fun t => one fun x => withTy E t fun i => capM i x
  | .min => two min2A
  | .max => two max2A
  | _ => fun _ => M.fail "builtin"
end Go.Proofs.YtnanlaefehaifaaGreat.Vm
