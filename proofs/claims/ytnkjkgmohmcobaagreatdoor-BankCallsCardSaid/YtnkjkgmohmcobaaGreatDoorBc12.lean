/-
  Texts of this claim, joined: VB, VC, VD.
-/
import Derived.Test.YtnkjkgmohmcobaaGreatDoorBc11
set_option maxHeartbeats 6400000
set_option maxRecDepth 100000
namespace Go.Proofs.YtnkjkgmohmcobaaGreatDoor.Vm
open Go
noncomputable def withTy {α:Type} (E:Env) (t:TypeId) (k:TyI→M α):M α:=fun s=>
 match E.ty.get t with
 |some i=>k i s
 |none=> .err "type"
noncomputable def addrA:AV→Option (Nat × Nat)
 | .ptr n o=>some (n,o)
 |_=>none
noncomputable def rowO:AObj→Option (TypeId × List AV)
 | .row e cs=>some (e,cs)
 |_=>none
noncomputable def rowM (n:Nat):M (TypeId × List AV):=M.bind (getM n) fun o=>M.of (rowO o) "row expected"
noncomputable def partA (agg:Bool) (l:List AV):M AV:=fun s=>
 match agg with
 |true=> .ok (.agg l) s
 |false=>M.of (oneA l) "one" s
noncomputable def loadI (agg:Bool) (size:Nat) (a:AV):M AV:=M.bind (M.of (addrA a) "load: address") fun p=>
 M.bind (rowM p.1) fun q=>M.bind (M.of (loadC q.2 p.2 size) "load: cells") fun l=>partA agg l
noncomputable def loadM (i:TyI) (a:AV):M AV:=loadI i.agg i.size a
noncomputable def storeM (i:TyI) (a v:AV):M Unit:=M.bind (M.of (addrA a) "store: address") fun p=>
 M.bind (rowM p.1) fun q=>M.bind (M.of (cellsO v) "store: value") fun new=>
 bif Nat.beq (lenC new) i.size then M.bind (M.of (storeC q.2 p.2 i.size new) "store: cells") fun cs=>setM p.1 (some (.row q.1 cs)) else M.fail "store: size"
noncomputable def fillA (place:Nat→Option (Nat × Nat)) (cs:List AV):List (Nat × AV)→Option (List AV)
 |[]=>some cs
 |x::r=>
  match place x.1 with
  |none=>none
  |some p=>
   match cellsO x.2 with
   |none=>none
   |some new=>
    bif Nat.beq (lenC new) p.2 then
     match storeC cs p.1 p.2 new with
     |some cs'=>fillA place cs' r
     |none=>none
    else none
noncomputable def opdsP:List (Nat × Operand)→List (Nat × Opd)
 |[]=>[]
 |x::r=>(x.1,opd x.2)::opdsP r
noncomputable def rdsP (T:Tr AV):List (Nat × Opd)→M (List (Nat × AV))
 |[]=>M.pure []
 |x::r=>M.bind (rd T x.2) fun v=>M.bind (rdsP T r) fun vs=>M.pure ((x.1,v)::vs)
noncomputable def placeS (E:Env) (fs:List (Nat × TypeId)) (i:Nat):Option (Nat × Nat):=
 match fs[i]? with
 |some p=>match E.ty.get p.2 with
  |some j=>some (p.1,j.size)
  |none=>none
 |none=>none
noncomputable def placeA (size:Nat) (i:Nat):Option (Nat × Nat):=some (Nat.mul i size,size)
noncomputable def fieldsD:TyD→Option (List (Nat × TypeId))
 | .struct fs=>some fs
 |_=>none
noncomputable def arrD:TyD→Option (Nat × TypeId)
 | .arr n e=>some (n,e)
 |_=>none
noncomputable def sliceD:TyD→Option TypeId
 | .slice e=>some e
 |_=>none
noncomputable def mapD:TyD→Option (TypeId × TypeId)
 | .map k e=>some (k,e)
 |_=>none
noncomputable def intD:TyD→Option IntKind
 | .int k=>some k
 |_=>none
noncomputable def strD:TyD→Bool
 | .str=>true
 |_=>false
noncomputable def buildM (E:Env) (i:TyI) (parts:List (Nat × AV)):M AV:=
 match fieldsD i.desc with
 |some fs=>M.bind (M.of (fillA (placeS E fs) i.zc parts) "build") fun cs=>M.pure (.agg cs)
 |none=>match arrD i.desc with
  |some p=>withTy E p.2 fun j=>M.bind (M.of (fillA (placeA j.size) i.zc parts) "build") fun cs=>M.pure (.agg cs)
  |none=>M.fail "build: type"
noncomputable def zerosA (z:List AV):Nat→List AV
 |0=>[]
 |n+1=>joinC z (zerosA z n)
noncomputable def buildSliceM (E:Env) (i:TyI) (len:Nat) (parts:List (Nat × AV)):M AV:=
 match sliceD i.desc with
 |some e=>withTy E e fun j=>
  bif Nat.ble (Nat.mul len j.size) 100000&& !(Nat.beq j.size 0) then
   M.bind (M.of (fillA (placeA j.size) (zerosA j.zc len) parts) "buildSlice") fun cs=>
   M.bind (newM (.row e cs)) fun n=>M.pure (.slice n 0 len (some len) j.size)
  else M.fail "buildSlice: size"
 |none=>M.fail "buildSlice: type"
noncomputable def mkInt (k:IntKind) (n:Int):AV:=forceI n fun n=> .int k n
noncomputable def wrapF (k:IntKind) (n:Int):AV:=mkInt k (k.wrap n)
noncomputable def isConst:Operand→Bool
 | .const _=>true
 |_=>false
noncomputable def intA:AV→Option (IntKind × Int)
 | .int k n=>some (k,n)
 |_=>none
noncomputable def butA:AV→Option (IntKind × List Int)
 | .but k l=>some (k,l)
 |_=>none
def inI (n:Int):List Int→Bool
 |[]=>false
 |m::r=>(m==n) || inI n r
noncomputable def neI (a b:AV):Option Bool:=
 match butA a,intA b with
 |some p,some q=>if p.1=q.1 then (bif inI q.2 p.2 then some false else none) else none
 |_,_=>
  match intA a,butA b with
  |some p,some q=>if p.1=q.1 then (bif inI p.2 q.2 then some false else none) else none
  |_,_=>none
noncomputable def boolA:AV→Option Bool
 | .bool b=>some b
 |_=>none
noncomputable def strA:AV→Option ByteArray
 | .str s=>some s
 |_=>none
noncomputable def natOf:Int→Option Nat
 | .ofNat n=>some n
 | .negSucc _=>none
noncomputable def natA (v:AV):Option Nat:=
 match intA v with
 |some p=>natOf p.2
 |none=>none
noncomputable def nilP:AV→Option Bool
 | .nilp=>some true
 | .ptr _ _=>some false
 |_=>none
noncomputable def nilS:AV→Option Bool
 | .nilslice=>some true
 | .slice _ _ _ _ _=>some false
 | .empty=>some false
 |_=>none
noncomputable def nilM:AV→Option Bool
 | .nilmap=>some true
 | .map _=>some false
 |_=>none
noncomputable def nilF:AV→Option Bool
 | .nilfunc=>some true
 | .func _ _ _=>some false
 | .yield _=>some false
 |_=>none
noncomputable def nilI:AV→Option Bool
 | .niliface=>some true
 | .iface _ _=>some false
 |_=>none
noncomputable def liveA:AV→Bool
 | .ptr _ _=>true
 | .map _=>true
 | .func _ _ _=>true
 | .yield _=>true
 | .iface _ _=>true
 |_=>false
noncomputable def aggA:AV→Option (List AV)
 | .agg cs=>some cs
 |_=>none
noncomputable def eqLB:List AV→List AV→Option Bool
 |[],[]=>some true
 |a::x,b::y=>
  match isB a,isB b with
  |some p,some q=>bif Nat.beq p.1 q.1 then (match eqLB x y with|some r=>some (Nat.beq p.2 q.2&&r)|none=>none) else none
  |_,_=>none
 |_,_=>none
noncomputable def eqSc (a b:AV):Option Bool:=
 match intA a,intA b with
 |some p,some q=>if p.1=q.1 then some (p.2==q.2) else none
 |_,_=>
  match strA a,strA b with
  |some p,some q=>some (p==q)
  |_,_=>none
noncomputable def eqLI:List AV→List AV→Option Bool
 |[],[]=>some true
 |a::x,b::y=>
  match eqSc a b with
  |some c=>(match eqLI x y with|some r=>some (c&&r)|none=>none)
  |none=>none
 |_,_=>none
noncomputable def isArrD:TyD→Bool
 | .arr _ _=>true
 |_=>false
noncomputable def eqFlat (arr:Bool):List AV→List AV→Option Bool:=
 match arr with
 |true=>eqLB
 |false=>eqLI
noncomputable def shapeB (arr:Bool) (n:Nat) (zc a:List AV):Bool:=Nat.beq (lenC a) n&&(match eqFlat arr a zc with
 |some _=>true
 |none=>false)
noncomputable def kindsD:TyD→Nat
 | .int _=>0
 | .bool=>6
 | .str=>0
 | .ptr _=>1
 | .struct _=>3
 | .arr _ _=>3
 | .slice _=>2
 | .map _ _=>2
 | .fn=>2
 | .ifc=>4
 | .other=>5
noncomputable def keyD:TyD→Bool
 | .int _=>true
 | .bool=>true
 | .str=>true
 |_=>false
noncomputable def concreteD:TyD→Bool
 | .ifc=>false
 | .other=>false
 |_=>true
noncomputable def eqNil (f:AV→Option Bool) (x y:AV):M Bool:=fun s=>
 match f x,f y with
 |some true,some b=> .ok b s
 |some false,some true=> .ok false s
 |_,_=> .err "eq: forms"
noncomputable def ptrD:TyD→Option TypeId
 | .ptr e=>some e
 |_=>none
noncomputable def eqP (E:Env) (d:TyD) (x y:AV):M Bool:=fun s=>
 match addrA x,addrA y with
 |some p,some q=>(M.bind (M.of (ptrD d) "eq: pointer") fun e=>withTy E e fun j=>bif Nat.beq j.size 0 then M.fail "eq: no cells" else
  M.bind (rowM p.1) fun _=>M.bind (rowM q.1) fun _=>M.pure (Nat.beq p.1 q.1&&Nat.beq p.2 q.2)) s
 |_,_=>eqNil nilP x y s
noncomputable def eqRef (d:TyD):AV→AV→M Bool:=
 match d with
 | .slice _=>eqNil nilS
 | .map _ _=>eqNil nilM
 | .fn=>eqNil nilF
 |_=>fun _ _=>M.fail "eq: type"
noncomputable def eqIS (a b:AV):Option Bool:=
 match intA a,intA b with
 |some p,some q=>if p.1=q.1 then some (p.2==q.2) else none
 |_,_=>
  match strA a,strA b with
  |some p,some q=>some (p==q)
  |_,_=>neI a b
noncomputable def eqAgg (i:TyI) (x y:AV):M Bool:=fun s=>
 match aggA x,aggA y with
 |some a,some b=>bif i.flat&&shapeB (isArrD i.desc) i.size i.zc a then M.of (eqFlat (isArrD i.desc) a b) "eq: parts" s else .err "eq: struct"
 |_,_=> .err "eq: struct"
noncomputable def eqB (a b:AV):Option Bool:=
 match boolA a,boolA b with
 |some p,some q=>some (p==q)
 |_,_=>none
noncomputable def eqT (E:Env) (i:TyI) (lit:Bool) (x y:AV):M Bool:=
 match kindsD i.desc with
 |0=>M.of (eqIS x y) "eq: scalars"
 |1=>eqP E i.desc x y
 |2=>eqRef i.desc x y
 |3=>eqAgg i x y
 |4=>bif lit then eqNil nilI x y else M.fail "eq: two values of an interface"
 |6=>M.of (eqB x y) "eq: truth values"
 |_=>M.fail "eq: type"
noncomputable def int2 (f:IntKind→Int→Int→Option AV) (x y:AV):M AV:=
 match intA x,intA y with
 |some p,some q=>if p.1=q.1 then M.of (f p.1 p.2 q.2) "binop" else M.fail "binop: kinds"
 |_,_=>M.fail "binop: ints"
noncomputable def sh2 (f:IntKind→Int→Nat→AV) (x y:AV):M AV:=
 match intA x,natA y with
 |some p,some n=>M.pure (f p.1 p.2 (min n p.1.bits))
 |_,_=>M.fail "shift"
noncomputable def cmp2 (f:Int→Int→Bool) (g:ByteArray→ByteArray→Bool) (x y:AV):M AV:=fun s=>
 match intA x,intA y with
 |some p,some q=>if p.1=q.1 then .ok (.bool (f p.2 q.2)) s else .err "binop: kinds"
 |_,_=>
  match strA x,strA y with
  |some a,some b=> .ok (.bool (g a b)) s
  |_,_=> .err "compare"
noncomputable def ltS (a b:ByteArray):Bool:=Op.bytesLess a.toList b.toList
noncomputable def leS (a b:ByteArray):Bool:=Op.bytesLess a.toList b.toList || a.toList==b.toList
noncomputable def addA (x y:AV):M AV:=fun s=>
 match strA x,strA y with
 |some a,some b=>bif Nat.ble (Nat.add a.data.size b.data.size) 1000000 then .ok (.str (a++b)) s else .err "string: great"
 |_,_=>int2 (fun k a b=>some (wrapF k (a+b))) x y s
noncomputable def bitsA (f:(n:Nat)→BitVec n→BitVec n→BitVec n) (k:IntKind) (a b:Int):Option AV:=some (wrapF k (f k.bits (BitVec.ofInt k.bits a) (BitVec.ofInt k.bits b)).toNat)
noncomputable def binF (E:Env) (op:BinOp) (t:TypeId) (lit:Bool):AV→AV→M AV:=
 match op with
 | .eql=>fun x y=>withTy E t fun i=>M.bind (eqT E i lit x y) fun b=>M.pure (.bool b)
 | .neq=>fun x y=>withTy E t fun i=>M.bind (eqT E i lit x y) fun b=>M.pure (.bool (!b))
 | .shl=>sh2 fun k a n=>wrapF k (a*2^n)
 | .shr=>sh2 fun k a n=>mkInt k (a.fdiv (2^n))
 | .add=>addA
 | .sub=>int2 fun k a b=>some (wrapF k (a-b))
 | .mul=>int2 fun k a b=>some (wrapF k (a*b))
 | .quo=>int2 fun k a b=>if b=0 then none else some (wrapF k (a.tdiv b))
 | .rem=>int2 fun k a b=>if b=0 then none else some (mkInt k (a.tmod b))
 | .and=>int2 (bitsA fun _ a b=>a&&& b)
 | .or=>int2 (bitsA fun _ a b=>a |||b)
 | .xor=>int2 (bitsA fun _ a b=>a^^^b)
 | .andNot=>int2 (bitsA fun _ a b=>a&&& ~~~b)
 | .lss=>cmp2 (fun a b=>decide (a<b)) ltS
 | .leq=>cmp2 (fun a b=>decide (a≤b)) leS
 | .gtr=>cmp2 (fun a b=>decide (a>b)) (fun a b=> !(leS a b))
 | .geq=>cmp2 (fun a b=>decide (a≥b)) (fun a b=> !(ltS a b))
noncomputable def unF (op:UnOp):AV→M AV:=
 match op with
 | .neg=>fun x=>M.bind (M.of (intA x) "unop") fun p=>M.pure (wrapF p.1 (0-p.2))
 | .xor=>fun x=>M.bind (M.of (intA x) "unop") fun p=>M.of (bitsA (fun _ a b=>a^^^b) p.1 (if p.1.signed then-1 else p.1.max) p.2) "unop"
 | .not=>fun x=>M.bind (M.of (boolA x) "unop") fun b=>M.pure (.bool (!b))
 | .plus=>fun _=>M.fail "unop"
noncomputable def unpack:Nat→Nat→List UInt8
 |0,_=>[]
 |l+1,n=>UInt8.ofNat (Nat.mod n 256)::unpack l (Nat.div n 256)
noncomputable def pack:List UInt8→Nat
 |[]=>0
 |b::r=>Nat.add b.toNat (Nat.mul 256 (pack r))
noncomputable def bytesOfC:List AV→Option (List UInt8)
 |[]=>some []
 |a::r=>
  match isB a with
  |some p=>match bytesOfC r with
   |some x=>some (unpack p.1 p.2++x)
   |none=>none
  |none=>none
inductive SlV where
 |mk (n off len:Nat) (cap:Option Nat) (es:Nat)
inductive SlK where
 |nil
 |empty
 |some (v:SlV)
noncomputable def slA:AV→Option SlK
 | .nilslice=>Option.some .nil
 | .empty=>Option.some .empty
 | .slice n off len cap es=>Option.some (.some (.mk n off len cap es))
 |_=>none
noncomputable def packS (s:ByteArray):List AV:=
 match s.toList with
 |[]=>[]
 |b::r=>[.bytes (List.length (b::r)) (pack (b::r))]
noncomputable def cellsM (size:Nat) (x:AV):M (List AV × Nat):=
 match slA x with
 |some .nil=>M.pure ([],0)
 |some .empty=>M.pure ([],0)
 |some (.some (.mk n off len _ es))=>bif Nat.beq es size then M.bind (rowM n) fun q=>M.bind (M.of (loadC q.2 off (Nat.mul len es)) "slice: cells") fun cs=>M.pure (cs,len) else M.fail "slice: size"
 |none=>bif Nat.beq size 1 then M.bind (M.of (strA x) "slice expected") fun s=>M.pure (packS s,s.toList.length) else M.fail "slice: string"
noncomputable def convF (E:Env) (src dst:TypeId):AV→M AV:=fun x=>withTy E src fun i=>withTy E dst fun j=>
 match intD j.desc with
 |some k=>M.bind (M.of (intA x) "convert") fun p=>M.pure (wrapF k p.2)
 |none=>
  bif strD j.desc then
   bif strD i.desc then M.bind (M.of (strA x) "convert") fun s=>M.pure (.str s) else
   match sliceD i.desc with
   |some e=>withTy E e fun q=>
    match intD q.desc,slA x with
    |some .u8,some _=>M.bind (cellsM 1 x) fun cs=>M.bind (M.of (bytesOfC cs.1) "convert: bytes") fun l=>M.pure (.str ⟨l.toArray⟩)
    |_,_=>M.fail "convert"
   |none=>M.fail "convert"
  else M.fail "convert"
noncomputable def makeSliceM (E:Env) (i:TyI) (l c:AV):M AV:=
 match sliceD i.desc with
 |some e=>withTy E e fun j=>M.bind (M.of (natA l) "makeSlice") fun l=>M.bind (M.of (natA c) "makeSlice") fun c=>
  bif Nat.ble l c&&Nat.ble c 100000&&Nat.ble (Nat.mul j.bytes c) 100000000&& !(Nat.beq j.size 0) then
   M.bind (newM (.row e (zerosA j.zc c))) fun n=>M.pure (.slice n 0 l (some c) j.size)
  else M.fail "makeSlice: size"
 |none=>M.fail "makeSlice: type"
noncomputable def fieldAddrM (E:Env) (i:TyI) (f:Nat) (x:AV):M AV:=
 match fieldsD i.desc with
 |some fs=>match fs[f]? with
  |some q=>withTy E q.2 fun j=>bif Nat.beq j.size 0 then M.fail "fieldAddr: no cells" else M.bind (M.of (addrA x) "fieldAddr") fun p=>M.pure (forceN (Nat.add p.2 q.1) fun o=> .ptr p.1 o)
  |none=>M.fail "fieldAddr"
 |none=>M.fail "fieldAddr: type"
noncomputable def fieldM (E:Env) (i:TyI) (f:Nat) (x:AV):M AV:=
 match fieldsD i.desc with
 |some fs=>match fs[f]? with
  |some q=>withTy E q.2 fun j=>M.bind (M.of (aggA x) "field") fun cs=>M.bind (M.of (loadC cs q.1 j.size) "field") fun l=>partA j.agg l
  |none=>M.fail "field"
 |none=>M.fail "field: type"
noncomputable def indexAddrM (E:Env) (i:TyI) (x ix:AV):M AV:=M.bind (M.of (natA ix) "index") fun k=>
 match sliceD i.desc with
 |some e=>withTy E e fun j=>
  match slA x with
  |some (.some (.mk n off len _ es))=>bif Nat.blt k len&&Nat.beq j.size es then M.pure (forceN (Nat.add off (Nat.mul k es)) fun o=> .ptr n o) else M.fail "index: out of range"
  |_=>M.fail "index: slice"
 |none=>match arrD i.desc with
  |some q=>withTy E q.2 fun j=>M.bind (M.of (addrA x) "index") fun p=>
   bif Nat.blt k q.1 then M.pure (forceN (Nat.add p.2 (Nat.mul k j.size)) fun o=> .ptr p.1 o) else M.fail "index: out of range"
  |none=>M.fail "index: type"
noncomputable def indexM (E:Env) (i:TyI) (x ix:AV):M AV:=M.bind (M.of (natA ix) "index") fun k=>
 match arrD i.desc with
 |some q=>withTy E q.2 fun j=>M.bind (M.of (aggA x) "index") fun cs=>
  bif Nat.blt k q.1 then M.bind (M.of (loadC cs (Nat.mul k j.size) j.size) "index") fun l=>partA j.agg l else M.fail "index: out of range"
 |none=>bif strD i.desc then M.bind (M.of (strA x) "index") fun s=>
   match s.toList[k]? with
   |some b=>M.pure (.int .u8 b.toNat)
   |none=>M.fail "index: out of range"
  else M.fail "index: type"
noncomputable def bound1 (v:Option AV) (d most:Nat):Option Nat:=
 match v with
 |none=>some d
 |some v=>match natA v with
  |some n=>bif Nat.ble n most then some n else none
  |none=>none
noncomputable def boundsA (len cap:Nat) (lo hi mx:Option AV):Option (Nat × Nat × Nat):=
 bif mx.isSome&&hi.isNone then none else
 match bound1 mx cap cap with
 |none=>none
 |some m=>
  match bound1 hi len m with
  |none=>none
  |some h=>
   match bound1 lo 0 h with
   |none=>none
   |some l=>bif Nat.ble h m&&Nat.ble l h then some (l,h,m) else none
noncomputable def cutF (n off es:Nat) (l h m:Nat):AV:= .slice n (bif Nat.beq m l then off else Nat.add off (Nat.mul l es)) (Nat.sub h l) (some (Nat.sub m l)) es
noncomputable def sliceM (E:Env) (i:TyI) (x:AV) (lo hi mx:Option AV):M AV:=
 match sliceD i.desc with
 |some e=>withTy E e fun j=>
  match slA x with
  |some .nil=>M.bind (M.of (boundsA 0 0 lo hi mx) "slice: bounds") fun _=>M.pure .nilslice
  |some (.some (.mk n off len (some c) es))=>bif Nat.beq es j.size then M.bind (M.of (boundsA len c lo hi mx) "slice: bounds") fun q=>M.pure (cutF n off es q.1 q.2.1 q.2.2) else M.fail "slice: size"
  |some (.some (.mk n off len none es))=>M.bind (rowM n) fun r=>
   bif Nat.beq es 0 || !(Nat.beq es j.size) then M.fail "slice: size" else M.bind (M.of (boundsA len (Nat.div (Nat.sub (lenC r.2) off) es) lo hi mx) "slice: bounds") fun q=>
   match mx with
   |some _=>M.pure (cutF n off es q.1 q.2.1 q.2.2)
   |none=>bif Nat.blt q.1 q.2.2 then M.pure (.slice n (Nat.add off (Nat.mul q.1 es)) (Nat.sub q.2.1 q.1) none es) else M.pure .empty
  |_=>M.fail "slice: form"
 |none=>match arrD i.desc with
  |some p=>withTy E p.2 fun j=>M.bind (M.of (addrA x) "slice: array") fun a=>M.bind (M.of (boundsA p.1 p.1 lo hi mx) "slice: bounds") fun q=>M.pure (cutF a.1 a.2 j.size q.1 q.2.1 q.2.2)
  |none=>bif strD i.desc then M.bind (M.of (strA x) "slice: string") fun s=>
    match mx with
    |some _=>M.fail "slice: string"
    |none=>M.bind (M.of (boundsA s.toList.length s.toList.length lo hi none) "slice: bounds") fun q=>M.pure (.str (s.extract q.1 q.2.1))
   else M.fail "slice: type"
abbrev Ent:=AV × AV × Nat
noncomputable def sameI (a b:AV):Option Bool:=
 match intA a,intA b with
 |some p,some q=>if p.1=q.1 then some (p.2==q.2) else none
 |_,_=>neI a b
noncomputable def sameS (a b:AV):Option Bool:=
 match strA a,strA b with
 |some p,some q=>some (p==q)
 |_,_=>none
noncomputable def sameB (a b:AV):Option Bool:=
 match boolA a,boolA b with
 |some p,some q=>some (p==q)
 |_,_=>none
abbrev KeyC:=AV→AV→Option Bool
noncomputable def sameKey (d:TyD):KeyC:=
 match d with
 | .int _=>sameI
 | .str=>sameS
 | .bool=>sameB
 |_=>fun _ _=>none
noncomputable def findE (f:KeyC) (k:AV):List Ent→Nat→Option (Option (Nat × AV))
 |[],_=>some none
 |e::r,i=>
  match f k e.1 with
  |some true=>some (some (i,e.2.1))
  |some false=>findE f k r (Nat.succ i)
  |none=>none
noncomputable def putE (f:KeyC) (k v:AV):List Ent→Nat→Option (List Ent × Nat)
 |[],c=>some ([(k,v,c)],Nat.succ c)
 |e::r,c=>
  match f k e.1 with
  |some true=>some ((k,v,e.2.2)::r,c)
  |some false=>match putE f k v r c with
   |some q=>some (e::q.1,q.2)
   |none=>none
  |none=>none
noncomputable def delE (f:KeyC) (k:AV):List Ent→Option (List Ent)
 |[]=>some []
 |e::r=>
  match f k e.1 with
  |some true=>some r
  |some false=>match delE f k r with
   |some r'=>some (e::r')
   |none=>none
  |none=>none
noncomputable def mapA:AV→Option (Option Nat)
 | .nilmap=>some none
 | .map n=>some (some n)
 |_=>none
noncomputable def mapO:AObj→Option (List Ent × Nat)
 | .map es c=>some (es,c)
 |_=>none
noncomputable def mapM (n:Nat):M (List Ent × Nat):=M.bind (getM n) fun o=>M.of (mapO o) "map expected"
noncomputable def sameP (n:Nat) (zc:List AV) (a b:AV):Option Bool:=
 match aggA a,aggA b with
 |some x,some y=>bif shapeB false n zc x then eqLI x y else none
 |_,_=>none
noncomputable def keyP (i:TyI) (k:AV):Bool:=i.flat&&(!(isArrD i.desc)&&(match kindsD i.desc with
 |3=>(match sameP i.size i.zc k k with
  |some b=>b
  |none=>false)
 |_=>false))
noncomputable def withKey {α:Type} (E:Env) (t:TypeId) (k:AV) (f:KeyC→M α):M α:=withTy E t fun i=>bif keyD i.desc then f (sameKey i.desc) else bif keyP i k then f (sameP i.size i.zc) else M.fail "map: key"
noncomputable def lookDone (ok:Bool) (z:AV) (r:Option (Nat × AV)):M AV:=
 match r with
 |some p=>M.pure (bif ok then .tuple [p.2,.bool true] else p.2)
 |none=>M.pure (bif ok then .tuple [z,.bool false] else z)
noncomputable def lookupM (E:Env) (i:TyI) (ok:Bool) (x k:AV):M AV:=
 match mapD i.desc with
 |some p=>withKey E p.1 k fun f=>withTy E p.2 fun j=>M.bind (M.of (mapA x) "lookup: map") fun m=>
  match m with
  |none=>lookDone ok j.zero none
  |some n=>M.bind (mapM n) fun q=>M.bind (M.of (findE f k q.1 0) "lookup: key") fun r=>lookDone ok j.zero r
 |none=>M.fail "lookup: type"
noncomputable def updateM (E:Env) (i:TyI) (x k v:AV):M Unit:=
 match mapD i.desc with
 |some p=>withKey E p.1 k fun f=>M.bind (M.of (mapA x) "update: map") fun m=>M.bind (M.of m "update: nil") fun n=>
  M.bind (mapM n) fun q=>M.bind (M.of (putE f k v q.1 q.2) "update: key") fun r=>setM n (some (.map r.1 r.2))
 |none=>M.fail "update: type"
noncomputable def deleteM (E:Env) (i:TyI) (x k:AV):M AV:=
 match mapD i.desc with
 |some p=>withKey E p.1 k fun f=>M.bind (M.of (mapA x) "delete: map") fun m=>
  match m with
  |none=>M.pure undefA
  |some n=>M.bind (mapM n) fun q=>M.bind (M.of (delE f k q.1) "delete: key") fun es=>M.bind (setM n (some (.map es q.2))) fun _=>M.pure undefA
 |none=>M.fail "delete: type"
noncomputable def rangeM (i:TyI) (x:AV):M AV:=
 match mapD i.desc with
 |some _=>M.bind (M.of (mapA x) "range: map") fun m=>
  match m with
  |none=>M.bind (newM (.iter none 0 [] 0)) fun n=>M.pure (.ptr n 0)
  |some m=>M.bind (mapM m) fun q=>M.bind (newM (.iter (some m) q.2 [] q.2)) fun n=>M.pure (.ptr n 0)
 |none=>bif strD i.desc then M.bind (M.of (strA x) "range: text") fun s=>M.bind (newM (.siter s 0)) fun n=>M.pure (.ptr n 0) else M.fail "range: type"
noncomputable def iterO:AObj→Option (Option Nat × Nat × List Nat × Nat)
 | .iter m since seen last=>some (m,since,seen,last)
 |_=>none
noncomputable def seenB (b:Nat):List Nat→Bool
 |[]=>false
 |x::r=>Nat.beq b x || seenB b r
noncomputable def next1 (n m since:Nat) (seen:List Nat) (last c:Nat):List Ent→M AV
 |[]=>M.pure (.tuple [.bool false])
 |[e]=>
  bif seenB e.2.2 seen then (bif Nat.blt e.2.2 last then M.pure (.tuple [.bool false]) else M.fail "next: clock") else
  match seen with
  |[]=>bif Nat.blt e.2.2 since then M.bind (setM n (some (.iter (some m) since [e.2.2] c))) fun _=>M.pure (.tuple [.bool true,e.1,e.2.1]) else M.fail "next: new entry"
  |_::_=>M.fail "next: new entry"
 |_=>M.fail "next: many"
noncomputable def nextM (it:AV):M AV:=M.bind (M.of (addrA it) "next") fun p=>bif !(Nat.beq p.2 0) then M.fail "next: where" else M.bind (getM p.1) fun o=>M.bind (M.of (iterO o) "next: iterator") fun q=>
 match q.1 with
 |none=>M.pure (.tuple [.bool false])
 |some m=>M.bind (mapM m) fun r=>next1 p.1 m q.2.1 q.2.2.1 q.2.2.2 r.2 r.1
noncomputable def siterO:AObj→Option (ByteArray × Nat)
 | .siter s pos=>some (s,pos)
 |_=>none
noncomputable def step1 (n:Nat) (s:ByteArray) (pos c k:Nat):M AV:=forceN c fun c=>forceN (Nat.add pos k) fun p=>M.bind (setM n (some (.siter s p))) fun _=>M.pure (.tuple [.bool true,.int .i64 (.ofNat pos),.int .i32 (.ofNat c)])
noncomputable def nextS (it:AV):M AV:=M.bind (M.of (addrA it) "next") fun p=>bif !(Nat.beq p.2 0) then M.fail "next: where" else M.bind (getM p.1) fun o=>M.bind (M.of (siterO o) "next: iterator of a text") fun q=>
 bif Nat.blt q.2 q.1.size then step1 p.1 q.1 q.2 (Utf8.decode q.1 q.2).1 (Utf8.decode q.1 q.2).2 else M.pure (.tuple [.bool false])
noncomputable def findB (b:Nat):List Ent→Option Ent
 |[]=>none
 |e::r=>bif Nat.beq e.2.2 b then some e else findB b r
noncomputable def entryM (it:AV):M AV:=M.bind (M.of (addrA it) "entry") fun p=>bif !(Nat.beq p.2 0) then M.fail "entry: where" else M.bind (getM p.1) fun o=>M.bind (M.of (iterO o) "entry: iterator") fun q=>
 M.bind (M.of q.1 "entry: nil") fun m=>M.bind (mapM m) fun r=>
 bif Nat.beq r.2 q.2.2.2 then M.bind (M.of q.2.2.1.getLast? "entry: no step") fun b=>M.bind (M.of (findB b r.1) "entry: gone") fun e=>M.pure (.tuple [e.1,e.2.1]) else M.fail "entry: clock"
noncomputable def seqD:TyD→Bool
 | .slice _=>true
 | .str=>true
 |_=>false
noncomputable def roomB (cap:Option Nat) (need off es:Nat) (cs:List AV):Bool:=
 match cap with
 |some c=>Nat.ble need c
 |none=>Nat.ble (Nat.add off (Nat.mul need es)) (lenC cs)
noncomputable def appS (e:TypeId) (size bytes:Nat) (s:SlV) (new:List AV) (k:Nat):M AV:=
 match s with
 | .mk n off len cap es=>M.bind (rowM n) fun q=>
  bif Nat.beq es 0 || !(Nat.beq es size) then M.fail "append: size" else
  bif roomB cap (Nat.add len k) off es q.2 then
   M.bind (M.of (storeC q.2 (Nat.add off (Nat.mul len es)) (Nat.mul k es) new) "append: place") fun cs=>M.bind (setM n (some (.row q.1 cs))) fun _=>M.pure (.slice n off (Nat.add len k) cap es)
  else
   bif Nat.ble (Nat.mul (Nat.add len k) bytes) 100000000&&Nat.ble (Nat.add len k) 100000000 then
    M.bind (M.of (loadC q.2 off (Nat.mul len es)) "append: old") fun old=>
    M.bind (match cap with|some _=>M.pure ()|none=>bif Nat.beq q.1 e then setM n none else M.fail "append: type") fun _=>
    M.bind (newM (.row e (joinC old new))) fun n'=>M.pure (.slice n' 0 (Nat.add len k) none es)
   else M.fail "append: great"
noncomputable def appM (e:TypeId) (j:TyI) (s:AV) (new:List AV) (k:Nat):M AV:=
 match slA s with
 |some .nil=>bif Nat.beq k 0 then M.pure .nilslice else
  bif Nat.ble (Nat.mul k j.bytes) 100000000&&Nat.ble k 100000000 then M.bind (newM (.row e new)) fun n=>M.pure (.slice n 0 k none j.size) else M.fail "append: great"
 |some (.some v)=>bif Nat.beq k 0 then M.pure s else appS e j.size j.bytes v new k
 |_=>M.fail "append: slice"
noncomputable def appendF (E:Env) (t u:TypeId) (s x:AV):M AV:=withTy E t fun i=>
 match sliceD i.desc with
 |some e=>withTy E e fun j=>withTy E u fun xi=>
  bif Nat.beq j.size 0 then M.fail "append: size" else
  match intD xi.desc with
  |some _=>M.bind (M.of (natA x) "append: zeros") fun n=>bif Nat.ble n 100000&&Nat.ble (Nat.mul n j.bytes) 100000000 then appM e j s (zerosA j.zc n) n else M.fail "append: many"
  |none=>bif seqD xi.desc then M.bind (cellsM j.size x) fun q=>appM e j s q.1 q.2 else M.fail "append: what"
 |none=>M.fail "append: type"
noncomputable def mkNat (n:Nat):AV:=forceN n fun n=> .int .i64 (.ofNat n)
noncomputable def lenS:SlK→Nat
 | .some (.mk _ _ n _ _)=>n
 |_=>0
noncomputable def lenF (E:Env) (t:TypeId) (x:AV):M AV:=withTy E t fun i=>
 match arrD i.desc with
 |some q=>M.pure (mkNat q.1)
 |none=>match sliceD i.desc with
  |some _=>M.bind (M.of (slA x) "len") fun k=>M.pure (mkNat (lenS k))
  |none=>match mapD i.desc with
   |some _=>M.bind (M.of (mapA x) "len") fun m=>
    match m with
    |none=>M.pure (mkNat 0)
    |some m=>M.bind (mapM m) fun q=>M.pure (mkNat q.1.length)
   |none=>bif strD i.desc then M.bind (M.of (strA x) "len") fun s=>M.pure (mkNat s.toList.length) else M.fail "len"
noncomputable def copyF (E:Env) (t:TypeId) (d x:AV):M AV:=withTy E t fun i=>
 match sliceD i.desc with
 |some e=>withTy E e fun j=>M.bind (cellsM j.size x) fun r=>
  match slA d with
  |some (.some (.mk n off len _ es))=>bif !(Nat.beq es j.size) then M.fail "copy: size" else M.bind (rowM n) fun q=>forceN (bif Nat.ble r.2 len then r.2 else len) fun m=>
   bif Nat.beq m 0 then M.pure (mkNat 0) else
   M.bind (M.of (loadC r.1 0 (Nat.mul m j.size)) "copy") fun new=>
   M.bind (M.of (storeC q.2 off (Nat.mul m es) new) "copy: place") fun cs=>M.bind (setM n (some (.row q.1 cs))) fun _=>M.pure (mkNat m)
  |some _=>M.pure (mkNat 0)
  |none=>M.fail "copy: where"
 |none=>M.fail "copy: type"
noncomputable def clearF (E:Env) (t:TypeId) (x:AV):M AV:=withTy E t fun i=>
 match slA x with
 |some (.some (.mk n off len _ es))=>
  match sliceD i.desc with
  |some e=>withTy E e fun j=>M.bind (rowM n) fun q=>
   bif Nat.beq len 0 then M.pure undefA else
   bif !(Nat.beq es j.size) then M.fail "clear: size" else
   M.bind (M.of (storeC q.2 off (Nat.mul len es) (zerosA j.zc len)) "clear") fun cs=>M.bind (setM n (some (.row q.1 cs))) fun _=>M.pure undefA
  |none=>M.fail "clear: type"
 |some _=>M.pure undefA
 |none=>M.bind (M.of (mapA x) "clear") fun m=>
  match m with
  |none=>M.pure undefA
  |some n=>M.bind (mapM n) fun q=>M.bind (setM n (some (.map [] q.2))) fun _=>M.pure undefA
noncomputable def capM (i:TyI) (x:AV):M AV:=
 match sliceD i.desc with
 |none=>M.fail "cap"
 |some _=>match slA x with
  |some .nil=>M.pure (mkNat 0)
  |some (.some (.mk _ _ _ (some c) _))=>M.pure (mkNat c)
  |_=>M.fail "cap"
noncomputable def two (f:AV→AV→M AV):List AV→M AV
 |[a,b]=>f a b
 |_=>M.fail "arguments"
noncomputable def one (f:AV→M AV):List AV→M AV
 |[a]=>f a
 |_=>M.fail "arguments"
noncomputable def argT (ts:List TypeId) (i:Nat) (k:TypeId→List AV→M AV):List AV→M AV:=
 match ts[i]? with
 |some t=>k t
 |none=>fun _=>M.fail "argument's type"
noncomputable def min2A (x y:AV):M AV:=int2 (fun k x y=>some (.int k (if y<x then y else x))) x y
noncomputable def max2A (x y:AV):M AV:=int2 (fun k x y=>some (.int k (if x<y then y else x))) x y
noncomputable def builtinF (E:Env) (b:Builtin) (ts:List TypeId):List AV→M AV:=
 match b with
 | .append=>argT ts 0 fun t=>argT ts 1 fun u=>two (appendF E t u)
 | .len=>argT ts 0 fun t=>one (lenF E t)
 | .copy=>argT ts 0 fun t=>two (copyF E t)
 | .clear=>argT ts 0 fun t=>one (clearF E t)
 | .delete=>argT ts 0 fun t=>two fun m k=>withTy E t fun i=>deleteM E i m k
 | .cap=>argT ts 0 fun t=>one fun x=>withTy E t fun i=>capM i x
 | .min=>two min2A
 | .max=>two max2A
 |_=>fun _=>M.fail "builtin"
end Go.Proofs.YtnkjkgmohmcobaaGreatDoor.Vm
namespace Go.Proofs.YtnkjkgmohmcobaaGreatDoor.Vm
open Go
inductive ANext where
 |value (v:AV)
 |skip
 |defer (d:ADef)
inductive OpC where
 |simp (f:Tr AV→M ANext)
 |call (x:Opd) (args:List Opd)
 |meth (x:Opd) (m:String) (args:List Opd)
inductive Ev where
 |mk (fuel:Nat) (call callD:FuncId→List AV→M AV) (code:Option Nat→Code→AAct→M (AExit × AAct))
noncomputable def Ev.fuel:Ev→Nat| .mk n _ _ _=>n
noncomputable def Ev.call:Ev→FuncId→List AV→M AV| .mk _ c _ _=>c
noncomputable def Ev.callD:Ev→FuncId→List AV→M AV| .mk _ _ c _=>c
noncomputable def Ev.code:Ev→Option Nat→Code→AAct→M (AExit × AAct)| .mk _ _ _ c=>c
noncomputable def failEv:Ev:= .mk 0 (fun _ _=>M.fail "fuel") (fun _ _=>M.fail "fuel") (fun _ _ _=>M.fail "fuel")
inductive LoopR where
 |mk (st:LoopState) (pend:Option Code) (t:Tr AV) (n:Nat) (params:List Tmp) (assign body:Code) (dn:Nat)
noncomputable def loopO:AObj→Option LoopR
 | .loop st pe t n ps az bd dn=>some (.mk st pe t n ps az bd dn)
 |_=>none
noncomputable def loopM (l:Nat):M LoopR:=M.bind (getM l) fun o=>M.of (loopO o) "loop expected"
noncomputable def defsO:AObj→Option (Option (List ADef))
 | .defs d=>some d
 |_=>none
noncomputable def defsM (l:Nat):M (List ADef):=M.bind (getM l) fun o=>M.bind (M.of (defsO o) "deferred calls expected") fun d=>M.of d "deferred calls taken"
noncomputable def putAll (t:Tr AV):List Tmp→List AV→Tr AV
 |[],_=>t
 |_::_,[]=>t
 |p::ps,v::vs=>putAll (t.put p (some v)) ps vs
noncomputable def jumpOf:AExit→Option Code
 | .normal=>none
 | .exit id=>some (.exit id)
 | .ret=>some .ret
noncomputable def isNormal:AExit→Bool
 | .normal=>true
 |_=>false
noncomputable def isReady:LoopState→Bool
 | .ready=>true
 |_=>false
noncomputable def isBusy:LoopState→Bool
 | .busy=>true
 |_=>false
noncomputable def allBelow (n:Nat):List Tmp→Bool
 |[]=>true
 |p::r=>Nat.blt p n&&allBelow n r
noncomputable def endM (l:Nat) (e:AExit):M AV:=M.bind (loopM l) fun r=>
 match r with
 | .mk _ _ t n ps az bd dn=>M.bind (setM l (some (.loop (bif isNormal e then .ready else .done) (jumpOf e) t n ps az bd dn))) fun _=>M.pure (.bool (isNormal e))
noncomputable def beginM (l:Nat):M Unit:=M.bind (loopM l) fun r=>
 match r with
 | .mk st pe t n ps az bd dn=>bif isReady st then setM l (some (.loop .busy pe t n ps az bd dn)) else M.fail "round: state"
noncomputable def roundM (ev:Ev) (l:Nat) (args:List AV):M AV:=M.bind (loopM l) fun r=>
 match r with
 | .mk _ _ t n ps az bd _=>
  bif Nat.beq args.length ps.length&&allBelow n ps then
   M.bind (ev.code (some l) az (.mk (putAll t ps args) n [])) fun q=>
   bif isNormal q.1 then M.bind (beginM l) fun _=>M.bind (ev.code (some l) bd q.2) fun q=>endM l q.1
   else M.fail "round: assign"
  else M.fail "round: arguments"
inductive FnV where
 |fn (f:FuncId) (first cap:List AV)
 |yield (l:Nat)
noncomputable def fnA:AV→Option FnV
 | .func f a b=>some (.fn f a b)
 | .yield l=>some (.yield l)
 |_=>none
noncomputable def callV (ev:Ev) (f:AV) (args:List AV):M AV:=M.bind (M.of (fnA f) "call: value") fun f=>
 match f with
 | .fn g first cap=>ev.call g (first++args++cap)
 | .yield l=>roundM ev l args
noncomputable def findMeth:List (TypeId × String × FuncId)→TypeId→String→Option FuncId
 |[],_,_=>none
 |x::r,t,m=>bif Nat.beq x.1 t&&x.2.1==m then some x.2.2 else findMeth r t m
noncomputable def ifaceA:AV→Option (TypeId × AV)
 | .iface t v=>some (t,v)
 |_=>none
noncomputable def fnOnly:AV→Option (FuncId × List AV × List AV)
 | .func f a b=>some (f,a,b)
 |_=>none
noncomputable def value (m:M AV):M ANext:=M.bind m fun x=>M.pure (.value x)
noncomputable def skip (m:M Unit):M ANext:=M.bind m fun _=>M.pure .skip
noncomputable def op1 (x:Opd) (f:AV→M AV):OpC:= .simp fun T=>M.bind (rd T x) fun v=>value (f v)
noncomputable def opTy1 (E:Env) (t:TypeId) (x:Opd) (f:TyI→AV→M AV):OpC:= .simp fun T=>withTy E t fun i=>M.bind (rd T x) fun v=>value (f i v)
noncomputable def opTy2 (E:Env) (t:TypeId) (x y:Opd) (f:TyI→AV→AV→M AV):OpC:= .simp fun T=>withTy E t fun i=>M.bind (rd T x) fun a=>M.bind (rd T y) fun b=>value (f i a b)
noncomputable def opFail (m:String):OpC:= .simp fun _=>M.fail m
noncomputable def optO:Option Operand→Option Opd
 |none=>none
 |some x=>some (opd x)
noncomputable def rdOpt (T:Tr AV) (x:Option Opd):M (Option AV):=
 match x with
 |none=>M.pure none
 |some x=>M.bind (rd T x) fun v=>M.pure (some v)
noncomputable def notNil (v:AV):M AV:=bif liveA v then M.pure v else M.fail "nilCheck"
noncomputable def opAlloc (E:Env) (e:TypeId):OpC:= .simp fun _=>withTy E e fun i=>M.bind (newM (.row e i.zc)) fun n=>M.pure (.value (.ptr n 0))
noncomputable def opBox (e:TypeId) (x:Opd):OpC:= .simp fun T=>M.bind (rd T x) fun v=>M.bind (M.of (cellsO v) "box") fun cs=>M.bind (newM (.row e cs)) fun n=>M.pure (.value (.ptr n 0))
noncomputable def opBuild (E:Env) (t:TypeId) (ps:List (Nat × Opd)):OpC:= .simp fun T=>withTy E t fun i=>M.bind (rdsP T ps) fun vs=>value (buildM E i vs)
noncomputable def opBuildSlice (E:Env) (t:TypeId) (len:Nat) (ps:List (Nat × Opd)):OpC:= .simp fun T=>withTy E t fun i=>M.bind (rdsP T ps) fun vs=>value (buildSliceM E i len vs)
noncomputable def opStore (E:Env) (t:TypeId) (a x:Opd):OpC:= .simp fun T=>withTy E t fun i=>M.bind (rd T a) fun a=>M.bind (rd T x) fun x=>skip (storeM i a x)
noncomputable def opPick (c a b:Opd):OpC:= .simp fun T=>M.bind (rd T c) fun c=>M.bind (M.of (boolA c) "pick") fun t=>value (rd T (bif t then a else b))
noncomputable def opMapNew:OpC:= .simp fun _=>M.bind (newM (.map [] 0)) fun n=>M.pure (.value (.map n))
noncomputable def opMapNewR (E:Env) (t:TypeId) (r:Opd):OpC:= .simp fun T=>withTy E t fun i=>M.bind (rd T r) fun r=>M.bind (M.of (intA r) "makeMap") fun _=>M.bind (M.of (mapD i.desc) "makeMap") fun _=>M.bind (newM (.map [] 0)) fun n=>M.pure (.value (.map n))
noncomputable def opFn (f:FuncId) (a b:List Opd):OpC:= .simp fun T=>M.bind (rds T a) fun a=>M.bind (rds T b) fun b=>M.pure (.value (.func f a b))
noncomputable def opSlice (E:Env) (t:TypeId) (x:Opd) (lo hi mx:Option Opd):OpC:= .simp fun T=>withTy E t fun i=>M.bind (rd T x) fun x=>M.bind (rdOpt T lo) fun lo=>M.bind (rdOpt T hi) fun hi=>M.bind (rdOpt T mx) fun mx=>value (sliceM E i x lo hi mx)
noncomputable def opUpdate (E:Env) (t:TypeId) (m k x:Opd):OpC:= .simp fun T=>withTy E t fun i=>M.bind (rd T m) fun m=>M.bind (rd T k) fun k=>M.bind (rd T x) fun x=>skip (updateM E i m k x)
noncomputable def tupA:AV→Option (List AV)
 | .tuple vs=>some vs
 |_=>none
noncomputable def opExtract (t:Opd) (i:Nat):OpC:= .simp fun T=>M.bind (rd T t) fun t=>M.bind (M.of (tupA t) "extract") fun vs=>value (M.of vs[i]? "extract")
noncomputable def opBin (E:Env) (op:BinOp) (t:TypeId) (lit:Bool) (x y:Opd):OpC:= .simp fun T=>M.bind (rd T x) fun a=>M.bind (rd T y) fun b=>value (binF E op t lit a b)
noncomputable def opBuiltin (f:List AV→M AV) (args:List Opd):OpC:= .simp fun T=>M.bind (rds T args) fun vs=>value (f vs)
noncomputable def opDefer (x:Opd) (args:List Opd):OpC:= .simp fun T=>M.bind (rds T args) fun vs=>M.bind (rd T x) fun f=>M.bind (M.of (fnOnly f) "defer: value") fun q=>M.pure (.defer (.fn q.1 (q.2.1++vs) q.2.2))
noncomputable def callC (E:Env) (c:Call):OpC:=
 match c.callee with
 | .builtin b=>opBuiltin (builtinF E b c.argTypes.toList) (opds c.args.toList)
 | .value f=> .call (opd f) (opds c.args.toList)
 | .invoke x m=> .meth (opd x) m (opds c.args.toList)
noncomputable def deferC (c:Call):OpC:=
 match c.callee with
 | .value f=>opDefer (opd f) (opds c.args.toList)
 |_=>opFail "defer: form"
noncomputable def funC (fn:Fn) (a b:Array Operand):OpC:=
 match fn with
 | .func f=>opFn f (opds a.toList) (opds b.toList)
 |_=>opFail "makeFunc"
noncomputable def mapC (E:Env) (t:TypeId) (r:Option Operand):OpC:=
 match r with
 |none=>opMapNew
 |some r=>opMapNewR E t (opd r)
noncomputable def nextC (it:Opd) (s:Bool):OpC:=
 match s with
 |true=>op1 it nextS
 |false=>op1 it nextM
noncomputable def opC (E:Env) (o:Op):OpC:=
 match o with
 | .move x=>op1 (opd x) M.pure
 | .assign x=>op1 (opd x) M.pure
 | .pick c a b=>opPick (opd c) (opd a) (opd b)
 | .alloc e=>opAlloc E e
 | .box e x=>opBox e (opd x)
 | .build t ps=>opBuild E t (opdsP ps.toList)
 | .buildSlice t len ps=>opBuildSlice E t len (opdsP ps.toList)
 | .load t a=>opTy1 E t (opd a) loadM
 | .store t a x=>opStore E t (opd a) (opd x)
 | .nilCheck x=>op1 (opd x) notNil
 | .binOp op t x y _=>opBin E op t (isConst x || isConst y) (opd x) (opd y)
 | .unOp op _ x=>op1 (opd x) (unF op)
 | .convert s d x=>op1 (opd x) (convF E s d)
 | .makeInterface t x=>opTy1 E t (opd x) fun i v=>bif concreteD i.desc then M.pure (.iface t v) else M.fail "makeInterface"
 | .makeFunc fn a b=>funC fn a b
 | .makeMap t r=>mapC E t r
 | .makeSlice t l c=>opTy2 E t (opd l) (opd c) (makeSliceM E)
 | .slice t x lo hi mx=>opSlice E t (opd x) (optO lo) (optO hi) (optO mx)
 | .fieldAddr t x f=>opTy1 E t (opd x) fun i=>fieldAddrM E i f
 | .field t x f=>opTy1 E t (opd x) fun i=>fieldM E i f
 | .indexAddr t x i=>opTy2 E t (opd x) (opd i) (indexAddrM E)
 | .index t x i=>opTy2 E t (opd x) (opd i) (indexM E)
 | .lookup t x k ok=>opTy2 E t (opd x) (opd k) fun i=>lookupM E i ok
 | .mapUpdate t m k x=>opUpdate E t (opd m) (opd k) (opd x)
 | .insert t m k x=>opUpdate E t (opd m) (opd k) (opd x)
 | .range t x=>opTy1 E t (opd x) rangeM
 | .next it s=>nextC (opd it) s
 | .entry it=>op1 (opd it) entryM
 | .extract t i=>opExtract (opd t) i
 | .call c=>callC E c
 | .defer c=>deferC c
 |_=>opFail "operation"
noncomputable def runC (E:Env) (ev:Ev) (T:Tr AV) (c:OpC):M ANext:=
 match c with
 | .simp f=>f T
 | .call x args=>M.bind (rds T args) fun vs=>M.bind (rd T x) fun f=>value (callV ev f vs)
 | .meth x m args=>M.bind (rds T args) fun vs=>M.bind (rd T x) fun x=>M.bind (M.of (ifaceA x) "invoke") fun q=>M.bind (M.of (findMeth E.meth q.1 m) "method") fun f=>value (ev.call f (q.2::vs))
noncomputable def putA (a:AAct) (dst:Option Tmp) (v:AV):M AAct:=
 match dst with
 |none=>M.pure a
 |some d=>
  match a with
  | .mk t n ds=>bif Nat.blt d n then M.pure (.mk (t.put d (some v)) n ds) else M.fail "slot"
noncomputable def guardC (ops:List Oper) (o:Oper):Option (Option (Tmp × Bool)):=
 match o.guard with
 |none=>none
 |some g=>
  match ops[g.1]? with
  |some p=>match p.dst with
   |some d=>some (some (d,g.2))
   |none=>some none
  |none=>some none
noncomputable def wantO (v:AV) (b:Bool):Option Bool:=
 match v with
 | .bool x=>some (x==b)
 | .tuple l=>(match l with
  |[]=>some false
  |_::_=>none)
 |_=>none
noncomputable def wantedA (g:Option (Option (Tmp × Bool))) (T:Tr AV):M Bool:=
 match g with
 |none=>M.pure true
 |some none=>M.fail "guard"
 |some (some q)=>M.bind (M.of (wantO (slotA T q.1) q.2) "guard") M.pure
noncomputable def deferIn (rnd:Option Nat) (d:ADef) (a:AAct):M AAct:=
 match rnd with
 |none=>match a with
  | .mk t n ds=>M.pure (.mk t n (d::ds))
 |some _=>M.fail "defer in a round"
noncomputable def doneA (rnd:Option Nat) (dst:Option Tmp) (a:AAct) (x:ANext):M AAct:=
 match x with
 | .value v=>putA a dst v
 | .skip=>putA a dst undefA
 | .defer d=>M.bind (deferIn rnd d a) fun a=>putA a dst undefA
noncomputable def operM (E:Env) (ev:Ev) (rnd:Option Nat) (ops:List Oper) (o:Oper) (a:AAct):M AAct:=M.bind (wantedA (guardC ops o) a.t) fun wt=>
 bif wt then M.bind (runC E ev a.t (opC E o.op)) fun x=>doneA rnd o.dst a x
 else putA a o.dst undefA
noncomputable def opsM (E:Env) (ev:Ev) (rnd:Option Nat) (ops:List Oper):List Oper→AAct→M AAct
 |[],a=>M.pure a
 |o::r,a=>M.bind (operM E ev rnd ops o a) fun a=>opsM E ev rnd ops r a
noncomputable def slotBit:Operand→Nat
 | .tmp t=>Nat.shiftLeft 1 t
 |_=>0
noncomputable def slotsOf:List Operand→Nat
 |[]=>0
 |x::r=>Nat.lor (slotBit x) (slotsOf r)
noncomputable def dstBit (o:Oper):Nat:=match o.dst with|some d=>Nat.shiftLeft 1 d|none=>0
noncomputable def isDefer:Op→Bool
 | .defer _=>true
 |_=>false
abbrev FP:=List (Nat × TS × TS)
noncomputable def apartF (bef:Nat) (r w:TS):FP→Bool
 |[]=>true
 |x::l=>(Nat.testBit bef x.1 || !(meets w x.2.1 || meets w x.2.2 || meets x.2.2 r))&&apartF bef r w l
noncomputable def befOf (acc:List Nat):List Edge→Nat
 |[]=>0
 |e::l=>Nat.lor (bif Region.binds .any e then Nat.lor (Nat.shiftLeft 1 e.on) ((acc[e.on]?).getD 0) else 0) (befOf acc l)
noncomputable def befs:List Oper→List Nat→List Nat
 |[],acc=>acc
 |o::r,acc=>befs r (acc++[befOf acc o.after.toList])
noncomputable def guardBit (ops:List Oper) (o:Oper):Nat:=
 match o.guard with
 |some g=>match ops[g.1]? with
  |some p=>dstBit p
  |none=>0
 |none=>0
noncomputable def usedBits (ops:List Oper) (o:Oper):Nat:=Nat.lor (slotsOf o.op.operands.toList) (guardBit ops o)
noncomputable def slotApart (ops:List Oper) (bef u d:Nat):List Oper→Nat→Nat→Bool
 |[],_,_=>true
 |o::r,j,k=>Nat.ble k j || ((Nat.testBit bef j || (Nat.beq (Nat.land u (dstBit o)) 0&&Nat.beq (Nat.land d (Nat.lor (dstBit o) (usedBits ops o))) 0))&&slotApart ops bef u d r (Nat.succ j) k)
noncomputable def edgesBelow (k:Nat):List Edge→Bool
 |[]=>true
 |e::r=>(!(Region.binds .any e) || Nat.blt e.on k)&&edgesBelow k r
noncomputable def defAt:List Oper→Nat→Nat
 |[],k=>k
 |o::r,k=>bif isDefer o.op then k else defAt r (Nat.succ k)
noncomputable def slotsOk (ops:List Oper):List Oper→List Nat→Nat→Bool
 |o::r,bef::bs,k=>(!(isDefer o.op) || Nat.beq k (defAt ops 0))&&edgesBelow k o.after.toList&&slotApart ops bef (usedBits ops o) (dstBit o) ops 0 k&&slotsOk ops r bs (Nat.succ k)
 |[],_,_=>true
 |_::_,[],_=>false
noncomputable def addF (k:Nat) (r w:TS) (fp:FP):FP:=
 match r with
 |[]=>match w with
  |[]=>fp
  |_::_=>(k,r,w)::fp
 |_::_=>(k,r,w)::fp
noncomputable def drawM (E:Env) (ev:Ev) (rnd:Option Nat) (ops:List Oper):List Oper→List Nat→Nat→FP→AAct→M AAct
 |[],_,_,_,a=>M.pure a
 |_::_,[],_,_,_=>M.fail "order: count"
 |o::r,bef::bs,k,fp,a=>
  M.bind (touched (operM E ev rnd ops o a)) fun q=>
  bif apartF bef q.2.1 q.2.2 fp then drawM E ev rnd ops r bs (Nat.succ k) (addF k q.2.1 q.2.2 fp) q.1
  else M.fail ("order: not apart " ++o.pos)
abbrev CodeC:=Ev→Option Nat→AAct→M (AExit × AAct)
noncomputable def normalC (m:M AAct):M (AExit × AAct):=M.bind m fun a=>M.pure (.normal,a)
noncomputable def regionC (E:Env) (l:List Oper):CodeC:=fun ev rnd a=>normalC (opsM E ev rnd l l a)
noncomputable def posOf (l:List Oper):String:=
 match l with
 |[]=> ""
 |o::_=>o.pos
noncomputable def drawC (E:Env) (l:List Oper):CodeC:=fun ev rnd a=>bif slotsOk l l (befs l []) 0 then normalC (drawM E ev rnd l l (befs l []) 0 [] a) else M.fail ("order: slots " ++posOf l)
noncomputable def seqC (x y:CodeC):CodeC:=fun ev rnd a=>M.bind (x ev rnd a) fun q=>bif isNormal q.1 then y ev rnd q.2 else M.pure q
noncomputable def condC (c:Opd) (x y:CodeC):CodeC:=fun ev rnd a=>M.bind (rd a.t c) fun v=>M.bind (M.of (boolA v) "cond") fun b=>bif b then x ev rnd a else y ev rnd a
noncomputable def outOf (id:Nat) (e:AExit):AExit:=
 match e with
 | .exit i=>bif Nat.beq i id then .normal else e
 |_=>e
noncomputable def blockC (id:Nat) (x:CodeC):CodeC:=fun ev rnd a=>M.bind (x ev rnd a) fun q=>M.pure (outOf id q.1,q.2)
noncomputable def loopN (x:Ev→Option Nat→AAct→M (AExit × AAct)) (ev:Ev) (rnd:Option Nat):Nat→AAct→M (AExit × AAct)
 |0,_=>M.fail "loop: fuel"
 |f+1,a=>M.bind (x ev rnd a) fun q=>bif isNormal q.1 then loopN x ev rnd f q.2 else M.pure q
noncomputable def loopC (x:CodeC):CodeC:=fun ev rnd a=>loopN x ev rnd ev.fuel a
noncomputable def exitC (e:AExit):CodeC:=fun _ _ a=>M.pure (e,a)
noncomputable def failC (m:String):CodeC:=fun _ _ _=>M.fail m
noncomputable def markM (rnd:Option Nat):M (Nat × List ADef):=
 match rnd with
 |some l=>M.bind (loopM l) fun r=>
  match r with
  | .mk _ _ _ _ _ _ _ dn=>M.pure (dn,[])
 |none=>M.bind (newM (.defs (some []))) fun r=>M.pure (r,[.mark r])
noncomputable def pendA (pe:Option Code):Option AExit:=
 match pe with
 |none=>some .normal
 |some c=>match c with
  | .exit id=>some (.exit id)
  | .ret=>some .ret
  |_=>none
noncomputable def overM (l:Nat):M AExit:=M.bind (loopM l) fun r=>
 match r with
 | .mk st pe t n ps az bd dn=>bif isBusy st then M.fail "range: busy" else M.bind (setM l (some (.loop .exhausted pe t n ps az bd dn))) fun _=>M.of (pendA pe) "range: jump"
noncomputable def rangeC (f:Opd) (ps:List Tmp) (az bd:Code):CodeC:=fun ev rnd a=>
 match a with
 | .mk T n ds=>M.bind (markM rnd) fun mk=>M.bind (newM (.loop .ready none T n ps az bd mk.1)) fun l=>M.bind (rd T f) fun f=>M.bind (M.of (fnOnly f) "range: function") fun q=>
  M.bind (ev.call q.1 (q.2.1++[.yield l]++q.2.2)) fun _=>M.bind (overM l) fun e=>M.pure (e,.mk T n (mk.2++ds))
noncomputable def regC (E:Env) (l:List Oper) (draw:Bool):CodeC:=
 match draw with
 |true=>drawC E l
 |false=>regionC E l
noncomputable def codeC (E:Env):Code→CodeC
 | .skip=>exitC .normal
 | .label _=>exitC .normal
 | .region _ ops draw=>regC E ops.toList draw
 | .seq x y=>seqC (codeC E x) (codeC E y)
 | .cond c x y=>condC (opd c) (codeC E x) (codeC E y)
 | .block id b=>blockC id (codeC E b)
 | .loop b=>loopC (codeC E b)
 | .scope b=>codeC E b
 | .exit id=>exitC (.exit id)
 | .ret=>exitC .ret
 | .rangeFunc f ps az bd=>rangeC (opd f) ps.toList az bd
 | .goto _=>failC "goto"
 | .refuse _=>failC "refuse"
noncomputable def isCalm (g:Nat):List FuncId→Bool
 |[]=>false
 |x::r=>Nat.beq g x || isCalm g r
noncomputable def leaveM (E:Env) (ev:Ev):List ADef→M Unit
 |[]=>M.pure ()
 |d::ds=>
  match d with
  | .mark r=>M.bind (defsM r) fun q=>
   match q with
   |[]=>M.bind (setM r (some (.defs none))) fun _=>leaveM E ev ds
   |_::_=>M.fail "deferred in a round"
  | .fn g args cap=>bif isCalm g E.calm then leaveM E ev ds else M.bind (ev.callD g (args++cap)) fun _=>leaveM E ev ds
noncomputable def resM (E:Env) (T:Tr AV):List ResultVar→M (List AV)
 |[]=>M.pure []
 |x::r=>
  match x with
  | .tmp t=>M.bind (resM E T r) fun vs=>M.pure (slotA T t::vs)
  | .cell p t=>withTy E t fun i=>M.bind (loadM i (slotA T p)) fun v=>M.bind (resM E T r) fun vs=>M.pure (v::vs)
noncomputable def args0:Tr AV→Nat→List AV→Tr AV
 |t,_,[]=>t
 |t,k,v::r=>args0 (t.put k (some v)) (Nat.succ k) r
noncomputable def tupOf (vs:List AV):AV:=
 match vs with
 |[]=> .tuple []
 |v::r=>match r with
  |[]=>v
  |_::_=> .tuple vs
noncomputable def isExit:AExit→Bool
 | .exit _=>true
 |_=>false
noncomputable def bodyC (fn:Func) (c:CodeC) (ev:Ev) (args:List AV):M (Tr AV × List ADef):=
 bif Nat.ble args.length fn.ntmps then
  M.bind (c ev none (.mk (args0 .nil 0 args) fn.ntmps [])) fun q=>
  bif isExit q.1 then M.fail "exit" else
  match q.2 with
  | .mk T _ ds=>M.pure (T,ds)
 else M.fail "arguments"
noncomputable def entC (E:Env) (fn:Func) (c:CodeC) (ev:Ev) (args:List AV):M AV:=M.bind (bodyC fn c ev args) fun q=>M.bind (leaveM E ev q.2) fun _=>M.bind (resM E q.1 fn.results.toList) fun vs=>M.pure (tupOf vs)
noncomputable def entD (E:Env) (fn:Func) (c:CodeC) (ev:Ev) (args:List AV):M AV:=M.bind (bodyC fn c ev args) fun q=>
 match q.2 with
 |[]=>M.bind (resM E q.1 fn.results.toList) fun vs=>M.pure (tupOf vs)
 |_::_=>M.fail "deferred: it defers"
noncomputable def fnC (E:Env) (f:FuncId):Ev→List AV→M AV:=
 match E.orc.get f with
 |some o=>fun _=>o
 |none=>match E.fn.get f with
  |none=>fun _ _=>M.fail "function"
  |some fn=>match fn.body with
   |none=>fun _ _=>M.fail "body"
   |some c=>entC E fn (codeC E c)
noncomputable def fnD (E:Env) (f:FuncId):Ev→List AV→M AV:=
 match E.fn.get f with
 |none=>fun _ _=>M.fail "function"
 |some fn=>match fn.body with
  |none=>fun _ _=>M.fail "body"
  |some c=>entD E fn (codeC E c)
noncomputable def evN (E:Env):Nat→Ev
 |0=>failEv
 |n+1=> .mk n (fun f args s=>fnC E f (evN E n) args s) (fun f args s=>fnD E f (evN E n) args s) (fun r c a s=>codeC E c (evN E n) r a s)
end Go.Proofs.YtnkjkgmohmcobaaGreatDoor.Vm
namespace Go.Proofs.YtnkjkgmohmcobaaGreatDoor.Vm
open Go
theorem forceN_eq {α:Type} (x:Nat) (k:Nat→α):forceN x k=k x:=by cases x<;>rfl
theorem forceI_eq {α:Type} (x:Int) (k:Int→α):forceI x k=k x:=by cases x<;>simp [forceI,forceN_eq]
theorem bif_true {α:Type} {b:Bool} (x y:α) (h:b=true):(bif b then x else y)=x:=by rw [h];rfl
theorem bif_false {α:Type} {b:Bool} (x y:α) (h:b=false):(bif b then x else y)=y:=by rw [h];rfl
theorem beq_true {a b:Nat} :Nat.beq a b=true↔a=b:=⟨Nat.eq_of_beq_eq_true,fun h=>by subst h;exact Nat.beq_refl a⟩
theorem ble_true {a b:Nat} :Nat.ble a b=true↔a≤b:=⟨Nat.le_of_ble_eq_true,Nat.ble_eq_true_of_le⟩
theorem blt_true {a b:Nat} :Nat.blt a b=true↔a<b:=ble_true
section
variable {α:Type}
theorem bool_rec {α:Type} (b:Bool) (x y:α):(Bool.rec x y b:α)=if b=true then y else x:=by cases b<;>rfl
theorem Tr.get_node (l:Tr α) (v:Option α) (r:Tr α) (n:Nat):(Tr.node l v r).get n=if n=0 then v else if n%2=1 then l.get (n/2) else r.get (n/2-1):=by
 show (Bool.rec (Bool.rec (r.get (n/2-1)) (l.get (n/2)) (Nat.beq (n%2) 1)) v (Nat.beq n 0):Option α)=_
 rw [bool_rec,bool_rec]
 simp only [beq_true]
theorem Tr.put1_succ (f n:Nat) (x:Option α):(Tr.put1 (f+1) n x:Tr α)=if n=0 then .node .nil x .nil else if n%2=1 then .node (Tr.put1 f (n/2) x) none .nil else .node .nil none (Tr.put1 f (n/2-1) x):=by
 show (Bool.rec (Bool.rec (Tr.node .nil none (Tr.put1 f (n/2-1) x)) (.node (Tr.put1 f (n/2) x) none .nil) (Nat.beq (n%2) 1)) (.node .nil x .nil) (Nat.beq n 0):Tr α)=_
 rw [bool_rec,bool_rec]
 simp only [beq_true]
theorem Tr.put_nil (n:Nat) (x:Option α):(Tr.nil:Tr α).put n x=Tr.put1 (n+1) n x:=rfl
theorem Tr.put_node (l:Tr α) (v:Option α) (r:Tr α) (n:Nat) (x:Option α):(Tr.node l v r).put n x=if n=0 then .node l x r else if n%2=1 then .node (l.put (n/2) x) v r else .node l v (r.put (n/2-1) x):=by
 show (Bool.rec (Bool.rec (Tr.node l v (r.put (n/2-1) x)) (.node (l.put (n/2) x) v r) (Nat.beq (n%2) 1)) (.node l x r) (Nat.beq n 0):Tr α)=_
 rw [bool_rec,bool_rec]
 simp only [beq_true]
theorem Tr.get_put1 (x:Option α):∀(f n m:Nat),n<f→(Tr.put1 f n x:Tr α).get m=if m=n then x else none
 |0,n,m,h=>by omega
 |f+1,n,m,h=>by
  rw [Tr.put1_succ]
  by_cases h0:n=0
  ·subst h0
   rw [if_pos rfl,Tr.get_node]
   by_cases hm:m=0
   ·rw [if_pos hm,if_pos hm]
   ·rw [if_neg hm,if_neg hm]
    split<;>rfl
  ·rw [if_neg h0]
   by_cases h1:n%2=1
   ·rw [if_pos h1,Tr.get_node]
    by_cases hm:m=0
    ·rw [if_pos hm,if_neg (by omega)]
    ·rw [if_neg hm]
     by_cases h2:m%2=1
     ·rw [if_pos h2,Tr.get_put1 x f (n/2) (m/2) (by omega)]
      by_cases h3:m=n
      ·rw [if_pos h3,if_pos (by omega)]
      ·rw [if_neg h3,if_neg (by omega)]
     ·rw [if_neg h2,if_neg (by omega)]
      rfl
   ·rw [if_neg h1,Tr.get_node]
    by_cases hm:m=0
    ·rw [if_pos hm,if_neg (by omega)]
    ·rw [if_neg hm]
     by_cases h2:m%2=1
     ·rw [if_pos h2,if_neg (by omega)]
      rfl
     ·rw [if_neg h2,Tr.get_put1 x f (n/2-1) (m/2-1) (by omega)]
      by_cases h3:m=n
      ·rw [if_pos h3,if_pos (by omega)]
      ·rw [if_neg h3,if_neg (by omega)]
theorem Tr.get_put (x:Option α):∀(t:Tr α) (n m:Nat),(t.put n x).get m=if m=n then x else t.get m
 | .nil,n,m=>by
  rw [Tr.put_nil,Tr.get_put1 x (n+1) n m (by omega)]
  rfl
 | .node l v r,n,m=>by
  rw [Tr.put_node]
  by_cases h0:n=0
  ·subst h0
   rw [if_pos rfl,Tr.get_node,Tr.get_node]
   by_cases hm:m=0
   ·rw [if_pos hm,if_pos hm]
   ·rw [if_neg hm,if_neg hm,if_neg hm]
  ·rw [if_neg h0]
   by_cases h1:n%2=1
   ·rw [if_pos h1,Tr.get_node,Tr.get_node]
    by_cases hm:m=0
    ·rw [if_pos hm,if_neg (by omega),if_pos hm]
    ·rw [if_neg hm,if_neg hm]
     by_cases h2:m%2=1
     ·rw [if_pos h2,if_pos h2,Tr.get_put x l]
      by_cases h3:m=n
      ·rw [if_pos h3,if_pos (by omega)]
      ·rw [if_neg h3,if_neg (by omega)]
     ·rw [if_neg h2,if_neg h2,if_neg (by omega)]
   ·rw [if_neg h1,Tr.get_node,Tr.get_node]
    by_cases hm:m=0
    ·rw [if_pos hm,if_neg (by omega),if_pos hm]
    ·rw [if_neg hm,if_neg hm]
     by_cases h2:m%2=1
     ·rw [if_pos h2,if_pos h2,if_neg (by omega)]
     ·rw [if_neg h2,if_neg h2,Tr.get_put x r]
      by_cases h3:m=n
      ·rw [if_pos h3,if_pos (by omega)]
      ·rw [if_neg h3,if_neg (by omega)]
end
section
variable {α β:Type} {s s':St}
theorem M.bind_ok {m:M α} {k:α→M β} {y:β} :M.bind m k s= .ok y s'↔ ∃x s1,m s= .ok x s1∧k x s1= .ok y s':=by
 unfold M.bind
 cases hm:m s with
 |ok a t=>
  constructor
  ·intro h;exact ⟨a,t,rfl,h⟩
  ·rintro ⟨x,s1,h1,h2⟩
   injection h1 with h3 h4
   subst h3 h4
   exact h2
 |err e=>exact ⟨fun h=>(by cases h),fun ⟨x,s1,h1,_⟩=>(by cases h1)⟩
theorem M.pure_ok {a b:α} :M.pure a s= .ok b s'↔b=a∧s'=s:=by
 simp [M.pure,eq_comm]
theorem M.fail_ok {e:String} {b:α} :M.fail e s= .ok b s'↔False:=by simp [M.fail]
theorem M.of_ok {o:Option α} {e:String} {b:α} :M.of o e s= .ok b s'↔o=some b∧s'=s:=by
 unfold M.of
 cases o with
 |none=>exact ⟨fun h=>(by cases h),fun ⟨h1,_⟩=>(by cases h1)⟩
 |some a=>exact ⟨fun h=>(by injection h with h1 h2;exact ⟨by rw [h1],h2.symm⟩),fun ⟨h1,h2⟩=>(by injection h1 with h1;subst h1 h2;rfl)⟩
theorem getM_ok {n:Nat} {o:AObj} :getM n s= .ok o s'↔n<s.c∧s.h.get n=some o∧s'= .mk s.h s.c (s.r.add n) s.w:=by
 obtain ⟨h,c,r,w⟩:=s
 unfold getM
 simp only [St.h,St.c,St.r,St.w]
 cases hb:Nat.ble c n with
 |true=>
  have:=ble_true.1 hb
  simp only [cond_true,reduceCtorEq,false_iff]
  omega
 |false=>
  have hn:n<c:=by
   rcases Nat.lt_or_ge n c with h1|h1
   ·exact h1
   ·rw [ble_true.2 h1] at hb;cases hb
  cases hg:h.get n<;>simp [hn,eq_comm]
theorem setM_ok {n:Nat} {o:Option AObj} {u:Unit} :setM n o s= .ok u s'↔n<s.c∧s'= .mk (s.h.put n o) s.c s.r (s.w.add n):=by
 obtain ⟨h,c,r,w⟩:=s
 unfold setM
 simp only [St.h,St.c,St.r,St.w]
 cases hb:Nat.ble c n with
 |true=>
  have:=ble_true.1 hb
  simp only [cond_true,reduceCtorEq,false_iff]
  omega
 |false=>
  have hn:n<c:=by
   rcases Nat.lt_or_ge n c with h1|h1
   ·exact h1
   ·rw [ble_true.2 h1] at hb;cases hb
  simp [hn,eq_comm]
theorem newM_ok {o:AObj} {n:Nat} :newM o s= .ok n s'↔n=s.c∧s'= .mk (s.h.put s.c (some o)) (s.c+1) s.r (s.w.add s.c):=by
 obtain ⟨h,c,r,w⟩:=s
 unfold newM
 simp only [St.h,St.c,St.r,St.w,forceN_eq,Rs.ok.injEq,eq_comm (a:=c)]
 exact ⟨fun ⟨a,b⟩=>⟨a,b.symm⟩,fun ⟨a,b⟩=>⟨a,b.symm⟩⟩
theorem withTy_ok {E:Env} {t:TypeId} {k:TyI→M α} {b:α} :withTy E t k s= .ok b s'↔ ∃i,E.ty.get t=some i∧k i s= .ok b s':=by
 unfold withTy
 cases E.ty.get t<;>simp
def Alike (s s':St):Prop:=s'.h=s.h∧s'.c=s.c
theorem Alike.refl (s:St):Alike s s:=⟨rfl,rfl⟩
theorem Alike.trans {s1:St} (h:Alike s s1) (h':Alike s1 s'):Alike s s':=⟨h'.1.trans h.1,h'.2.trans h.2⟩
theorem getM_alike {n:Nat} {o:AObj} (h:getM n s= .ok o s'):s.h.get n=some o∧Alike s s':=by
 obtain ⟨_,h1,rfl⟩:=getM_ok.1 h
 exact ⟨h1,rfl,rfl⟩
theorem rowM_ok {n:Nat} {q:TypeId × List AV} (h:rowM n s= .ok q s'):s.h.get n=some (.row q.1 q.2)∧n<s.c∧Alike s s':=by
 unfold rowM at h
 obtain ⟨o,s1,h1,h2⟩:=M.bind_ok.1 h
 obtain ⟨hlt,h3,rfl⟩:=getM_ok.1 h1
 obtain ⟨h4,rfl⟩:=M.of_ok.1 h2
 cases o<;>simp only [rowO,Option.some.injEq,reduceCtorEq] at h4
 subst h4
 exact ⟨h3,hlt,rfl,rfl⟩
end
def Ren:=Nat→Option (Nat × Nat × Nat)
def Ren.le (ρ ρ':Ren):Prop:=∀n p,ρ n=some p→ρ' n=some p
theorem Ren.le_refl (ρ:Ren):ρ.le ρ:=fun _ _ h=>h
theorem Ren.le_trans {ρ ρ1 ρ2:Ren} (h:ρ.le ρ1) (h':ρ1.le ρ2):ρ.le ρ2:=fun n p e=>h' n p (h n p e)
noncomputable def bytesV (l n:Nat):List Value:=(unpack l n).map byteV
def isOne:AV→Bool
 | .agg _=>false
 | .tuple _=>false
 | .bytes _ _=>false
 | .any=>false
 | .but _ _=>false
 |_=>true
def capR (cap:Option Nat) (c off es κ:Nat):Prop:=
 match cap with
 |some c'=>c=c'
 |none=>off+c*es=κ
def XOf (b:Option (Nat × Nat)) (one:Bool) (us:List Value) (V:Value→Prop):Prop:=
 match b with
 |some p=>us=bytesV p.1 p.2∧p.2<2^(8*p.1)
 |none=>one=true∧∃v,us=[v]∧V v
mutual
def VRel (ρ:Ren):AV→Value→Prop
 | .int k n,v=>v= .int k n
 | .bool b,v=>v= .bool b
 | .str s,v=>v= .string s
 | .nilp,v=>v= .pointer none
 | .ptr n off,v=>∃p,ρ n=some p∧v= .pointer (some ⟨p.1,p.2.1+off,none⟩)
 | .nilslice,v=>v= .slice none 0 0
 | .slice n off len cap es,v=>∃p c,ρ n=some p∧v= .slice (some ⟨p.1,p.2.1+off,none⟩) len c∧len≤c∧capR cap c off es p.2.2
 | .empty,v=>∃a c,v= .slice (some a) 0 c
 | .nilmap,v=>v= .map none
 | .map n,v=>∃p,ρ n=some p∧v= .map (some p.1)
 | .nilfunc,v=>v= .nilFunc
 | .func f a b,v=>∃x y:Array Value,v= .func (.func f) x y∧LRel ρ a x.toList∧LRel ρ b y.toList
 | .yield n,v=>∃p,ρ n=some p∧v= .func (.yield p.1) #[] #[]
 | .niliface,v=>v= .nilIface
 | .iface t x,v=>∃u,v= .iface t u∧VRel ρ x u
 | .agg cs,v=>∃a:Array Value,v= .agg a∧CRel ρ cs a.toList
 | .tuple vs,v=>∃a:Array Value,v= .tuple a∧LRel ρ vs a.toList
 | .bytes _ _,_=>False
 | .any,_=>True
 | .but k l,v=>∃n,v= .int k n∧n∉l
def LRel (ρ:Ren):List AV→List Value→Prop
 |[],vs=>vs=[]
 |a::r,vs=>∃v vs',vs=v::vs'∧VRel ρ a v∧LRel ρ r vs'
def CRel (ρ:Ren):List AV→List Value→Prop
 |[],vs=>vs=[]
 |a::r,vs=>∃us vs',vs=us++vs'∧XOf (isB a) (isOne a) us (fun v=>VRel ρ a v)∧CRel ρ r vs'
end
theorem XOf.mono {b:Option (Nat × Nat)} {one:Bool} {us:List Value} {V V':Value→Prop} (hV:∀v,V v→V' v) (h:XOf b one us V):XOf b one us V':=by
 cases b with
 |some p=>exact h
 |none=>
  obtain ⟨h1,v,h2,h3⟩:=h
  exact ⟨h1,v,h2,hV v h3⟩
mutual
theorem VRel.mono {ρ ρ':Ren} (hl:ρ.le ρ'):∀(a:AV) (v:Value),VRel ρ a v→VRel ρ' a v
 | .int _ _,_,h=>h
 | .bool _,_,h=>h
 | .str _,_,h=>h
 | .nilp,_,h=>h
 | .ptr n off,v,h=>by
  obtain ⟨p,h1,h2⟩:=h
  exact ⟨p,hl _ _ h1,h2⟩
 | .nilslice,_,h=>h
 | .slice n off len cap es,v,h=>by
  obtain ⟨p,c,h1,h2⟩:=h
  exact ⟨p,c,hl _ _ h1,h2⟩
 | .empty,_,h=>h
 | .nilmap,_,h=>h
 | .map n,v,h=>by
  obtain ⟨p,h1,h2⟩:=h
  exact ⟨p,hl _ _ h1,h2⟩
 | .nilfunc,_,h=>h
 | .func f a b,v,h=>by
  obtain ⟨x,y,h1,h2,h3⟩:=h
  exact ⟨x,y,h1,LRel.mono hl a _ h2,LRel.mono hl b _ h3⟩
 | .yield n,v,h=>by
  obtain ⟨p,h1,h2⟩:=h
  exact ⟨p,hl _ _ h1,h2⟩
 | .niliface,_,h=>h
 | .iface t x,v,h=>by
  obtain ⟨u,h1,h2⟩:=h
  exact ⟨u,h1,VRel.mono hl x u h2⟩
 | .agg cs,v,h=>by
  obtain ⟨a,h1,h2⟩:=h
  exact ⟨a,h1,CRel.mono hl cs _ h2⟩
 | .tuple vs,v,h=>by
  obtain ⟨a,h1,h2⟩:=h
  exact ⟨a,h1,LRel.mono hl vs _ h2⟩
 | .bytes _ _,_,h=>h
 | .any,_,h=>h
 | .but _ _,_,h=>h
theorem LRel.mono {ρ ρ':Ren} (hl:ρ.le ρ'):∀(l:List AV) (vs:List Value),LRel ρ l vs→LRel ρ' l vs
 |[],_,h=>h
 |a::r,vs,h=>by
  obtain ⟨v,vs',h1,h2,h3⟩:=h
  exact ⟨v,vs',h1,VRel.mono hl a v h2,LRel.mono hl r vs' h3⟩
theorem CRel.mono {ρ ρ':Ren} (hl:ρ.le ρ'):∀(l:List AV) (vs:List Value),CRel ρ l vs→CRel ρ' l vs
 |[],_,h=>h
 |a::r,vs,h=>by
  obtain ⟨us,vs',h1,h2,h3⟩:=h
  exact ⟨us,vs',h1,XOf.mono (fun v hv=>VRel.mono hl a v hv) h2,CRel.mono hl r vs' h3⟩
end
section
variable {ρ:Ren}
theorem CRel.nil:CRel ρ [] []:=by simp [CRel]
theorem CRel.nil_iff {vs:List Value} :CRel ρ [] vs↔vs=[]:=by simp [CRel]
theorem CRel.cons_iff {a:AV} {r:List AV} {vs:List Value} :CRel ρ (a::r) vs↔ ∃us vs',vs=us++vs'∧XOf (isB a) (isOne a) us (fun v=>VRel ρ a v)∧CRel ρ r vs':=by
 rw [CRel]
theorem LRel.nil_iff {vs:List Value} :LRel ρ [] vs↔vs=[]:=by simp [LRel]
theorem LRel.cons_iff {a:AV} {r:List AV} {vs:List Value} :LRel ρ (a::r) vs↔ ∃v vs',vs=v::vs'∧VRel ρ a v∧LRel ρ r vs':=by
 rw [LRel]
theorem unpack_length:∀(l n:Nat),(unpack l n).length=l
 |0,_=>rfl
 |l+1,n=>by rw [unpack,List.length_cons,unpack_length l]
theorem bytesV_length (l n:Nat):(bytesV l n).length=l:=by rw [bytesV,List.length_map,unpack_length]
theorem XOf.length {a:AV} {us:List Value} (h:XOf (isB a) (isOne a) us (fun v=>VRel ρ a v)):us.length=(match isB a with|some (l,_)=>l|none=>1):=by
 cases hb:isB a with
 |some p=>
  rw [hb] at h
  rw [h.1,bytesV_length]
 |none=>
  rw [hb] at h
  obtain ⟨_,v,rfl,_⟩:=h
  rfl
theorem CRel.length:∀(l:List AV) {vs:List Value},CRel ρ l vs→vs.length=lenC l
 |[],vs,h=>by rw [CRel.nil_iff.1 h];rfl
 |a::r,vs,h=>by
  obtain ⟨us,vs',rfl,h2,h3⟩:=CRel.cons_iff.1 h
  rw [List.length_append,CRel.length r h3,XOf.length h2]
  rfl
theorem LRel.length:∀(l:List AV) {vs:List Value},LRel ρ l vs→vs.length=l.length
 |[],vs,h=>by rw [LRel.nil_iff.1 h];rfl
 |a::r,vs,h=>by
  obtain ⟨v,vs',rfl,h2,h3⟩:=LRel.cons_iff.1 h
  rw [List.length_cons,LRel.length r h3,List.length_cons]
theorem LRel.append:∀{l m:List AV} {us vs:List Value},LRel ρ l us→LRel ρ m vs→LRel ρ (l++m) (us++vs)
 |[],m,us,vs,h,h'=>by rw [LRel.nil_iff.1 h];exact h'
 |a::r,m,us,vs,h,h'=>by
  obtain ⟨v,us',rfl,h2,h3⟩:=LRel.cons_iff.1 h
  exact LRel.cons_iff.2 ⟨v,us'++vs,rfl,h2,LRel.append h3 h'⟩
theorem LRel.get:∀{l:List AV} {vs:List Value} {i:Nat} {a:AV},LRel ρ l vs→l[i]?=some a→∃v,vs[i]?=some v∧VRel ρ a v
 |[],vs,i,a,h,h'=>by simp at h'
 |x::r,vs,i,a,h,h'=>by
  obtain ⟨v,vs',rfl,h2,h3⟩:=LRel.cons_iff.1 h
  cases i with
  |zero=>
   obtain rfl:x=a:=by simpa using h'
   exact ⟨v,rfl,h2⟩
  |succ i=>exact LRel.get (i:=i) h3 (by simpa using h')
theorem unpack_split (n:Nat):∀(k l:Nat),k≤l→unpack l n=unpack k (n%2^(8*k))++unpack (l-k) (n>>>(8*k))
 |k,l,h=>by
  induction k generalizing n l with
  |zero=>simp [unpack]
  |succ k ih=>
   cases l with
   |zero=>omega
   |succ l=>
    have e1:n%2^(8*(k+1))%256=n%256:=by
     rw [show (256:Nat)=2^8 from rfl]
     exact Nat.mod_mod_of_dvd n (Nat.pow_dvd_pow 2 (by omega))
    have e2:n%2^(8*(k+1))/256=(n/256)%2^(8*k):=by
     rw [show 8*(k+1)=8*k+8 by omega,Nat.pow_add,show (2:Nat)^8=256 from rfl,Nat.mul_comm,Nat.mod_mul_right_div_self]
    have e3:n>>>(8*(k+1))=(n/256)>>>(8*k):=by
     rw [Nat.shiftRight_eq_div_pow,Nat.shiftRight_eq_div_pow,Nat.div_div_eq_div_mul,show (256:Nat)=2^8 from rfl, ← Nat.pow_add]
     congr 2
     omega
    show UInt8.ofNat (n%256)::unpack l (n/256)=(UInt8.ofNat (n%2^(8*(k+1))%256)::unpack k (n%2^(8*(k+1))/256))++unpack (l+1-(k+1)) (n>>>(8*(k+1)))
    rw [e1,e2,e3,ih (n/256) l (by omega),show l+1-(k+1)=l-k by omega]
    rfl
theorem unpack_join (l l2 n n2:Nat) (hn:n<2^(8*l)):unpack (l+l2) (n+n2<<<(8*l))=unpack l n++unpack l2 n2:=by
 rw [unpack_split (n+n2<<<(8*l)) l (l+l2) (by omega),show l+l2-l=l2 by omega]
 have e1:(n+n2<<<(8*l))%2^(8*l)=n:=by
  rw [Nat.shiftLeft_eq,Nat.add_mul_mod_self_right,Nat.mod_eq_of_lt hn]
 have e2:(n+n2<<<(8*l))>>>(8*l)=n2:=by
  rw [Nat.shiftLeft_eq,Nat.shiftRight_eq_div_pow,Nat.add_mul_div_right _ _ (Nat.two_pow_pos _),Nat.div_eq_of_lt hn,Nat.zero_add]
 rw [e1,e2]
theorem join_lt (l l2 n n2:Nat) (hn:n<2^(8*l)) (h2:n2<2^(8*l2)):n+n2<<<(8*l)<2^(8*(l+l2)):=by
 rw [Nat.shiftLeft_eq,show 8*(l+l2)=8*l2+8*l by omega,Nat.pow_add]
 have:(n2+1)*2^(8*l)≤2^(8*l2)*2^(8*l):=Nat.mul_le_mul_right _ h2
 rw [Nat.add_mul,Nat.one_mul] at this
 omega
theorem shr_lt (l k n:Nat) (hk:k≤l) (hn:n<2^(8*l)):n>>>(8*k)<2^(8*(l-k)):=by
 rw [Nat.shiftRight_eq_div_pow,Nat.div_lt_iff_lt_mul (Nat.two_pow_pos _), ← Nat.pow_add]
 rwa [show 8*(l-k)+8*k=8*l by omega]
theorem isB_some {a:AV} {l n:Nat} (h:isB a=some (l,n)):a= .bytes l n:=by
 cases a<;>simp only [isB,Option.some.injEq,reduceCtorEq,Prod.mk.injEq] at h
 obtain ⟨rfl,rfl⟩:=h
 rfl
theorem CRel.bytes_iff {l n:Nat} {r:List AV} {vs:List Value} :CRel ρ (.bytes l n::r) vs↔ ∃vs',vs=bytesV l n++vs'∧n<2^(8*l)∧CRel ρ r vs':=by
 rw [CRel.cons_iff]
 constructor
 ·rintro ⟨us,vs',rfl,⟨rfl,h2⟩,h3⟩
  exact ⟨vs',rfl,h2,h3⟩
 ·rintro ⟨vs',rfl,h2,h3⟩
  exact ⟨_,vs',rfl,⟨rfl,h2⟩,h3⟩
theorem CRel.one_iff {a:AV} {r:List AV} {vs:List Value} (hb:isB a=none):CRel ρ (a::r) vs↔ ∃v vs',vs=v::vs'∧isOne a=true∧VRel ρ a v∧CRel ρ r vs':=by
 rw [CRel.cons_iff,hb]
 constructor
 ·rintro ⟨us,vs',rfl,⟨h1,v,rfl,h2⟩,h3⟩
  exact ⟨v,vs',rfl,h1,h2,h3⟩
 ·rintro ⟨v,vs',rfl,h1,h2,h3⟩
  exact ⟨[v],vs',rfl,⟨h1,v,rfl,h2⟩,h3⟩
theorem splitC_rel:∀(l:List AV) {k:Nat} {x y:List AV} {vs:List Value},splitC l k=some (x,y)→CRel ρ l vs→CRel ρ x (vs.take k)∧CRel ρ y (vs.drop k)∧k≤vs.length
 |[],k,x,y,vs,h,hr=>by
  unfold splitC at h
  cases hb:Nat.beq k 0 with
  |true=>
   rw [bif_true _ _ hb] at h
   obtain rfl:=beq_true.1 hb
   simp only [Option.some.injEq,Prod.mk.injEq] at h
   obtain ⟨rfl,rfl⟩:=h
   rw [CRel.nil_iff.1 hr]
   exact ⟨CRel.nil,CRel.nil,Nat.zero_le _⟩
  |false=>rw [bif_false _ _ hb] at h;cases h
 |a::r,k,x,y,vs,h,hr=>by
  unfold splitC at h
  cases hb:Nat.beq k 0 with
  |true=>
   rw [bif_true _ _ hb] at h
   obtain rfl:=beq_true.1 hb
   simp only [Option.some.injEq,Prod.mk.injEq] at h
   obtain ⟨rfl,rfl⟩:=h
   exact ⟨CRel.nil,hr,Nat.zero_le _⟩
  |false=>
   rw [bif_false _ _ hb] at h
   have hk:k≠0:=fun e=>by rw [beq_true.2 e] at hb;cases hb
   cases ha:isB a with
   |some p=>
    obtain ⟨l,n⟩:=p
    obtain rfl:=isB_some ha
    simp only [ha] at h
    obtain ⟨vs',rfl,hn,h3⟩:=CRel.bytes_iff.1 hr
    have hl:=bytesV_length l n
    cases hlk:Nat.ble l k with
    |true=>
     rw [bif_true _ _ hlk] at h
     have hle:=ble_true.1 hlk
     cases hs:splitC r (Nat.sub k l) with
     |none=>rw [hs] at h;cases h
     |some q=>
      obtain ⟨x',y'⟩:=q
      rw [hs] at h
      simp only [Option.some.injEq,Prod.mk.injEq] at h
      obtain ⟨rfl,rfl⟩:=h
      obtain ⟨g1,g2,g3⟩:=splitC_rel r hs h3
      have e:k=(bytesV l n).length+(k-l):=by omega
      refine ⟨?_,?_,?_⟩
      ·rw [e,List.take_length_add_append]
       exact CRel.bytes_iff.2 ⟨_,rfl,hn,g1⟩
      ·rw [e,List.drop_length_add_append]
       exact g2
      ·rw [List.length_append,hl]
       have:Nat.sub k l=k-l:=rfl
       omega
    |false=>
     rw [bif_false _ _ hlk] at h
     have hlt:k<l:=by
      rcases Nat.lt_or_ge k l with h1|h1
      ·exact h1
      ·rw [ble_true.2 h1] at hlk;cases hlk
     simp only [Option.some.injEq,Prod.mk.injEq] at h
     obtain ⟨rfl,rfl⟩:=h
     have e:bytesV l n=bytesV k (n%2^(8*k))++bytesV (l-k) (n>>>(8*k)):=by
      unfold bytesV
      rw [unpack_split n k l (by omega),List.map_append]
     have hlk2:=bytesV_length k (n%2^(8*k))
     refine ⟨?_,?_,?_⟩
     ·rw [e,List.append_assoc,List.take_append_of_le_length (by omega),List.take_of_length_le (by omega)]
      exact CRel.bytes_iff.2 ⟨[],(List.append_nil _).symm,Nat.mod_lt _ (Nat.two_pow_pos _),CRel.nil⟩
     ·rw [e,List.append_assoc,List.drop_append_of_le_length (by omega),List.drop_of_length_le (by omega),List.nil_append]
      exact CRel.bytes_iff.2 ⟨vs',rfl,shr_lt l k n (by omega) hn,h3⟩
     ·rw [List.length_append]
      omega
   |none=>
    simp only [ha] at h
    obtain ⟨v,vs',rfl,h1,h2,h3⟩:=(CRel.one_iff ha).1 hr
    cases hs:splitC r (Nat.sub k 1) with
    |none=>rw [hs] at h;cases h
    |some q=>
     obtain ⟨x',y'⟩:=q
     rw [hs] at h
     simp only [Option.some.injEq,Prod.mk.injEq] at h
     obtain ⟨rfl,rfl⟩:=h
     obtain ⟨g1,g2,g3⟩:=splitC_rel r hs h3
     have e:k=(k-1)+1:=by omega
     have e':Nat.sub k 1=k-1:=rfl
     refine ⟨?_,?_,?_⟩
     ·rw [e,List.take_succ_cons]
      exact (CRel.one_iff ha).2 ⟨v,_,rfl,h1,h2,g1⟩
     ·rw [e,List.drop_succ_cons]
      exact g2
     ·rw [List.length_cons]
      omega
theorem joinB_rel {l n:Nat} {us vs:List Value} {y:List AV} (hu:us=bytesV l n) (hn:n<2^(8*l)) (hy:CRel ρ y vs):CRel ρ (joinB l n y) (us++vs):=by
 subst hu
 cases y with
 |nil=>
  rw [CRel.nil_iff.1 hy]
  exact CRel.bytes_iff.2 ⟨[],rfl,hn,CRel.nil⟩
 |cons b r=>
  cases hb:isB b with
  |none=>
   simp only [joinB,hb]
   exact CRel.bytes_iff.2 ⟨vs,rfl,hn,hy⟩
  |some p=>
   obtain ⟨l2,n2⟩:=p
   obtain rfl:=isB_some hb
   obtain ⟨vs',rfl,hn2,h3⟩:=CRel.bytes_iff.1 hy
   simp only [joinB,hb,forceN_eq]
   refine CRel.bytes_iff.2 ⟨vs',?_,join_lt l l2 n n2 hn hn2,h3⟩
   rw [← List.append_assoc]
   congr 1
   unfold bytesV
   rw [← List.map_append]
   exact congrArg _ (unpack_join l l2 n n2 hn).symm
theorem joinC_rel:∀(x:List AV) {y:List AV} {us vs:List Value},CRel ρ x us→CRel ρ y vs→CRel ρ (joinC x y) (us++vs)
 |[],y,us,vs,h,h'=>by rw [CRel.nil_iff.1 h];exact h'
 |[a],y,us,vs,h,h'=>by
  unfold joinC
  cases ha:isB a with
  |some p=>
   obtain ⟨l,n⟩:=p
   obtain rfl:=isB_some ha
   obtain ⟨vs',rfl,hn,h3⟩:=CRel.bytes_iff.1 h
   rw [CRel.nil_iff.1 h3,List.append_nil]
   exact joinB_rel rfl hn h'
  |none=>
   obtain ⟨v,vs',rfl,h1,h2,h3⟩:=(CRel.one_iff ha).1 h
   rw [CRel.nil_iff.1 h3]
   exact (CRel.one_iff ha).2 ⟨v,vs,rfl,h1,h2,h'⟩
 |a::b::r,y,us,vs,h,h'=>by
  unfold joinC
  obtain ⟨u,us',rfl,h2,h3⟩:=CRel.cons_iff.1 h
  exact CRel.cons_iff.2 ⟨u,us'++vs,by rw [List.append_assoc],h2,joinC_rel (b::r) h3 h'⟩
theorem loadC_rel {cs l:List AV} {off k:Nat} {vs:List Value} (h:loadC cs off k=some l) (hr:CRel ρ cs vs):CRel ρ l ((vs.drop off).take k)∧off+k≤vs.length:=by
 unfold loadC at h
 cases h1:splitC cs off with
 |none=>rw [h1] at h;cases h
 |some q=>
  obtain ⟨x,y⟩:=q
  rw [h1] at h
  simp only at h
  cases h2:splitC y k with
  |none=>rw [h2] at h;cases h
  |some q2=>
   obtain ⟨z,t⟩:=q2
   rw [h2] at h
   simp only [Option.some.injEq] at h
   subst h
   obtain ⟨_,g2,g3⟩:=splitC_rel cs h1 hr
   obtain ⟨f1,_,f3⟩:=splitC_rel y h2 g2
   rw [List.length_drop] at f3
   exact ⟨f1,by omega⟩
theorem storeC_rel {cs new cs':List AV} {off k:Nat} {vs us:List Value} (h:storeC cs off k new=some cs') (hr:CRel ρ cs vs) (hn:CRel ρ new us):CRel ρ cs' (vs.take off++(us++vs.drop (off+k)))∧off+k≤vs.length:=by
 unfold storeC at h
 cases h1:splitC cs off with
 |none=>rw [h1] at h;cases h
 |some q=>
  obtain ⟨x,y⟩:=q
  rw [h1] at h
  simp only at h
  cases h2:splitC y k with
  |none=>rw [h2] at h;cases h
  |some q2=>
   obtain ⟨z,t⟩:=q2
   rw [h2] at h
   simp only [Option.some.injEq] at h
   subst h
   obtain ⟨g1,g2,g3⟩:=splitC_rel cs h1 hr
   obtain ⟨_,f2,f3⟩:=splitC_rel y h2 g2
   rw [List.length_drop] at f3
   rw [List.drop_drop] at f2
   exact ⟨joinC_rel x g1 (joinC_rel new hn f2),by omega⟩
theorem byteOf_some {n:Int} {b:Nat} (h:byteOf n=some b):n=(b:Int)∧b≤255:=by
 unfold byteOf at h
 cases n with
 |ofNat m=>
  cases hm:Nat.ble m 255 with
  |true=>
   simp only [hm,cond_true,Option.some.injEq] at h
   subst h
   exact ⟨rfl,ble_true.1 hm⟩
  |false=>simp [hm] at h
 |negSucc m=>cases h
theorem isU8_true {k:IntKind} (h:isU8 k=true):k= .u8:=by cases k<;>first|rfl|cases h
theorem bytesV_one (b:Nat) (h:b≤255):bytesV 1 b=[.int .u8 (b:Int)]:=by
 have:(UInt8.ofNat b).toNat=b:=by rw [UInt8.toNat_ofNat'];omega
 show [byteV (UInt8.ofNat (b%256))]=_
 rw [Nat.mod_eq_of_lt (show b<256 by omega)]
 unfold byteV
 rw [this]
theorem isOne_cells {a:AV} {v:Value} (h1:isOne a=true) (h:VRel ρ a v):v.cells= #[v]∧v.oneCell'=true:=by
 cases a<;>simp only [isOne,Bool.false_eq_true] at h1<;>simp only [VRel] at h
 case ptr=>obtain ⟨p,_,rfl⟩:=h;exact ⟨rfl,rfl⟩
 case slice=>obtain ⟨p,c,_,rfl,_⟩:=h;exact ⟨rfl,rfl⟩
 case empty=>obtain ⟨a,c,rfl⟩:=h;exact ⟨rfl,rfl⟩
 case map=>obtain ⟨p,_,rfl⟩:=h;exact ⟨rfl,rfl⟩
 case func=>obtain ⟨x,y,rfl,_⟩:=h;exact ⟨rfl,rfl⟩
 case yield=>obtain ⟨p,_,rfl⟩:=h;exact ⟨rfl,rfl⟩
 case iface=>obtain ⟨u,rfl,_⟩:=h;exact ⟨rfl,rfl⟩
 all_goals (subst h;exact ⟨rfl,rfl⟩)
theorem cellsO_rel {a:AV} {v:Value} {cs:List AV} (h:cellsO a=some cs) (hv:VRel ρ a v):CRel ρ cs v.cells.toList:=by
 have one:∀{a:AV},isB a=none→isOne a=true→VRel ρ a v→CRel ρ [a] v.cells.toList:=by
  intro a hb h1 hv
  rw [(isOne_cells h1 hv).1]
  exact (CRel.one_iff hb).2 ⟨v,[],rfl,h1,hv,CRel.nil⟩
 cases a<;>simp only [cellsO,Option.some.injEq,reduceCtorEq] at h
 case int k n=>
  cases hk:isU8 k with
  |true=>
   rw [bif_true _ _ hk] at h
   cases hb:byteOf n with
   |none=>rw [hb] at h;cases h
   |some b=>
    rw [hb] at h
    simp only [Option.some.injEq] at h
    subst h
    obtain ⟨rfl,hb2⟩:=byteOf_some hb
    obtain rfl:=isU8_true hk
    have:v= .int .u8 (b:Int):=hv
    subst this
    exact CRel.bytes_iff.2 ⟨[],by rw [bytesV_one b hb2];rfl,show b<256 by omega,CRel.nil⟩
  |false=>
   rw [bif_false _ _ hk] at h
   simp only [Option.some.injEq] at h
   subst h
   exact one rfl rfl hv
 case agg=>
  subst h
  obtain ⟨x,rfl,h2⟩:=hv
  exact h2
 all_goals (subst h;exact one rfl rfl hv)
theorem oneA_rel {l:List AV} {a:AV} {vs:List Value} (h:oneA l=some a) (hr:CRel ρ l vs):∃v,vs=[v]∧VRel ρ a v:=by
 unfold oneA at h
 split at h
 ·rename_i x
  cases hb:isB x with
  |some p=>
   obtain ⟨l,n⟩:=p
   obtain rfl:=isB_some hb
   simp only [hb] at h
   cases hl:Nat.beq l 1 with
   |true=>
    rw [bif_true _ _ hl] at h
    obtain rfl:=beq_true.1 hl
    simp only [Option.some.injEq] at h
    subst h
    obtain ⟨vs',rfl,hn,h3⟩:=CRel.bytes_iff.1 hr
    have hn':n<256:=hn
    rw [CRel.nil_iff.1 h3,List.append_nil,bytesV_one n (by omega)]
    exact ⟨_,rfl,rfl⟩
   |false=>rw [bif_false _ _ hl] at h;cases h
  |none=>
   simp only [hb,Option.some.injEq] at h
   subst h
   obtain ⟨v,vs',rfl,_,h2,h3⟩:=(CRel.one_iff hb).1 hr
   rw [CRel.nil_iff.1 h3]
   exact ⟨v,rfl,h2⟩
 ·cases h
end
end Go.Proofs.YtnkjkgmohmcobaaGreatDoor.Vm
