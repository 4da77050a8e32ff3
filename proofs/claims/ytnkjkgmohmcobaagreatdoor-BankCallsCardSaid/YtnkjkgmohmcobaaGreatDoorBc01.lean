/-
  Texts of this claim, joined: Mem, RO, App, NC, Ins, RA, RB, JA, JB, WC.
-/
import Derived.Test.YtnkjkgmohmcobaaGreatDoorProg
import Derived.WalkKit
import Derived.WalkLawsBesides
import Derived.Lib.Hide
import Derived.Deep.AppendLies
import Derived.Deep.Draws
import Derived.Maps.AppendAt
import Derived.Deep.OwnRows
import Derived.Laws.Rows
import Derived.RegionTactic
import Derived.OwnWalk
import Derived.RangeFuncNested
import Derived.Laws.CopyRow
import Derived.Laws.CopyOwn
import Derived.Lib.AppendZerosOnto
import Derived.Lib.Overlaps
import Derived.Deep.RegionLaw
import Derived.RangeFuncBound
import Derived.RangeFuncCalls
import Derived.RangeFuncLeaves
import Derived.Shelf.Abstract
import Derived.Shelf.RegionOpen
import Derived.OwnWalkIn
import Derived.TacticsInMore
import Derived.LoopNIn
import Derived.LoopIn
import Derived.Deep.Cut
import Derived.Deep.DeepCutAuto
import Derived.Deep.QuietTactic
import Derived.BigQuiet
import Derived.Deep.RegionHeld3
import Derived.WalkSpells
import Derived.Laws.BytesArg
set_option maxHeartbeats 6400000
set_option maxRecDepth 100000
namespace Go.Proofs.YtnkjkgmohmcobaaGreatDoor
open Go.RowKit
theorem block_of_add (a:Addr) (n:Nat):(a.add n).block=a.block:=by unfold Addr.add;split<;>rfl
theorem add_of_add (a:Addr) (i j:Nat):(a.add i).add j=a.add (i+j):=by
 unfold Addr.add
 by_cases hi:i=0<;>by_cases hj:j=0<;>simp [hi,hj,Nat.add_assoc]
theorem add_plain (b o n:Nat):(⟨b,o,none⟩:Addr).add n=⟨b,o+n,none⟩:=by unfold Addr.add;split<;>simp_all
theorem hide {p:Prop} (h:p):Hid p:=h
def Reads (w:World) (B size:Nat) (A:Option Addr) (n:Nat) (xs:List Value):Prop:=
 xs.length=n*size∧(0<n→∃ad,A=some ad∧ad.block<B∧∀j u,xs[j]?=some u→w.cell? (ad.add j)=some u)
section
variable {w w':World} {B B' size n:Nat} {A:Option Addr} {xs:List Value}
theorem Reads.none_:Reads w B size A 0 []:=⟨by simp,fun h=>absurd h (by omega)⟩
theorem Reads.keep (h:Reads w B size A n xs) (hk:∀p:Addr,p.block<B→w'.cell? p=w.cell? p):Reads w' B size A n xs:=
 ⟨h.1,fun hn=>by
  obtain ⟨ad,e,hb,hc⟩:=h.2 hn
  exact ⟨ad,e,hb,fun j u hu=>(hk _ (by rw [block_of_add];exact hb)).trans (hc j u hu)⟩⟩
theorem Reads.more (h:Reads w B size A n xs) (hB:B≤B'):Reads w B' size A n xs:=
 ⟨h.1,fun hn=>by
  obtain ⟨ad,e,hb,hc⟩:=h.2 hn
  exact ⟨ad,e,by omega,hc⟩⟩
theorem Reads.below {C:Nat} (h:Reads w B size A n xs) (hb:Below C w w') (hC:B≤C):Reads w' B size A n xs:=h.keep fun _ hp=>hb.cell (by omega)
theorem Reads.plain (h:Reads w B size A n xs) (hn:0<n) (hs:0<size):∃b o,A=some ⟨b,o,none⟩∧b<B∧∀j u,xs[j]?=some u→w.cell? ⟨b,o+j,none⟩=some u:=by
 obtain ⟨⟨b,o,spot⟩,rfl,hb,hc⟩:=h.2 hn
 have hl:0<xs.length:=by rw [h.1];exact Nat.mul_pos hn hs
 have h0:=hc 0 _ (List.getElem?_eq_getElem hl)
 have hspot:spot=none:=by simpa [Addr.add] using World.cell?_spot h0
 subst hspot
 exact ⟨b,o,rfl,hb,fun j u hu=>by rw [← add_plain];exact hc j u hu⟩
theorem Reads.alloc (h:Reads w B size A n xs) (hB:B≤w.heap.size) (o:Obj):Reads (w.alloc o) B size A n xs:=h.keep fun p hp=>World.cell?_alloc_lt w o p (by omega)
theorem Reads.cut (h:Reads w B size A n xs) {k cap:Nat} (hk:k≤n) (hc:n≤cap):
  Reads w B size (if cap=k then A else A.map (·.add (k*size))) (n-k) (xs.drop (k*size)):=by
 refine ⟨by rw [List.length_drop,h.1,Nat.sub_mul],fun hn=>?_⟩
 obtain ⟨ad,rfl,hb,hcell⟩:=h.2 (by omega)
 rw [if_neg (by omega)]
 refine ⟨ad.add (k*size),rfl,by rw [block_of_add];exact hb,fun j u hu=>?_⟩
 rw [add_of_add]
 exact hcell _ u (by rw [← hu,List.getElem?_drop])
theorem Reads.take (h:Reads w B size A n xs) {k:Nat} (hk:k≤n):Reads w B size A k (xs.take (k*size)):=by
 refine ⟨by rw [List.length_take,h.1];exact Nat.min_eq_left (Nat.mul_le_mul_right _ hk),fun hn=>?_⟩
 obtain ⟨ad,rfl,hb,hcell⟩:=h.2 (by omega)
 refine ⟨ad,rfl,hb,fun j u hu=>hcell j u ?_⟩
 rw [List.getElem?_take] at hu
 split at hu
 ·exact hu
 ·cases hu
theorem Reads.of_own {base:Nat} {e:TypeId} {c:Nat} (h:w.ownsRow base e size (.slice A n c) n xs):Reads w w.heap.size size A n xs:=by
 refine ⟨h.1,fun hn=>?_⟩
 obtain ⟨g,cap,hv,_,hlt⟩:=h.form hn
 have hA:A=some ⟨g,0,none⟩:=by injection hv
 subst hA
 exact ⟨_,rfl,hlt,h.cells (g:=g) rfl⟩
end
def byteV (b:UInt8):Value:= .int .u8 (b.toNat:Int)
def BytesAt (w:World) (B:Nat) (v:Value) (bs:List UInt8):Prop:=
 ∃(A:Option Addr) (n c:Nat),v= .slice A n c∧n≤c∧c≤maxLen∧n=bs.length∧(A=none→c=0)∧Reads w B 1 A n (bs.map byteV)
section
variable {w w':World} {B B' C:Nat} {v:Value} {bs:List UInt8}
theorem BytesAt.below (h:BytesAt w B v bs) (hb:Below C w w') (hC:B≤C):BytesAt w' B v bs:=by
 obtain ⟨A,n,c,h1,h2,h3,h4,h5,h6⟩:=h
 exact ⟨A,n,c,h1,h2,h3,h4,h5,h6.below hb hC⟩
theorem BytesAt.more (h:BytesAt w B v bs) (hB:B≤B'):BytesAt w B' v bs:=by
 obtain ⟨A,n,c,h1,h2,h3,h4,h5,h6⟩:=h
 exact ⟨A,n,c,h1,h2,h3,h4,h5,h6.more hB⟩
end
theorem below_drewN {B:Nat} {a w:World} (h:Below B a w) (n:Nat):Below B a (w.drewN n):=⟨h.os,h.tape,h.output,h.size,h.block⟩
theorem below_of_drewN {B:Nat} (w:World) (n:Nat):Below B w (w.drewN n):=below_drewN (Below.refl _ _) n
theorem ret_int {k:IntKind} {a b:Int} (h:a=b):Ending.returned (.int k a)= .returned (.int k b):=by rw [h]
theorem ret_bool {a b:Bool} (h:a=b):Ending.returned (.bool a)= .returned (.bool b):=by rw [h]
def Blk (w:World) (g:Nat) (t:TypeId) (cs:Array Value):Prop:=w.heap[g]?=some (.cells cs t (0,0))
section
variable {w w':World} {g:Nat} {t:TypeId} {cs:Array Value}
theorem Blk.lt (h:Blk w g t cs):g<w.heap.size:=by
 rcases Nat.lt_or_ge g w.heap.size with hlt|hge
 ·exact hlt
 ·unfold Blk at h;rw [Array.getElem?_eq_none hge] at h;cases h
theorem Blk.cell (h:Blk w g t cs) (i:Nat):w.cell? ⟨g,i,none⟩=cs[i]?:=cell_of_row w g i cs t (0,0) h
theorem Blk.frozen (h:Blk w g t cs) (i:Nat):w.frozen? ⟨g,i,none⟩=false:=by
 unfold Blk at h
 simp [World.frozen?,h]
theorem Blk.new (w:World) (t:TypeId) (cs:Array Value):Blk (w.alloc (.cells cs t)) w.heap.size t cs:=heap_alloc_new w _
theorem Blk.alloc (h:Blk w g t cs) (o:Obj):Blk (w.alloc o) g t cs:=(Below.heap_alloc w o g h.lt).trans h
theorem Blk.set_ (h:Blk w g t cs) (i:Nat) (u:Value):Blk (w.setCell ⟨g,i,none⟩ u) g t (cs.setIfInBounds i u):=by
 unfold Blk at h ⊢
 simp [World.setCell,Array.getElem?_modify,h]
theorem Blk.far (h:Blk w g t cs) {p:Addr} (hp:g≠p.block) (u:Value):Blk (w.setCell p u) g t cs:=(Below.heap_setCell w p u g hp).trans h
theorem Blk.below {B:Nat} (h:Blk w g t cs) (hb:Below B w w') (hg:g<B):Blk w' g t cs:=(hb.block g hg).trans h
theorem Blk.via (hb:Below w.heap.size w w') (h:Blk w g t cs):Blk w' g t cs:=h.below hb h.lt
theorem Blk.grown {row:Option Nat} (h:Blk w g t cs) (hb:w.grownBy w' row) (hg:some g≠row):Blk w' g t cs:=(hb.block g h.lt hg).trans h
theorem Blk.ne_ {g':Nat} {t':TypeId} {cs':Array Value} (h:Blk w g t cs) (h':Blk w g' t' cs') (hne:t≠t'):g≠g':=by
 rintro rfl
 unfold Blk at h h'
 rw [h] at h'
 injection h' with h'
 injection h' with _ ht
 exact hne ht
end
theorem below_via {B:Nat} {w W w':World} (h0:Below B w W) (hb:Below W.heap.size W w') (hB:B≤W.heap.size):Below B w w':=h0.trans (hb.mono hB)
theorem below2 (w:World) (o1 o2:Obj):Below w.heap.size w ((w.alloc o1).alloc o2):=((Below.refl _ _).alloc (Nat.le_refl _) _).alloc (by simp) _
theorem own_slice {w:World} {base:Nat} {e:TypeId} {size:Nat} {v:Value} {n:Nat} {xs:List Value} (h:w.ownsRow base e size v n xs):∃(A:Option Addr) (c:Nat),v= .slice A n c∧n≤c∧c≤maxLen∧(A=none→c=0)∧Reads w w.heap.size size A n xs∧(∀ad,A=some ad→base≤ad.block):=by
 have h0:=h
 obtain ⟨h1,⟨rfl,rfl⟩|⟨g,cap,cur,rfl,hg,hh,hnc,hcm,hs,ht⟩⟩:=h
 ·exact ⟨none,0,rfl,Nat.le_refl _,Nat.zero_le _,fun _=>rfl,Reads.of_own h0,fun _ h=>by cases h⟩
 ·exact ⟨_,cap,rfl,hnc,hcm,fun h=>(by cases h),Reads.of_own h0,fun ad h=>by cases h;exact hg⟩
theorem BytesAt.of_own {w:World} {base:Nat} {e:TypeId} {v:Value} {n:Nat} {bs:List UInt8} (h:w.ownsRow base e 1 v n (bs.map byteV)):BytesAt w w.heap.size v bs:=by
 have hl:n=bs.length:=by have:=h.1;simpa using this.symm
 obtain ⟨A,c,rfl,hnc,hcm,hnil,hr,_⟩:=own_slice h
 exact ⟨A,n,c,rfl,hnc,hcm,hl,hnil,hr⟩
theorem gen1 {w:World} {cs:Array Value} {t:TypeId} {R:World→Prop} (h:∀W,Blk W w.heap.size t cs→Below w.heap.size w W→w.heap.size+1≤W.heap.size→R W):R (w.alloc (.cells cs t)):=
 h _ (Blk.new _ _ _) ((Below.refl _ _).alloc (Nat.le_refl _) _) (by simp)
theorem gen2 {w:World} {cs cs':Array Value} {t t':TypeId} {R:World→Prop} (h:∀W,Blk W w.heap.size t cs→Blk W (w.heap.size+1) t' cs'→Below w.heap.size w W→w.heap.size+2≤W.heap.size→R W):R ((w.alloc (.cells cs t)).alloc (.cells cs' t')):=
 h _ ((Blk.new _ _ _).alloc _) (by simpa using Blk.new (w.alloc (.cells cs t)) t' cs') (below2 _ _ _) (by simp)
def Fresh (L:Nat) (v:Value):Prop:=∀ad n c,v= .slice (some ad) n c→L≤ad.block
theorem Fresh.of_own {w:World} {base:Nat} {e:TypeId} {size:Nat} {v:Value} {n:Nat} {xs:List Value} (h:w.ownsRow base e size v n xs):Fresh base v:=by
 obtain ⟨A,c,rfl,_,_,_,_,hf⟩:=own_slice h
 intro ad n' c' e
 injection e with e
 exact hf ad e
structure Touch (L H:Nat) (w w':World):Prop where
 os:w'.os=w.os
 tape:w'.tape=w.tape
 output:w'.output=w.output
 size:w'.heap.size=w.heap.size
 block:∀k,(k<L∨H≤k)→w'.heap[k]?=w.heap[k]?
theorem Touch.below {L H B:Nat} {a w w':World} (h:Touch L H w w') (hb:Below B a w) (hB:B≤L):Below B a w':=
 ⟨h.os.trans hb.os,h.tape.trans hb.tape,h.output.trans hb.output,by have:=hb.size;have:=h.size;omega,fun k hk=>(h.block k (by omega)).trans (hb.block k hk)⟩
theorem Touch.blk {L H g:Nat} {w w':World} {t:TypeId} {cs:Array Value} (h:Touch L H w w') (k:Blk w g t cs) (hg:g<L∨H≤g):Blk w' g t cs:=(h.block g hg).trans k
theorem Reads.of_blk {w:World} {g n size:Nat} {t:TypeId} {cs:Array Value} (k:Blk w g t cs) (hs:cs.size=n*size):Reads w (g+1) size (some ⟨g,0,none⟩) n cs.toList:=
 ⟨by simpa using hs,fun _=>⟨_,rfl,Nat.lt_succ_self g,fun j u hu=>by rw [add_plain,Nat.zero_add,k.cell];simpa using hu⟩⟩
theorem run_make_rowN {P:Program} (t e:TypeId) (i:TypeInfo) (z:Value) (ht:P.underlying t=some (.slice e)) (hi:P.info? e=some i) (hz:i.zero=some z)
  (kl kc:IntKind) (n c:Nat) (hnc:n≤c) (hbytes:i.bytes*c≤281474976710656) (h63:c≤9223372036854775807) (w:World):
  (Instr.makeSlice t (.int kl (n:Int)) (.int kc (c:Int))).run P w= .ok (.slice (some ⟨w.heap.size,0,none⟩) n c) (w.alloc (.cells (madeCells z.cells (c*i.size)) e)):=by
 have hb:(i.bytes:Int)*(c:Int)≤281474976710656:=by
  have h:((i.bytes*c:Nat):Int)≤281474976710656:=by omega
  rwa [Int.natCast_mul] at h
 have hr:=run_make (P:=P) w t e i z ht hi hz kl kc n c (by omega) (by omega) hb (by omega)
 simp only [Int.toNat_natCast] at hr
 exact hr
end Go.Proofs.YtnkjkgmohmcobaaGreatDoor
namespace Go.Proofs.YtnkjkgmohmcobaaGreatDoor
open Go.RowKit
structure OpD where
 act:Int
 key:ByteArray
 data:List UInt8
 lo:Int
 hi:Int
 n:Int
structure CellD where
 kind:Int
 data:List UInt8
 lo:Int
 hi:Int
 val:Int
structure DidD where
 txn:Int
 op:OpD
 err:Int
 cell:CellD
def opCells (d:OpD) (dv:Value):List Value:=[.int .i64 d.act,.string d.key,dv,.int .i64 d.lo,.int .i64 d.hi,.int .i64 d.n]
structure DidV where
 d:DidD
 dv:Value
 cv:Value
def wfI (x:Int):Prop:=(Lit.int .i64 x).wf=true
def cellEq (a b:CellD):Bool:=a.kind==b.kind&&a.data==b.data&&a.lo==b.lo&&a.hi==b.hi&&a.val==b.val
end Go.Proofs.YtnkjkgmohmcobaaGreatDoor
namespace Go.Proofs.YtnkjkgmohmcobaaGreatDoor
open Go.RowKit
def putL (w:World) (g o:Nat):List Value→World
 |[]=>w
 |v::t=>putL (w.setCell ⟨g,o,none⟩ v) g (o+1) t
def setL (cs:Array Value) (o:Nat):List Value→Array Value
 |[]=>cs
 |v::t=>setL (cs.setIfInBounds o v) (o+1) t
theorem setL_spec (vs:List Value):∀(cs:Array Value) (o:Nat),o+vs.length≤cs.size→(setL cs o vs).size=cs.size∧(∀q,(q<o∨o+vs.length≤q)→(setL cs o vs)[q]?=cs[q]?)∧∀(j:Nat) u,vs[j]?=some u→(setL cs o vs)[o+j]?=some u:=by
 induction vs with
 |nil=>intro cs o _;exact ⟨rfl,fun _ _=>rfl,fun j u hu=>by simp at hu⟩
 |cons v t ih=>
  intro cs o ho
  simp only [List.length_cons] at ho
  obtain ⟨h1,h2,h3⟩:=ih (cs.setIfInBounds o v) (o+1) (by simp;omega)
  refine ⟨by simpa [setL] using h1,fun q hq=>?_,fun j u hu=>?_⟩
  ·simp only [List.length_cons] at hq
   show (setL (cs.setIfInBounds o v) (o+1) t)[q]?=_
   rw [h2 q (by omega),Array.getElem?_setIfInBounds,if_neg (by omega)]
  ·show (setL (cs.setIfInBounds o v) (o+1) t)[o+j]?=_
   cases j with
   |zero=>
    simp only [List.getElem?_cons_zero,Option.some.injEq] at hu
    subst hu
    rw [h2 (o+0) (by omega),Array.getElem?_setIfInBounds,if_pos (by omega),if_pos (by omega)]
   |succ j=>
    have:=h3 j u (by simpa using hu)
    rwa [show o+1+j=o+(j+1) by omega] at this
theorem putL_blk {g:Nat} {t:TypeId} (vs:List Value):∀{w:World} {cs:Array Value} (o:Nat),Blk w g t cs→Blk (putL w g o vs) g t (setL cs o vs):=by
 induction vs with
 |nil=>intro w cs o k;exact k
 |cons v r ih=>intro w cs o k;exact ih _ (k.set_ o v)
end Go.Proofs.YtnkjkgmohmcobaaGreatDoor
namespace Go.Proofs.YtnkjkgmohmcobaaGreatDoor
open Go.RowKit
structure EvD where
 act:Int
 client:Int
 txn:Int
 op:OpD
 err:Int
 cell:CellD
structure EvV where
 d:EvD
 dv:Value
 cv:Value
end Go.Proofs.YtnkjkgmohmcobaaGreatDoor
namespace Go.Proofs.YtnkjkgmohmcobaaGreatDoor
open Go.RowKit
def okByte (b:UInt8):Bool:=decide (33≤b.toNat∧b.toNat≤126)
def goodKey (k:ByteArray):Bool:=k.data.toList.all okByte&&(decide (0<k.size)&&decide (k.size≤16))
def rightC (c:CellD):Bool:=
 if c.kind=1 then decide (c.data.length≤32)&&(c.lo==0&&(c.hi==0&&c.val==0))
 else c.kind==2&&(decide (c.data.length=0)&&(decide (c.lo≤c.val)&&decide (c.val≤c.hi)))
structure PairD where
 key:ByteArray
 cell:CellD
structure PairV where
 d:PairD
 cv:Value
def kless (a b:ByteArray):Bool:=Op.bytesLess a.toList b.toList
end Go.Proofs.YtnkjkgmohmcobaaGreatDoor
namespace Go.Proofs.YtnkjkgmohmcobaaGreatDoor
open Go.RowKit
theorem bl_trans:∀{x y z:List UInt8},Op.bytesLess x y=true→Op.bytesLess y z=true→Op.bytesLess x z=true
 |[],[],_,h,_=>by simp [Op.bytesLess] at h
 |[],_::_,[],_,h=>by simp [Op.bytesLess] at h
 |[],_::_,_::_,_,_=>by simp [Op.bytesLess]
 |_::_,[],_,h,_=>by simp [Op.bytesLess] at h
 |_::_,_::_,[],_,h=>by simp [Op.bytesLess] at h
 |a::x,b::y,c::z,h1,h2=>by
  simp only [Op.bytesLess,Bool.or_eq_true,decide_eq_true_eq,Bool.and_eq_true,beq_iff_eq] at h1 h2 ⊢
  rcases h1 with h1|⟨rfl,h1⟩
  ·rcases h2 with h2|⟨rfl,h2⟩
   ·exact .inl (UInt8.lt_trans h1 h2)
   ·exact .inl h1
  ·rcases h2 with h2|⟨rfl,h2⟩
   ·exact .inl h2
   ·exact .inr ⟨rfl,bl_trans h1 h2⟩
def pos (s:List PairD) (k:ByteArray):Nat:=(s.takeWhile (fun x=>kless x.key k)).length
def cell0:CellD:=⟨0,[],0,0,0⟩
end Go.Proofs.YtnkjkgmohmcobaaGreatDoor
namespace Go.Proofs.YtnkjkgmohmcobaaGreatDoor
open Go.RowKit
def inI (z:Int):Prop:= -9223372036854775808≤z∧z≤9223372036854775807
theorem rightC_kind {c:CellD} (h:rightC c=true):(c.kind=1∧c.data.length≤32)∨(c.kind=2∧c.data=[]):=by
 unfold rightC at h
 split at h
 ·rename_i h1
  simp only [Bool.and_eq_true,decide_eq_true_eq] at h
  exact .inl ⟨h1,h.1⟩
 ·simp only [Bool.and_eq_true,beq_iff_eq,decide_eq_true_eq] at h
  exact .inr ⟨h.1,List.eq_nil_of_length_eq_zero h.2.1⟩
end Go.Proofs.YtnkjkgmohmcobaaGreatDoor
namespace Go.Proofs.YtnkjkgmohmcobaaGreatDoor
open Go.RowKit
theorem row_keep {W W':World} {base n:Nat} {e:TypeId} {size:Nat} {v:Value} {xs:List Value} (h:W.ownsRow base e size v n xs) (hk:∀q,v.ownBlock=some q→W'.heap[q]?=W.heap[q]?):W'.ownsRow base e size v n xs:=by
 obtain ⟨h1,h2|⟨g,cap,cur,e,hg,hh,r⟩⟩:=h
 ·exact ⟨h1,.inl h2⟩
 ·exact ⟨h1,.inr ⟨g,cap,cur,e,hg,(hk g (by rw [e];rfl)).trans hh,r⟩⟩
theorem row_obj {W:World} {base n:Nat} {e:TypeId} {size:Nat} {v:Value} {xs:List Value} (h:W.ownsRow base e size v n xs) {q:Nat} (hq:v.ownBlock=some q):∃cur,W.heap[q]?=some (.cells cur e (0,0)):=by
 obtain ⟨h1,⟨rfl,h2⟩|⟨g,cap,cur,rfl,hg,hh,r⟩⟩:=h
 ·cases hq
 ·obtain rfl:g=q:=by simpa [Value.ownBlock] using hq
  exact ⟨cur,hh⟩
def OwnB (w:World) (base:Nat) (v:Value) (bs:List UInt8):Prop:=w.ownsRow base 5 1 v bs.length (bs.map byteV)
section
variable {w w':World} {base base':Nat} {v:Value} {bs:List UInt8}
theorem OwnB.low (h:OwnB w base v bs) (hb:base'≤base):OwnB w base' v bs:=by
 obtain ⟨h1,h2|⟨g,cap,cur,e,hg,r⟩⟩:=h
 ·exact ⟨h1,.inl h2⟩
 ·exact ⟨h1,.inr ⟨g,cap,cur,e,Nat.le_trans hb hg,r⟩⟩
theorem OwnB.keep (h:OwnB w base v bs) (hk:∀q,v.ownBlock=some q→w'.heap[q]?=w.heap[q]?):OwnB w' base v bs:=by
 obtain ⟨h1,h2|⟨g,cap,cur,e,hg,hh,r⟩⟩:=h
 ·exact ⟨h1,.inl h2⟩
 ·exact ⟨h1,.inr ⟨g,cap,cur,e,hg,(hk g (by rw [e];rfl)).trans hh,r⟩⟩
theorem OwnB.lt (h:OwnB w base v bs):∀q,v.ownBlock=some q→base≤q∧q<w.heap.size:=World.ownsRow.lt h
theorem OwnB.via (h:OwnB w base v bs) (hb:Below w.heap.size w w'):OwnB w' base v bs:=h.keep fun q hq=>hb.block q (h.lt q hq).2
theorem OwnB.far {g i:Nat} {t:TypeId} {cs:Array Value} (h:OwnB w base v bs) (k:Blk w g t cs) (hne:t≠5) (u:Value):OwnB (w.setCell ⟨g,i,none⟩ u) base v bs:=h.keep fun q hq=>by
 refine Below.heap_setCell w ⟨g,i,none⟩ u q ?_
 intro e
 have e':q=g:=e
 obtain ⟨h1,⟨rfl,h2⟩|⟨g',cap,cur,rfl,hg,hh,r⟩⟩:=h
 ·cases hq
 ·have:g'=q:=by simpa [Value.ownBlock] using hq
  rw [this,e'] at hh
  unfold Blk at k
  rw [hh] at k
  injection k with k
  injection k with _ k
  exact hne k.symm
end
end Go.Proofs.YtnkjkgmohmcobaaGreatDoor
namespace Go.Proofs.YtnkjkgmohmcobaaGreatDoor
open Go.RowKit
section
variable {P:Program} (w:World)
theorem run_append_of_nil (base:Nat) (t ty e:TypeId) (i:TypeInfo) (size:Nat) (ht:P.underlying t=some (.slice e)) (hi:P.info? e=some i)
  (v:Value) (n:Nat) (xs:List Value) (hown:w.ownsRow base e size v n xs) (c:Nat):(Builtin.append_ #[t,t] ty #[v,.slice none 0 c]).run P w= .ok v w:=by
 rcases hown.2 with ⟨rfl,rfl⟩|⟨g,cap,cur,rfl,_,_,hnc,_⟩
 ·simp [Builtin.append_,run_underlying ht,sizeOf,typeInfo,hi,Builtin.lenOf,Builtin.firstCells]
 ·simp [Builtin.append_,run_underlying ht,sizeOf,typeInfo,hi,Builtin.lenOf,Builtin.firstCells,hnc,storeCells]
theorem run_append_any (base:Nat) (t ty e:TypeId) (i:TypeInfo) (z:Value) (size bytes:Nat) (ht:P.underlying t=some (.slice e)) (hi:P.info? e=some i) (hz:i.zero=some z)
  (hsize:i.size=size) (hby:i.bytes=bytes) (hzs:z.cells.size=size) (hsz:0<size)
  (v:Value) (n:Nat) (xs:List Value) (hown:w.ownsRow base e size v n xs)
  (B:Nat) (A:Option Addr) (m c:Nat) (news:List Value) (hr:Reads w B size A m news) (h1:∀u∈news,u.oneCell'=true)
  (h63:n+m≤maxLen) (hbytes:(n+m)*bytes≤140737488355328) (hbase:base≤w.heap.size):
  ∃v' w',(Builtin.append_ #[t,t] ty #[v,.slice A m c]).run P w= .ok v' w'∧w'.ownsRow base e size v' (n+m) (xs++news)∧w.grownBy w' v.ownBlock∧
   (v'.ownBlock=v.ownBlock∨v'.ownBlock=some w.heap.size):=by
 rcases A with _|ad
 ·have hm:m=0:=by
   rcases Nat.eq_zero_or_pos m with h0|h0
   ·exact h0
   ·obtain ⟨ad,h,_⟩:=hr.2 h0
    cases h
  subst hm
  have hn:news=[]:=List.eq_nil_of_length_eq_zero (by simpa using hr.1)
  subst hn
  exact ⟨v,w,run_append_of_nil w base t ty e i size ht hi v n xs hown c,by simpa using hown,World.grownBy.refl w _,.inl rfl⟩
 ·have hcells:∀j u,news[j]?=some u→w.cell? (ad.add j)=some u:=by
   intro j u hu
   rcases Nat.eq_zero_or_pos m with h0|h0
   ·subst h0
    have hn:news=[]:=List.eq_nil_of_length_eq_zero (by simpa using hr.1)
    subst hn
    simp at hu
   ·obtain ⟨ad',h,_,hc⟩:=hr.2 h0
    injection h with h
    subst h
    exact hc j u hu
  obtain ⟨v',w',hrun,h2,h3,_,h5⟩:=run_append_own_at (P:=P) w base t ty e i z size bytes ht hi hz hsize hby hzs hsz v n xs hown ad m c news hr.1 hcells h1 h63 hbytes hbase
  exact ⟨v',w',hrun,h2,h3,h5⟩
theorem wp_append_any {o:Oper} {a:Act} {K:Act→World→Prop} {Q:Exit→Act→World→Prop} (s x:Operand) (t:TypeId)
  (ho:o.op= .call {callee:= .builtin .append,args:=#[s,x],argTypes:=#[t,t]})
  (base:Nat) (e:TypeId) (i:TypeInfo) (z:Value) (size bytes:Nat) (ht:P.underlying t=some (.slice e)) (hi:P.info? e=some i) (hz:i.zero=some z)
  (hsize:i.size=size) (hby:i.bytes=bytes) (hzs:z.cells.size=size) (hsz:0<size)
  (v:Value) (n:Nat) (xs:List Value) (hs:a.eval s=v) (hown:w.ownsRow base e size v n xs)
  (B:Nat) (A:Option Addr) (m c:Nat) (news:List Value) (hx:a.eval x= .slice A m c) (hr:Reads w B size A m news) (h1:∀u∈news,u.oneCell'=true)
  (h63:n+m≤maxLen) (hbytes:(n+m)*bytes≤140737488355328) (hbase:base≤w.heap.size)
  (h:∀v' w',w'.ownsRow base e size v' (n+m) (xs++news)→w.grownBy w' v.ownBlock→(v'.ownBlock=v.ownBlock∨v'.ownBlock=some w.heap.size)→K (a.put o.dst v') w'):o.wp P a w K Q:=by
 obtain ⟨v',w',hrun,h2,h3,h4⟩:=run_append_any (P:=P) w base t o.type e i z size bytes ht hi hz hsize hby hzs hsz v n xs hown B A m c news hr h1 h63 hbytes hbase
 unfold Oper.wp execOp
 simp only [ho,resolve,invoke,builtin,Sem.run_bind,Sem.run_pure,Result.andThen_ok,List.map_toArray,List.map_cons,List.map_nil,hs,hx,hrun]
 exact h v' w' h2 h3 h4
theorem wpList_append_any {ops:Array Oper} {rest:List Oper} {o:Oper} {a:Act} {Q:Exit→Act→World→Prop} (hgd:o.guard=none) (s x:Operand) (t:TypeId)
  (ho:o.op= .call {callee:= .builtin .append,args:=#[s,x],argTypes:=#[t,t]})
  (base:Nat) (e:TypeId) (i:TypeInfo) (z:Value) (size bytes:Nat) (ht:P.underlying t=some (.slice e)) (hi:P.info? e=some i) (hz:i.zero=some z)
  (hsize:i.size=size) (hby:i.bytes=bytes) (hzs:z.cells.size=size) (hsz:0<size)
  (v:Value) (n:Nat) (xs:List Value) (hs:a.eval s=v) (hown:w.ownsRow base e size v n xs)
  (B:Nat) (A:Option Addr) (m c:Nat) (news:List Value) (hx:a.eval x= .slice A m c) (hr:Reads w B size A m news) (h1:∀u∈news,u.oneCell'=true)
  (h63:n+m≤maxLen) (hbytes:(n+m)*bytes≤140737488355328) (hbase:base≤w.heap.size)
  (h:∀v' w',w'.ownsRow base e size v' (n+m) (xs++news)→w.grownBy w' v.ownBlock→(v'.ownBlock=v.ownBlock∨v'.ownBlock=some w.heap.size)→wpList P ops Q rest (a.put o.dst v') w'):wpList P ops Q (o::rest) a w:=
 wpList_plain hgd fun _ hK=>wp_append_any w s x t ho base e i z size bytes ht hi hz hsize hby hzs hsz v n xs hs hown B A m c news hx hr h1 h63 hbytes hbase fun v' w' h2 h3 h4=>hK _ _ (h v' w' h2 h3 h4)
theorem step_append_any {ops:Array Oper} {o:Oper} {a:Act} {K:Act→World→Prop} {Q:Exit→Act→World→Prop} {E:Prop} (hgd:o.guard=none) (s x:Operand) (t:TypeId)
  (ho:o.op= .call {callee:= .builtin .append,args:=#[s,x],argTypes:=#[t,t]})
  (base:Nat) (e:TypeId) (i:TypeInfo) (z:Value) (size bytes:Nat) (ht:P.underlying t=some (.slice e)) (hi:P.info? e=some i) (hz:i.zero=some z)
  (hsize:i.size=size) (hby:i.bytes=bytes) (hzs:z.cells.size=size) (hsz:0<size)
  (v:Value) (n:Nat) (xs:List Value) (hs:a.eval s=v) (hown:w.ownsRow base e size v n xs)
  (B:Nat) (A:Option Addr) (m c:Nat) (news:List Value) (hx:a.eval x= .slice A m c) (hr:Reads w B size A m news) (h1:∀u∈news,u.oneCell'=true)
  (h63:n+m≤maxLen) (hbytes:(n+m)*bytes≤140737488355328) (hbase:base≤w.heap.size)
  (h:∀v' w',w'.ownsRow base e size v' (n+m) (xs++news)→w.grownBy w' v.ownBlock→(v'.ownBlock=v.ownBlock∨v'.ownBlock=some w.heap.size)→K (a.put o.dst v') w'):
  if Region.wanted o (yielded ops a.tmps)=true then Oper.wp P o a w K Q else E:=by
 have hw:Region.wanted o (yielded ops a.tmps)=true:=by simp [Region.wanted,hgd]
 rw [if_pos hw]
 exact wp_append_any w s x t ho base e i z size bytes ht hi hz hsize hby hzs hsz v n xs hs hown B A m c news hx hr h1 h63 hbytes hbase h
end
end Go.Proofs.YtnkjkgmohmcobaaGreatDoor
namespace Go.Proofs.YtnkjkgmohmcobaaGreatDoor
open Go.RowKit
theorem nc_ne {W:World} {B:Nat} {row:Option Nat} (hr:∀r,row=some r→B≤r∧∃o:Obj,W.heap[r]?=some o∧o.isCells=false) {q:Nat} {cs:Array Value} {t:TypeId} {fz:Nat × Nat} (h:W.heap[q]?=some (.cells cs t fz)):some q≠row:=by
 intro e
 obtain ⟨_,o,ho,hc⟩:=hr q e.symm
 rw [h] at ho
 injection ho with ho
 subst ho
 cases hc
end Go.Proofs.YtnkjkgmohmcobaaGreatDoor
namespace Go.Proofs.YtnkjkgmohmcobaaGreatDoor
open Go.RowKit
def spl (cur:List Value) (o:Nat) (cs:List Value):List Value:=cur.take o++(cs++cur.drop (o+cs.length))
theorem spl_length {cur:List Value} {o:Nat} {cs:List Value} (h:o+cs.length≤cur.length):(spl cur o cs).length=cur.length:=by unfold spl;simp;omega
theorem touch_setRow (w:World) (g:Nat) (cs:Array Value):Touch g (g+1) w (w.setRow g cs):=
 ⟨rfl,rfl,rfl,by simp [World.setRow],fun k hk=>setRow_other w g k cs (by omega)⟩
section
variable {P:Program}
theorem run_store_blk {w:World} {g o:Nat} {t:TypeId} {cur:List Value} (k:Blk w g t cur.toArray) (cs:List Value) (hfit:o+cs.length≤cur.length) (h1:∀v∈cs,v.oneCell'=true):
  ∃w',(storeCells ⟨g,o,none⟩ cs).run P w= .ok () w'∧Blk w' g t (spl cur o cs).toArray∧Touch g (g+1) w w':=by
 have h:=run_storeCells_at P g o t cs 0 cur.toArray w k (by simpa using hfit) h1
 refine ⟨_,h,?_,touch_setRow _ _ _⟩
 have:=setRow_heap w g cur.toArray (List.take (o+0) cur.toArray.toList++cs++List.drop (o+0+cs.length) cur.toArray.toList).toArray t _ k
 unfold Blk spl
 simpa using this
theorem run_copy_blk {w:World} {dT sT ty elem:TypeId} {size:Nat} (hu:P.underlying dT=some (.slice elem)) (hs:(P.info? elem).map (·.size)=some size)
  {g o:Nat} {t:TypeId} {cur:List Value} (k:Blk w g t cur.toArray) (cs:List Value) (dLen dCap sLen sCap:Nat) (ad:Addr) (hn:cs.length=Nat.min sLen dLen*size)
  (hsrc:∀j v,cs[j]?=some v→w.cell? (ad.add j)=some v) (hfit:o+cs.length≤cur.length) (h1:∀v∈cs,v.oneCell'=true):
  ∃w',(Builtin.copy_ #[dT,sT] ty #[.slice (some ⟨g,o,none⟩) dLen dCap,.slice (some ad) sLen sCap]).run P w= .ok (goInt (Nat.min sLen dLen)) w'∧Blk w' g t (spl cur o cs).toArray∧Touch g (g+1) w w':=by
 have hl:=run_loadCells_list (P:=P) w ad cs hsrc
 obtain ⟨w',hst,hk,ht⟩:=run_store_blk (P:=P) k cs hfit h1
 refine ⟨w',?_,hk,ht⟩
 cases hq:P.info? elem with
 |none=>simp [hq] at hs
 |some i=>
  have hi:i.size=size:=by simpa [hq] using hs
  simp [Builtin.copy_,run_underlying hu,Builtin.lenOf,Builtin.firstCells,sizeOf,typeInfo,hq,hi, ← hn,hl,hst]
theorem wp_copy_blk {o:Oper} {a:Act} {w:World} {K:Act→World→Prop} {Q:Exit→Act→World→Prop} (d s:Operand) (dT sT:TypeId)
  (ho:o.op= .call {callee:= .builtin .copy,args:=#[d,s],argTypes:=#[dT,sT]}) (elem:TypeId) (size:Nat) (hu:P.underlying dT=some (.slice elem)) (hs:(P.info? elem).map (·.size)=some size)
  (g off:Nat) (t:TypeId) (cur:List Value) (cs:List Value) (dLen dCap sLen sCap:Nat) (ad:Addr) (hd:a.eval d= .slice (some ⟨g,off,none⟩) dLen dCap) (hx:a.eval s= .slice (some ad) sLen sCap)
  (k:Blk w g t cur.toArray) (hn:cs.length=Nat.min sLen dLen*size)
  (hsrc:∀j v,cs[j]?=some v→w.cell? (ad.add j)=some v) (hfit:off+cs.length≤cur.length) (h1:∀v∈cs,v.oneCell'=true)
  (h:∀v' w',Blk w' g t (spl cur off cs).toArray→Touch g (g+1) w w'→K (a.put o.dst v') w'):o.wp P a w K Q:=by
 obtain ⟨w',hrun,hk,ht⟩:=run_copy_blk (P:=P) (ty:=o.type) (sT:=sT) hu hs k cs dLen dCap sLen sCap ad hn hsrc hfit h1
 unfold Oper.wp execOp
 simp only [ho,resolve,invoke,builtin,Sem.run_bind,Sem.run_pure,Result.andThen_ok,List.map_toArray,List.map_cons,List.map_nil,hd,hx,hrun]
 exact h _ w' hk ht
theorem wpList_copy_blk {ops:Array Oper} {rest:List Oper} {o:Oper} {a:Act} {w:World} {Q:Exit→Act→World→Prop} (hgd:o.guard=none) (d s:Operand) (dT sT:TypeId)
  (ho:o.op= .call {callee:= .builtin .copy,args:=#[d,s],argTypes:=#[dT,sT]}) (elem:TypeId) (size:Nat) (hu:P.underlying dT=some (.slice elem)) (hs:(P.info? elem).map (·.size)=some size)
  (g off:Nat) (t:TypeId) (cur:List Value) (cs:List Value) (dLen dCap sLen sCap:Nat) (ad:Addr) (hd:a.eval d= .slice (some ⟨g,off,none⟩) dLen dCap) (hx:a.eval s= .slice (some ad) sLen sCap)
  (k:Blk w g t cur.toArray) (hn:cs.length=Nat.min sLen dLen*size)
  (hsrc:∀j v,cs[j]?=some v→w.cell? (ad.add j)=some v) (hfit:off+cs.length≤cur.length) (h1:∀v∈cs,v.oneCell'=true)
  (h:∀v' w',Blk w' g t (spl cur off cs).toArray→Touch g (g+1) w w'→wpList P ops Q rest (a.put o.dst v') w'):wpList P ops Q (o::rest) a w:=
 wpList_plain hgd fun _ hK=>wp_copy_blk d s dT sT ho elem size hu hs g off t cur cs dLen dCap sLen sCap ad hd hx k hn hsrc hfit h1 fun v' w' a b=>hK _ _ (h v' w' a b)
end
end Go.Proofs.YtnkjkgmohmcobaaGreatDoor
namespace Go.Proofs.YtnkjkgmohmcobaaGreatDoor
open Go.RowKit Go.Shelf
def HeldG (p:Prop):Prop:=p
theorem heldG {p:Prop} (h:HeldG p):p:=h
theorem unheldG {p:Prop} (h:p):HeldG p:=h
theorem info_u8R:(Tryz.prog.info? 5).map (fun i=>(i.zero,i.size,i.bytes))=some (some (.int .u8 0),1,1):=by kernel_rfl
theorem bytes_one (bs:List UInt8):∀u∈bs.map byteV,u.oneCell'=true:=by
 intro u hu
 obtain ⟨b,_,rfl⟩:=List.mem_map.1 hu
 rfl
theorem wide_any (n:Int) (b:Bool) (hb:decide (1≤n∧n≤8)=b) (w:World):Calls Tryz.prog 162 #[.int .i64 n] w fun e w'=>e= .returned (.bool b)∧w'=w:=by
 by_cases h1:1≤n
 ·by_cases h2:n≤8
  ·obtain rfl:b=true:=by rw [← hb];simp [h1,h2]
   clear hb
   go_enter Tryz.func162,Tryz.ntmps162
   go_wp2
   go_ret
   exact ⟨rfl,rfl⟩
  ·obtain rfl:b=false:=by rw [← hb];simp [h2]
   clear hb
   go_enter Tryz.func162,Tryz.ntmps162
   go_wp2
   go_ret
   exact ⟨rfl,rfl⟩
 ·obtain rfl:b=false:=by rw [← hb];simp [h1]
  clear hb
  go_enter Tryz.func162,Tryz.ntmps162
  go_wp2
  go_ret
  exact ⟨rfl,rfl⟩
def OwnC (w:World) (base:Nat) (bs:List UInt8) (n c:Nat) (e:Ending) (w':World):Prop:=∃g,e= .returned (.slice (some ⟨g,0,none⟩) n c)∧OwnB w' base (.slice (some ⟨g,0,none⟩) n c) bs∧Below w.heap.size w w'
theorem made_u8 (n:Nat):madeCells #[Value.int .u8 0] n=(List.replicate n (Value.int .u8 0)).toArray:=by
 refine Array.ext (by simp [size_madeCells]) (fun i h1 h2=>?_)
 simp at h2
 simp [madeCells,Nat.mod_one]
theorem size_u8:(Tryz.prog.info? 5).map (·.size)=some 1:=by kernel_rfl
theorem wpList_copy_nil {P:Program} {ops:Array Oper} {rest:List Oper} {o:Oper} {a:Act} {w:World} {Q:Exit→Act→World→Prop} (hgd:o.guard=none) (d s:Operand) (dT sT:TypeId)
  (ho:o.op= .call {callee:= .builtin .copy,args:=#[d,s],argTypes:=#[dT,sT]}) (elem:TypeId) (hu:P.underlying dT=some (.slice elem)) (hs:(P.info? elem).isSome=true)
  (ad:Addr) (dLen dCap sCap:Nat) (hd:a.eval d= .slice (some ad) dLen dCap) (hx:a.eval s= .slice none 0 sCap)
  (h:∀v',wpList P ops Q rest (a.put o.dst v') w):wpList P ops Q (o::rest) a w:=
 wpList_plain hgd fun K hK=>by
  obtain ⟨i,hi⟩:=Option.isSome_iff_exists.1 hs
  have hrun:∃v',(Builtin.copy_ #[dT,sT] o.type #[.slice (some ad) dLen dCap,.slice none 0 sCap]).run P w= .ok v' w:=by
   refine ⟨.int .i64 0,?_⟩
   simp [Builtin.copy_,run_underlying hu,Builtin.lenOf,Builtin.firstCells,sizeOf,typeInfo,hi,storeCells,goInt]
  obtain ⟨v',hrun⟩:=hrun
  unfold Oper.wp execOp
  simp only [ho,resolve,invoke,builtin,Sem.run_bind,Sem.run_pure,Result.andThen_ok,List.map_toArray,List.map_cons,List.map_nil,hd,hx,hrun]
  exact hK _ _ (h v')
theorem ownB_new {w:World} {g n c:Nat} {base:Nat} {bs:List UInt8} {cur:List Value} (k:Blk w g 5 cur.toArray) (hb:base≤g) (hn:n=bs.length) (hc:n≤c) (hm:c≤maxLen) (hl:cur.length=c) (ht:cur.take n=bs.map byteV):OwnB w base (.slice (some ⟨g,0,none⟩) n c) bs:=by
 subst hn
 exact ⟨by simp,.inr ⟨g,c,_,rfl,hb,k,hc,hm,by simp [hl],by simpa using ht⟩⟩
theorem with_nil (c m:Nat) (w:World) (hm:m≤100000000):Calls Tryz.prog 163 #[.slice none 0 c,.int .i64 (m:Nat)] w (OwnC w w.heap.size [] 0 m):=by
 obtain ⟨i0,hi,hz0,hz1,hz2⟩:=info_parts info_u8R
 have hmk0:=fun W=>run_make_rowN (P:=Tryz.prog) 24 5 i0 (.int .u8 0) Tryz.underlying24 hi hz0 .i64 .i64 0 m (Nat.zero_le _) (by rw [hz2];omega) (by omega) W
 rw [hz1,Nat.mul_one] at hmk0
 have hX:=made_u8 m
 obtain ⟨X,hX2⟩:∃X,X=madeCells (Value.int .u8 0).cells m:=⟨_,rfl⟩
 rw [← hX2] at hmk0
 have hmk:∀W:World,(Instr.makeSlice 24 (.int .i64 0) (.int .i64 (m:Int))).run Tryz.prog W= .ok (.slice (some ⟨W.heap.size,0,none⟩) 0 m) (W.alloc (.cells X 5)):=hmk0
 have HX:=hide (show X=(List.replicate m (Value.int .u8 0)).toArray from hX2.trans hX)
 clear hX hX2 hmk0 hi hz0 hz1 hz2
 go_enter Tryz.func163,Tryz.ntmps163
 go_wp2_with (refine wpList_copy_nil rfl (.tmp 13) (.tmp 14) 24 24 rfl 5 Tryz.underlying24 (by kernel_rfl) ⟨w.heap.size,0,none⟩ 0 m c rfl rfl ?_;intro v')
 go_ret
 refine ⟨w.heap.size,rfl,?_,(Below.refl _ _).alloc (Nat.le_refl _) _⟩
 rw [HX.out]
 exact ownB_new (Blk.new _ _ _) (Nat.le_refl _) rfl (Nat.zero_le _) (by unfold maxLen;omega) (by simp) (by simp)
theorem with_any (ad:Addr) (n c m:Nat) (bs:List UInt8) (B:Nat) (w:World) (hB:B≤w.heap.size) (hn:n≤100000000) (hm:m≤100000000) (hnl:n=bs.length) (hr:Reads w B 1 (some ad) n (bs.map byteV)):
  Calls Tryz.prog 163 #[.slice (some ad) n c,.int .i64 (m:Nat)] w (OwnC w w.heap.size bs n (n+m)):=by
 obtain ⟨i0,hi,hz0,hz1,hz2⟩:=info_parts info_u8R
 have hmk0:=fun W=>run_make_rowN (P:=Tryz.prog) 24 5 i0 (.int .u8 0) Tryz.underlying24 hi hz0 .i64 .i64 n (n+m) (Nat.le_add_right _ _) (by rw [hz2];omega) (by omega) W
 rw [hz1,Nat.mul_one] at hmk0
 have hX:=made_u8 (n+m)
 obtain ⟨X,hX2⟩:∃X,X=madeCells (Value.int .u8 0).cells (n+m):=⟨_,rfl⟩
 rw [← hX2] at hmk0
 have hmk:∀W:World,(Instr.makeSlice 24 (.int .i64 (n:Int)) (.int .i64 ((n:Int)+(m:Int)))).run Tryz.prog W= .ok (.slice (some ⟨W.heap.size,0,none⟩) n (n+m)) (W.alloc (.cells X 5)):=hmk0
 have HX:=hide (show X=(List.replicate (n+m) (Value.int .u8 0)).toArray from hX2.trans hX)
 have HNL:=hide hnl
 have hr2:∀j u,(bs.map byteV)[j]?=some u→(w.alloc (.cells X 5)).cell? (ad.add j)=some u:=by
  intro j u hu
  have hj:=(List.getElem?_eq_some_iff.1 hu).1
  obtain ⟨ad',h1,h2,h3⟩:=hr.2 (by simp at hj;omega)
  injection h1 with h1
  subst h1
  exact (World.cell?_alloc_lt w _ (ad.add j) (by rw [block_of_add];omega)).trans (h3 j u hu)
 have HR:=hide hr2
 have kX:Blk (w.alloc (.cells X 5)) w.heap.size 5 (List.replicate (n+m) (Value.int .u8 0)).toArray:=by rw [HX.out];exact Blk.new _ _ _
 have HK:=hide kX
 clear hX hX2 hmk0 hi hz0 hz1 hz2 hnl hr hr2 kX
 go_enter Tryz.func163,Tryz.ntmps163
 go_wp2_with (refine wpList_copy_blk rfl (.tmp 13) (.tmp 14) 24 24 rfl 5 1 Tryz.underlying24 size_u8 w.heap.size 0 5 (List.replicate (n+m) (Value.int .u8 0)) (bs.map byteV) n (n+m) n c ad rfl rfl HK.out (by have:=HNL.out;simp;omega) HR.out (by have:=HNL.out;simp;omega) (bytes_one bs) ?_;intro v' w2 hk2 ht2)
 have HK2:=hide hk2
 clear hk2
 go_ret
 refine ⟨w.heap.size,rfl,?_,ht2.below ((Below.refl _ _).alloc (Nat.le_refl _) _) (Nat.le_refl _)⟩
 refine ownB_new HK2.out (Nat.le_refl _) HNL.out (Nat.le_add_right _ _) (by unfold maxLen;omega) (by rw [spl_length (by have:=HNL.out;simp;omega)];simp) ?_
 unfold spl
 rw [List.take_zero,List.nil_append,List.take_append_of_le_length (by have:=HNL.out;simp;omega),List.take_of_length_le (by have:=HNL.out;simp;omega)]
end Go.Proofs.YtnkjkgmohmcobaaGreatDoor
namespace Go.Proofs.YtnkjkgmohmcobaaGreatDoor
open Go.RowKit Go.Shelf
attribute [local go_sem] Oper.semAt_some
def byteS (n:Int) (s:Nat):UInt8:=UInt8.ofNat ((IntKind.u64.wrap n/2^s%256).toNat)
theorem byteS_int (n:Int) (s:Nat):(((byteS n s).toNat:Nat):Int)=IntKind.u64.wrap n/2^s%256:=by
 unfold byteS
 have h1:0≤IntKind.u64.wrap n/2^s%256:=Int.emod_nonneg _ (by omega)
 have h2:IntKind.u64.wrap n/2^s%256<256:=Int.emod_lt_of_pos _ (by omega)
 rw [UInt8.toNat_ofNat']
 omega
def beB (width:Nat) (n:Int):List UInt8:=(List.range width).map fun i=>byteS n (8*(width-1-i))
theorem beB_length (width:Nat) (n:Int):(beB width n).length=width:=by simp [beB]
theorem beB_at {width k:Nat} (n:Int) (h:k<width):(beB width n)[k]?=some (byteS n (8*(width-1-k))):=by simp [beB,h]
def KeepT (b1 b2:Nat) (W W':World):Prop:=W'.heap[b1]?=W.heap[b1]?∧W'.heap[b2]?=W.heap[b2]?∧W.heap.size≤W'.heap.size
theorem KeepT.refl (b1 b2:Nat) (W:World):KeepT b1 b2 W W:=⟨rfl,rfl,Nat.le_refl _⟩
theorem KeepT.trans {b1 b2:Nat} {A B C:World} (h:KeepT b1 b2 A B) (k:KeepT b1 b2 B C):KeepT b1 b2 A C:=⟨k.1.trans h.1,k.2.1.trans h.2.1,Nat.le_trans h.2.2 k.2.2⟩
theorem parts1_in (m:Nat) (hm:1≤m) (l b1 b2 width:Nat) (n:Int) (J Jx:List UInt8→World→Prop) (hw1:1≤width) (hw8:width≤8)
  (hY:∀pre (x:UInt8) W,J pre W→pre.length<width→YieldAt Fence.wide (m-1) Tryz.prog l #[.int .u8 (x.toNat:Nat)] W fun e W'=>
   (e= .returned (.bool true)∧J (pre++[x]) W'∧KeepT b1 b2 W W')∨(e= .returned (.bool false)∧Jx (pre++[x]) W'))
  (W:World) (k1:Blk W b1 3 #[.int .i64 (width:Nat)]) (k2:Blk W b2 3 #[.int .i64 n]) (h0:J [] W):
  CallsIn Fence.wide m Tryz.prog 228 #[.func (.yield l) #[] #[],.pointer (some ⟨b1,0,none⟩),.pointer (some ⟨b2,0,none⟩)] W fun e W'=>(∃v,e= .returned v)∧
   (J (beB width n) W'∨(∃k,k≤width∧Jx ((beB width n).take k) W')):=by
 refine callsIn_of_wp Tryz.func228 rfl trivial ?_ rfl
 simp only [Tryz.ntmps228,List.size_toArray,List.length_cons,List.length_nil,Nat.reduceAdd,Nat.reduceSub,Array.replicate_succ,Array.replicate_zero,List.push_toArray,List.append_toArray,List.nil_append,List.cons_append]
 have q1:=k1.cell 0
 gi_wp2
 gi_loopw [4] (fun sv wr=>∃(k:Nat),k≤width∧sv= .int .i64 (8*((width:Int)-1-k))∧J ((beB width n).take k) wr∧KeepT b1 b2 W wr) (fun sv _=>(intOf sv+8).toNat)
 case atStart=>exact ⟨0,Nat.zero_le _,by go_num,by simpa using h0,KeepT.refl _ _ _⟩
 case round=>
  obtain ⟨k,hk,rfl,hJ,hkp⟩:=hrel
  have k1':Blk wr b1 3 #[.int .i64 (width:Nat)]:=hkp.1.trans k1
  have k2':Blk wr b2 3 #[.int .i64 n]:=hkp.2.1.trans k2
  have q2:=k2'.cell 0
  by_cases hlt:k<width
  ·have hpl:((beB width n).take k).length<width:=by rw [List.length_take,beB_length];omega
   have HJ:=hide hJ
   have s1:(0:Int)≤8*((width:Int)-1-k):=by omega
   clear hJ
   obtain ⟨fn,tmps,assign,body,hy,hR⟩:=hY _ (byteS n (8*(width-1-k))) wr HJ.out hpl
   rw [byteS_int] at hy
   have HTK:=hide (show (beB width n).take k++[byteS n (8*(width-1-k))]=(beB width n).take (k+1) by
    obtain ⟨hk2,e⟩:=List.getElem?_eq_some_iff.1 (beB_at n hlt)
    rw [List.take_succ_eq_append_getElem hk2,e])
   gi_wp2
   refine hR.mono ?_
   rintro e W3 (⟨rfl,hJ3,hk3⟩|⟨rfl,hJx3⟩)
   ·gi_wp2
    go_roundw
    case rel=>exact ⟨k+1,by omega,by go_num,by rw [← HTK.out];exact hJ3,hkp.trans hk3⟩
    case measure=>simp [intOf];omega
   ·gi_wp2
    refine bodyPost_ret (results_none rfl _ _ _) rfl ?_
    exact ⟨⟨_,rfl⟩,.inr ⟨k+1,by omega,by rw [← HTK.out];exact hJx3⟩⟩
  ·have hT:(beB width n).take k=beB width n:=List.take_of_length_le (by rw [beB_length];omega)
   have HT:=hide hT
   have s1:¬(0:Int)≤8*((width:Int)-1-k):=by omega
   clear hT
   gi_wp2
   go_end0
   exact ⟨⟨_,rfl⟩,.inl (by rw [← HT.out];exact hJ)⟩
theorem parts_in (m:Nat) (width n:Int) (w:World):
  CallsIn Fence.wide m Tryz.prog 164 #[.int .i64 width,.int .i64 n] w fun e w'=>e= .returned (.func (.func 228) #[] #[.pointer (some ⟨w.heap.size,0,none⟩),.pointer (some ⟨w.heap.size+1,0,none⟩)])∧w'=(w.alloc (.cells #[.int .i64 width] 3)).alloc (.cells #[.int .i64 n] 3):=by
 refine callsIn_of_wp Tryz.func164 rfl trivial ?_ rfl
 simp only [Tryz.ntmps164,List.size_toArray,List.length_cons,List.length_nil,Nat.reduceAdd,Nat.reduceSub,Array.replicate_succ,Array.replicate_zero,List.push_toArray,List.append_toArray,List.nil_append,List.cons_append]
 gi_wp2
 go_ret
 exact ⟨rfl,rfl⟩
theorem parts_stops (m:Nat) (hm:1≤m) (b1 b2 width:Nat) (n:Int) (w:World) (hw1:1≤width) (hw8:width≤8) (k1:Blk w b1 3 #[.int .i64 (width:Nat)]) (k2:Blk w b2 3 #[.int .i64 n]):
  SeqStopsK Fence.wide m Tryz.prog 228 #[.pointer (some ⟨b1,0,none⟩),.pointer (some ⟨b2,0,none⟩)] (fun x:UInt8=>#[.int .u8 (x.toNat:Nat)]) (KeepT b1 b2) (fun ys=>ys=beB width n) (fun pre=>∃k,k≤width∧pre=(beB width n).take k) width w:=by
 intro l J Jx W hW hJ hJx hY hJ0
 refine (parts1_in m hm l b1 b2 width n J Jx hw1 hw8 hY W (Blk.via hW k1) (Blk.via hW k2) hJ0).mono ?_
 rintro e W' ⟨hv,h|⟨k,hk,h⟩⟩
 ·exact ⟨hv,.inl ⟨_,rfl,h⟩⟩
 ·exact ⟨hv,.inr ⟨_,⟨k,hk,rfl⟩,h⟩⟩
def PutI (w:World) (Bo:Nat) (width n:Int) (bs:List UInt8) (pre:List UInt8) (W:World):Prop:=∃v,Blk W Bo 24 #[v]∧OwnB W w.heap.size v (bs++pre)∧Below w.heap.size w W∧Blk W (Bo+1) 3 #[.int .i64 width]∧Blk W (Bo+1+1) 3 #[.int .i64 n]
theorem Blk.keepB {w w':World} {b base n s:Nat} {t e:TypeId} {cs:Array Value} {v:Value} {xs:List Value} (k:Blk w b t cs) (h2:w.ownsRow base e s v n xs) (hne:t≠e) (hg:w.grownBy w' v.ownBlock):Blk w' b t cs:=by
 refine k.grown hg (fun e'=>?_)
 obtain ⟨_,⟨rfl,_⟩|⟨g,_,cur,rfl,_,hh,_⟩⟩:=h2
 ·cases e'
 ·injection e' with e'
  subst e'
  exact k.ne_ (show Blk w b e cur from hh) hne rfl
theorem gen3R {w:World} {c0 c1 c2:Array Value} {t0 t1 t2:TypeId} {R:World→Prop} (h:∀W,Blk W w.heap.size t0 c0→Blk W (w.heap.size+1) t1 c1→Blk W (w.heap.size+1+1) t2 c2→Below w.heap.size w W→w.heap.size+3≤W.heap.size→R W):
  R (((w.alloc (.cells c0 t0)).alloc (.cells c1 t1)).alloc (.cells c2 t2)):=by
 refine h _ (((Blk.new w t0 c0).alloc _).alloc _) ?_ ?_ ?_ (by simp)
 ·exact ((by simpa using Blk.new (w.alloc (.cells c0 t0)) t1 c1:Blk _ (w.heap.size+1) t1 c1).alloc _)
 ·exact (by simpa using Blk.new ((w.alloc (.cells c0 t0)).alloc (.cells c1 t1)) t2 c2:Blk _ (w.heap.size+1+1) t2 c2)
 ·exact ((((Below.refl _ _).alloc (Nat.le_refl _) _).alloc (by simp) _).alloc (by simp;omega) _)
theorem leave_mark {F:Fence} {n D:Nat} {P:Program} {fn:Func} {tmps:Array Value} {R:Ending→World→Prop} {W:World} {v:Value} (hK:W.heap[D]?=some (.deferred (some [])))
  (hres:(results fn tmps).run P (W.putObj D (.deferred none))= .ok v (W.putObj D (.deferred none))) (hR:R (.returned v) (W.putObj D (.deferred none))):
  LeavesInM F n P fn tmps R [{target:= .collected D,args:=#[]}] .returning W:=
 ⟨by simp,.inl ⟨_,_,rfl,run_takeDeferred hK,_,hres,hR⟩⟩
theorem putI_own (w w1:World) (Bo:Nat) (width n:Int) (bs:List UInt8) (hw:w.heap.size≤w1.heap.size):OwnFrom w1.heap.size (PutI w Bo width n bs):=by
 rintro pre W W' row ⟨v,k1,k2,k3,k4,k5⟩ hg hr
 refine ⟨v,k1.grown hg (nc_ne hr k1),k2.keep fun q hq=>?_,k3.grown hg k3.size (fun q hq=>by have:=(hr q hq).1;omega),k4.grown hg (nc_ne hr k4),k5.grown hg (nc_ne hr k5)⟩
 obtain ⟨cur,e⟩:=row_obj k2 hq
 exact hg.block q (k2.lt q hq).2 (nc_ne hr e)
theorem put_nil (width:Nat) (n:Int) (w:World) (hw1:1≤width) (hw8:width≤8):
  Calls Tryz.prog 97 #[.slice none 0 0,.int .i64 (width:Nat),.int .i64 n] w fun e w'=>∃g c,e= .returned (.slice (some ⟨g,0,none⟩) width c)∧OwnB w' w.heap.size (.slice (some ⟨g,0,none⟩) width c) (beB width n)∧Below w.heap.size w w':=by
 have hmf:∀(fn:Fn) (first cap:Array Value) (w:World),(Instr.makeFunc fn first cap).run Tryz.prog w= .ok (.func fn first cap) w:=fun _ _ _ _=>rfl
 have HWI:=hide (fun W=>wide_any (width:Nat) true (decide_eq_true ⟨by omega,by omega⟩) W)
 have HWT:=hide (fun W=>with_nil 0 width W (by omega))
 refine (callsIn_wide (n:=9)).1 ?_
 refine callsIn_of_wp_marks Tryz.func97 rfl trivial ?_ rfl
 simp only [Tryz.ntmps97,List.size_toArray,List.length_cons,List.length_nil,Nat.reduceAdd,Nat.reduceSub,Array.replicate_succ,Array.replicate_zero,List.push_toArray,List.append_toArray,List.nil_append,List.cons_append]
 gi_wp2_with (first
  |(refine ⟨trivial,?_⟩;gi_at_call 162;refine (callsIn_wide.2 (HWI.out _)).mono ?_;rintro e w' ⟨rfl,hw'⟩;obtain rfl:=hw'.symm)
  |(refine ⟨trivial,?_⟩;gi_at_call 163;refine (callsIn_wide.2 (HWT.out _)).mono ?_;rintro e w1 ⟨g1,rfl,ho1,hb1⟩)
  |(refine ⟨trivial,?_⟩;gi_at_call 164;refine (parts_in _ _ _ _).mono ?_;rintro e w' ⟨rfl,rfl⟩))
 refine gen3R (fun w2 kO k1 k2 hb2 hz2=>?_)
 have hw12:=hb1.size
 have hbw2:=hb1.trans (hb2.mono hb1.size)
 have ho2:OwnB w2 w.heap.size (.slice (some ⟨g1,0,none⟩) 0 width) []:=ho1.via hb2
 refine wpIn_rangeFunc_ownH (α:=UInt8) rfl (by omega) (gf:=228) (lb:=#[.pointer (some ⟨w1.heap.size+1,0,none⟩),.pointer (some ⟨w1.heap.size+1+1,0,none⟩)]) rfl trivial (enters_of Tryz.func228 (by kernel_rfl) rfl)
  (parts_stops 8 (by omega) (w1.heap.size+1) (w1.heap.size+1+1) width n w2 hw1 hw8 k1 k2)
  (fun h1 h2=>h1.trans h2) ?kb (Below.refl _ _) (fun _=>rfl)
  (PutI w w1.heap.size (width:Nat) n []) (fun _ _ _=>False) (putI_own w w2 _ _ _ _ (by omega)) (fun _ _ _ _ _ hs _ _=>hs) ?start
  (fun x a' W=>a'= {tmps:=#[.slice none 0 0,.int .i64 (width:Nat),.int .i64 n,undef,undef,undef,.slice none 0 0,.pointer (some ⟨w1.heap.size,0,none⟩),.int .u8 (x.toNat:Nat),.int .i64 (width:Nat),.bool true,.bool false,undef,undef,.slice none 0 0,.int .i64 (width:Nat),.slice (some ⟨g1,0,none⟩) 0 width,.int .i64 (width:Nat),.int .i64 n,.func (.func 228) #[] #[.pointer (some ⟨w1.heap.size+1,0,none⟩),.pointer (some ⟨w1.heap.size+1+1,0,none⟩)],.int .u8 (x.toNat:Nat),undef,undef,undef,undef,undef],defers:=[]}) ?ax ?assign ?body ?done ?stop
 case kb=>
  intro W l o o' hl ho hc _
  exact ⟨World.putObj_heap_other (by omega),World.putObj_heap_other (by omega),by simp⟩
 case start=>exact ⟨_,kO,ho2,hbw2,k1,k2⟩
 case ax=>
  rintro x a' _ W W' row h _ _
  exact h
 case assign=>
  rintro l pre x W K hI hK
  gi_wp2
  exact hK _ _ (KeepsFrom.refl _ _) (KeepT.refl _ _ _) hI rfl
 case body=>
  rintro l pre x a' W hl ⟨r,hr⟩ ⟨v,i1,i2,i3,i4,i5⟩ rfl hpl
  simp only [List.nil_append] at i2
  obtain ⟨A,cc,rfl,hnc,_⟩:=own_slice i2
  have q1:=i1.cell 0
  have f1:=i1.frozen 0
  have l1:=i1.lt
  have HI2:=hide (show W.ownsRow w.heap.size 5 1 (.slice A pre.length cc) pre.length (pre.map byteV) from i2)
  obtain ⟨i0,hi,hz0',hz1',hz2'⟩:=info_parts info_u8R
  have i3z:=i3.size
  clear i2
  gi_wp2_with (gi_at_builtin;refine heldG ?_)
  refine unheldG ?_
  gi_at_builtin
  refine wpListIn_append_own _ rfl _ _ _ rfl w.heap.size 5 i0 _ 1 1 Tryz.underlying24 hi hz0' hz1' hz2' rfl (by omega) (.slice A pre.length cc) pre.length _ rfl (HI2.out.alloc _) ⟨W.heap.size,0,none⟩ 1 1 [byteV x] rfl rfl ?c2 ?c3 ?c4 ?c5 ?c6 ?_
  case c2=>intro j u hu;rw [add_plain,Nat.zero_add,(Blk.new W 5 _).cell];simpa [byteV] using hu
  case c3=>intro u hu;rw [List.mem_singleton] at hu;subst hu;rfl
  case c4=>unfold maxLen;omega
  case c5=>omega
  case c6=>simp;omega
  intro v' w4 hown4 hg4 _
  have kk:∀{g:Nat} {t:TypeId} {cs:Array Value},Blk W g t cs→t≠5→Blk w4 g t cs:=fun k hne=>(k.alloc _).keepB (HI2.out.alloc _) hne hg4
  have j1:=kk i1 (by decide)
  have j4:=kk i4 (by decide)
  have j5:=kk i5 (by decide)
  have q14:=j1.cell 0
  have f14:=j1.frozen 0
  have l14:=j1.lt
  obtain ⟨A2,c2,rfl,_⟩:=own_slice hown4
  have HO4:=hide hown4
  have hO:KeepsOthers (W.alloc (.cells #[.int .u8 (x.toNat:Nat)] 5)) w4:=KeepsOthers.of_grownBy hg4 (fun j o e ho=>by
   obtain ⟨cur,e'⟩:=row_obj (HI2.out.alloc (.cells #[.int .u8 (x.toNat:Nat)] 5)) e
   rw [e'] at ho
   injection ho with ho
   subst ho
   rfl)
  have hb4:Below w.heap.size w w4:=(i3.alloc i3z _).grown hg4 (by simp;omega) (fun q hq=>(World.ownsRow.lt HI2.out q hq).1)
  have hz4:W.heap.size≤w4.heap.size:=by have:=hg4.size;simp at this;omega
  have HKO:=hide hO
  clear hown4 hg4 q1 f1 l1 hO
  gi_wp2_with fail
  have hne1:w1.heap.size+1≠w1.heap.size:=by omega
  have hne2:w1.heap.size+1+1≠w1.heap.size:=by omega
  refine ⟨((KeepsOthers.alloc _ _).from _).trans ((HKO.out.from _).trans ((KeepsOthers.setCell _ _ _).from _)),⟨?_,?_,by simp [World.setCell];exact hz4⟩,_,j1.set_ 0 _,?_,hb4.setCell (p:=⟨w1.heap.size,0,none⟩) hw12 _,j4.far (p:=⟨w1.heap.size,0,none⟩) hne1 _,j5.far (p:=⟨w1.heap.size,0,none⟩) hne2 _⟩
  ·exact (j4.far (p:=⟨w1.heap.size,0,none⟩) hne1 _).trans i4.symm
  ·exact (j5.far (p:=⟨w1.heap.size,0,none⟩) hne2 _).trans i5.symm
  ·have h2:OwnB w4 w.heap.size (.slice A2 (pre.length+1) c2) (pre++[x]):=by
    unfold OwnB
    rw [List.map_append,List.length_append]
    exact HO4.out
   exact h2.far j1 (by decide) _
 case done=>
  rintro D ys W hD rfl ⟨v,i1,i2,i3,i4,i5⟩ hK
  obtain ⟨A,cc,rfl,hnc,_⟩:=own_slice i2
  have q1:=i1.cell 0
  have f1:=i1.frozen 0
  have l1:=i1.lt
  have HI2:=hide i2
  clear i2
  simp only [List.nil_append,beB_length] at HI2 hnc q1 ⊢
  gi_wp2
  have hg:∃g,A=some ⟨g,0,none⟩:=by
   have h1:=HI2.out
   unfold OwnB at h1
   rcases h1.2 with ⟨_,h2⟩|⟨g,cap,cur,h2,_⟩
   ·rw [beB_length] at h2;omega
   ·injection h2 with h2 _ _
    exact ⟨g,h2⟩
  obtain ⟨g,rfl⟩:=hg
  refine leave_mark (v:= .slice (some ⟨g,0,none⟩) width cc) hK (by simp [results,Tryz.results97,go_sem]) ⟨g,cc,rfl,HI2.out.keep (fun q hq=>World.putObj_heap_other (fun e=>?_)),i3.grown (grownBy_putObj' W D _) i3.size (fun k hk=>by injection hk with hk;omega)⟩
  subst e
  obtain ⟨cur,e2⟩:=row_obj HI2.out hq
  rw [hK] at e2
  cases e2
 case stop=>
  rintro D c pre W hD _ hF _
  exact hF.elim
end Go.Proofs.YtnkjkgmohmcobaaGreatDoor
namespace Go.Proofs.YtnkjkgmohmcobaaGreatDoor
open Go.RowKit Go.Maps
def cal0 (no:Int):List Value:=[.int .i64 no,.int .i64 0,.int .i64 0,.int .i64 0,.string .empty,.slice none 0 0,.int .i64 0,.int .i64 0,.int .i64 0,.pointer none,.pointer none,.int .i64 0,.int .i64 0,.bool false,.int .i64 0,.int .i64 0,.slice none 0 0,.int .i64 0,.int .i64 0,.int .i64 0]
def CalQ (W:World) (g q:Nat) (cs:List Value):Prop:=∃cur,Blk W g 64 cur∧q+20≤cur.size∧cs.length=20∧∀j v,cs[j]?=some v→cur[q+j]?=some v
section
variable {W W':World} {g q:Nat} {cs:List Value}
theorem CalQ.cell (h:CalQ W g q cs) (j:Nat) {v:Value} (hv:cs[j]?=some v):W.cell? ⟨g,q+j,none⟩=some v:=by
 obtain ⟨cur,k,_,_,hc⟩:=h
 rw [k.cell]
 exact hc j v hv
theorem CalQ.lt (h:CalQ W g q cs):g<W.heap.size:=by
 obtain ⟨cur,k,_⟩:=h
 exact k.lt
theorem CalQ.frozen (h:CalQ W g q cs) (i:Nat):W.frozen? ⟨g,i,none⟩=false:=by
 obtain ⟨cur,k,_⟩:=h
 exact k.frozen i
theorem CalQ.via (hb:Below W.heap.size W W') (h:CalQ W g q cs):CalQ W' g q cs:=by
 obtain ⟨cur,k,h1,h2,h3⟩:=h
 exact ⟨cur,Blk.via hb k,h1,h2,h3⟩
theorem CalQ.keep (h:CalQ W g q cs) (hk:W'.heap[g]?=W.heap[g]?):CalQ W' g q cs:=by
 obtain ⟨cur,k,h1,h2,h3⟩:=h
 exact ⟨cur,hk.trans k,h1,h2,h3⟩
theorem CalQ.set1 (h:CalQ W g q cs) {j:Nat} (hj:j<20) (v:Value):CalQ (W.setCell ⟨g,q+j,none⟩ v) g q (cs.set j v):=by
 obtain ⟨cur,k,h1,h2,h3⟩:=h
 refine ⟨_,k.set_ (q+j) v,by rw [Array.size_setIfInBounds];exact h1,by rw [List.length_set];exact h2,fun i u hu=>?_⟩
 rw [Array.getElem?_setIfInBounds]
 rw [List.getElem?_set] at hu
 by_cases e:j=i
 ·subst e
  rw [if_pos rfl] at hu ⊢
  rw [if_pos (by omega)] at hu ⊢
  exact hu
 ·rw [if_neg e] at hu
  rw [if_neg (by omega)]
  exact h3 i u hu
theorem CalQ.put (h:CalQ W g q cs) {vs:List Value} (hv:vs.length=20):CalQ (putL W g q vs) g q vs:=by
 obtain ⟨cur,k,h1,h2,h3⟩:=h
 obtain ⟨s1,s2,s3⟩:=setL_spec vs cur q (by omega)
 exact ⟨_,putL_blk vs q k,by rw [s1];exact h1,hv,s3⟩
end
def bankC (b g n:Nat) (ev:Value):Array Value:=#[.pointer (some ⟨b,0,none⟩),.slice (some ⟨g,0,none⟩) n n,ev,.int .i64 0]
theorem dead_any (k b g n:Nat) (ev:Value) (w:World) (kk:Blk w k 73 (bankC b g n ev)):Calls Tryz.prog 17 #[.pointer (some ⟨k,0,none⟩)] w fun e w'=>e= .returned (.int .i64 0)∧w'=w:=by
 have c3:w.cell? ⟨k,3,none⟩=some (.int .i64 0):=kk.cell 3
 have kl:=kk.lt
 clear kk
 go_enter Tryz.func17,Tryz.ntmps17
 go_wp2
 go_ret
 exact ⟨rfl,rfl⟩
theorem dead_nil (w:World):Calls Tryz.prog 17 #[.pointer none] w fun e w'=>e= .returned (.int .i64 4)∧w'=w:=by
 go_enter Tryz.func17,Tryz.ntmps17
 go_wp2
 go_ret
 exact ⟨rfl,rfl⟩
theorem client_in (k b g n i:Nat) (ev:Value) (hi:i<n) (w:World) (kk:Blk w k 73 (bankC b g n ev)):Calls Tryz.prog 23 #[.pointer (some ⟨k,0,none⟩),.int .i64 (i:Nat)] w fun e w'=>e= .returned (.pointer (some ⟨g,i*20,none⟩))∧w'=w:=by
 have c1:w.cell? ⟨k,1,none⟩=some (.slice (some ⟨g,0,none⟩) n n):=kk.cell 1
 have kl:=kk.lt
 have i0:¬(i:Int)<0:=by omega
 have i1:¬(n:Int)≤i:=by omega
 have i2:(i:Int)<n:=by omega
 clear kk
 go_enter Tryz.func23,Tryz.ntmps23
 go_wp2
 go_ret
 exact ⟨by first|rfl|simp,rfl⟩
theorem client_out (k b g n:Nat) (i:Int) (ev:Value) (hi:¬(0≤i∧i<n)) (w:World) (kk:Blk w k 73 (bankC b g n ev)):Calls Tryz.prog 23 #[.pointer (some ⟨k,0,none⟩),.int .i64 i] w fun e w'=>e= .returned (.pointer none)∧w'=w:=by
 have c1:w.cell? ⟨k,1,none⟩=some (.slice (some ⟨g,0,none⟩) n n):=kk.cell 1
 have kl:=kk.lt
 clear kk
 by_cases h0:i<0
 ·clear hi
  go_enter Tryz.func23,Tryz.ntmps23
  go_wp2
  go_ret
  exact ⟨rfl,rfl⟩
 ·have i1:(n:Int)≤i:=by omega
  clear hi
  go_enter Tryz.func23,Tryz.ntmps23
  go_wp2
  go_ret
  exact ⟨rfl,rfl⟩
theorem ready_in (k b g n i:Nat) (ev:Value) (hi:i<n) (w:World) (kk:Blk w k 73 (bankC b g n ev)):Calls Tryz.prog 22 #[.pointer (some ⟨k,0,none⟩),.int .i64 (i:Nat)] w fun e w'=>e= .returned (.int .i64 0)∧w'=w:=by
 have HD:=hide (dead_any k b g n ev w kk)
 have HC:=hide (client_in k b g n i ev hi w kk)
 clear kk
 go_enter Tryz.func22,Tryz.ntmps22
 go_wp2_with (first
  |(go_at_call 17;refine HD.out.mono ?_;rintro e w' ⟨rfl,hw'⟩;obtain rfl:=hw'.symm)
  |(go_at_call 23;refine HC.out.mono ?_;rintro e w' ⟨rfl,hw'⟩;obtain rfl:=hw'.symm))
 go_ret
 exact ⟨rfl,rfl⟩
theorem ready_out (k b g n:Nat) (i:Int) (ev:Value) (hi:¬(0≤i∧i<n)) (w:World) (kk:Blk w k 73 (bankC b g n ev)):Calls Tryz.prog 22 #[.pointer (some ⟨k,0,none⟩),.int .i64 i] w fun e w'=>e= .returned (.int .i64 2)∧w'=w:=by
 have HD:=hide (dead_any k b g n ev w kk)
 have HC:=hide (client_out k b g n i ev hi w kk)
 clear kk hi
 go_enter Tryz.func22,Tryz.ntmps22
 go_wp2_with (first
  |(go_at_call 17;refine HD.out.mono ?_;rintro e w' ⟨rfl,hw'⟩;obtain rfl:=hw'.symm)
  |(go_at_call 23;refine HC.out.mono ?_;rintro e w' ⟨rfl,hw'⟩;obtain rfl:=hw'.symm))
 go_ret
 exact ⟨rfl,rfl⟩
theorem ready_nil (i:Int) (w:World):Calls Tryz.prog 22 #[.pointer none,.int .i64 i] w fun e w'=>e= .returned (.int .i64 4)∧w'=w:=by
 have HD:=hide (dead_nil w)
 go_enter Tryz.func22,Tryz.ntmps22
 go_wp2_with (go_at_call 17;refine HD.out.mono ?_;rintro e w' ⟨rfl,hw'⟩;obtain rfl:=hw'.symm)
 go_ret
 exact ⟨rfl,rfl⟩
theorem state_out (k b g n:Nat) (i:Int) (ev:Value) (hi:¬(0≤i∧i<n)) (w:World) (kk:Blk w k 73 (bankC b g n ev)):Calls Tryz.prog 13 #[.pointer (some ⟨k,0,none⟩),.int .i64 i] w fun e w'=>e= .returned (.int .i64 0)∧w'=w:=by
 have HC:=hide (client_out k b g n i ev hi w kk)
 clear kk hi
 go_enter Tryz.func13,Tryz.ntmps13
 go_wp2_with (go_at_call 23;refine HC.out.mono ?_;rintro e w' ⟨rfl,hw'⟩;obtain rfl:=hw'.symm)
 go_ret
 exact ⟨rfl,rfl⟩
theorem txn_out (k b g n:Nat) (i:Int) (ev:Value) (hi:¬(0≤i∧i<n)) (w:World) (kk:Blk w k 73 (bankC b g n ev)):Calls Tryz.prog 14 #[.pointer (some ⟨k,0,none⟩),.int .i64 i] w fun e w'=>e= .returned (.int .i64 0)∧w'=w:=by
 have HC:=hide (client_out k b g n i ev hi w kk)
 clear kk hi
 go_enter Tryz.func14,Tryz.ntmps14
 go_wp2_with (go_at_call 23;refine HC.out.mono ?_;rintro e w' ⟨rfl,hw'⟩;obtain rfl:=hw'.symm)
 go_ret
 exact ⟨rfl,rfl⟩
end Go.Proofs.YtnkjkgmohmcobaaGreatDoor
namespace Go.Proofs.YtnkjkgmohmcobaaGreatDoor
open Go.RowKit Go.Maps
theorem bankNew_nil (w:World):Calls Tryz.prog 18 #[.pointer none] w fun e w'=>e= .returned (.pointer none)∧w'=w:=by
 go_enter Tryz.func18,Tryz.ntmps18
 go_wp2
 go_ret
 exact ⟨rfl,rfl⟩
theorem info_caller:(Tryz.prog.info? 64).map (fun i=>(i.zero,i.size,i.bytes))=some (some (.agg (cal0 0).toArray),20,200):=by kernel_rfl
theorem made_cal (n q j:Nat) (hq:q<n) (v:Value) (hv:(cal0 0)[j]?=some v):(madeCells (Value.agg (cal0 0).toArray).cells (n*20))[q*20+j]?=some v:=by
 have hj:j<20:=(List.getElem?_eq_some_iff.1 hv).1
 have hlt:q*20+j<n*20:=by omega
 have h1:(Value.agg (cal0 0).toArray).cells=(cal0 0).toArray:=rfl
 have h2:(cal0 0).toArray.size=20:=rfl
 have h3:(q*20+j)%20=j:=by omega
 unfold madeCells
 rw [h1,Array.getElem?_map,Array.getElem?_range,if_pos hlt,Option.map_some,h2,h3, ← hv]
 simp [getElem!_def,hv]
def NewI (n g i:Nat) (W:World):Prop:=∀q,q<n→CalQ W g (q*20) (cal0 (if q<i then q else 0))
theorem NewI.step {n g i:Nat} {W:World} (h:NewI n g i W) (hi:i<n):NewI n g (i+1) (W.setCell ⟨g,i*20,none⟩ (.int .i64 (i:Nat))):=by
 intro q hq
 by_cases e:q=i
 ·subst e
  rw [if_pos (by omega)]
  have:=(h q hq).set1 (j:=0) (by omega) (.int .i64 (q:Nat))
  rw [if_neg (by omega)] at this
  exact this
 ·have hc:(if q<i+1 then (q:Int) else 0)=(if q<i then (q:Int) else 0):=by
   by_cases h1:q<i
   ·rw [if_pos h1,if_pos (by omega)]
   ·rw [if_neg h1,if_neg (by omega)]
  obtain ⟨cur,k,h1,h2,h3⟩:=h q hq
  rw [hc]
  refine ⟨_,k.set_ (i*20) _,by rw [Array.size_setIfInBounds];exact h1,h2,fun j v hv=>?_⟩
  have hj:j<20:=by have:=(List.getElem?_eq_some_iff.1 hv).1;rw [h2] at this;exact this
  rw [Array.getElem?_setIfInBounds,if_neg (by omega)]
  exact h3 j v hv
theorem bankNew_any (b n:Nat) (cs:Array Value) (h1:1≤n) (h16:n≤16) (w:World) (kb:Blk w b 85 cs) (hc:cs[4]?=some (.int .i64 (n:Nat))):
  Calls Tryz.prog 18 #[.pointer (some ⟨b,0,none⟩)] w fun e w'=>∃k g,e= .returned (.pointer (some ⟨k,0,none⟩))∧Blk w' k 73 (bankC b g n (.slice none 0 0))∧NewI n g n w'∧w.heap.size≤k∧w.heap.size≤g∧Below w.heap.size w w':=by
 have c4:w.cell? ⟨b,4,none⟩=some (.int .i64 (n:Nat)):=by rw [kb.cell];exact hc
 have bl:=kb.lt
 obtain ⟨i0,hi,hz0,hz1,hz2⟩:=info_parts info_caller
 have hmk0:=fun W=>run_make_rowN (P:=Tryz.prog) 71 64 i0 (.agg (cal0 0).toArray) Tryz.underlying71 hi hz0 .i64 .i64 n n (Nat.le_refl _) (by rw [hz2];omega) (by omega) W
 rw [hz1] at hmk0
 obtain ⟨X,hX⟩:∃X,X=madeCells (Value.agg (cal0 0).toArray).cells (n*20):=⟨_,rfl⟩
 rw [← hX] at hmk0
 have hmk:∀W:World,(Instr.makeSlice 71 (.int .i64 (n:Nat)) (.int .i64 (n:Nat))).run Tryz.prog W= .ok (.slice (some ⟨W.heap.size,0,none⟩) n n) (W.alloc (.cells X 64)):=hmk0
 have HXC:=hide (fun (q j:Nat) (v:Value) (hq:q<n) (hv:(cal0 0)[j]?=some v)=>hX▸made_cal n q j hq v hv)
 have HXS:=hide (show X.size=n*20 by rw [hX];exact size_madeCells _ _)
 clear hX hmk0 hi hz0 hz1 hz2 hc kb
 have a1:max (n:Int) 0=n:=by omega
 have a2:min (n:Int) 16=n:=by omega
 go_enter Tryz.func18,Tryz.ntmps18
 go_upto_region 5 with (fail)
 refine gen2 (R:=fun W=>Code.wp _ _ _ _ W) (fun W1 kg kk hb1 hz1=>?_)
 obtain ⟨g,hg⟩:∃g,g=w.heap.size:=⟨_,rfl⟩
 rw [← hg] at kg kk hz1 ⊢
 have HI:=hide (show NewI n g 0 W1 from fun q hq=>⟨X,kg,by rw [HXS.out];omega,rfl,fun j v hv=>HXC.out q j v hq hv⟩)
 have HKK:=hide (show Blk W1 (g+1) 73 (bankC b g n (.slice none 0 0)) from kk)
 have HB1:=hide hb1
 have HG:=hide hg
 have k1:W1.cell? ⟨g+1,1,none⟩=some (.slice (some ⟨g,0,none⟩) n n):=kk.cell 1
 have kl:=kk.lt
 clear kg kk hb1 hg HXC HXS hmk c4 bl
 go_wp2
 go_loopw [25] (fun iv wr=>∃i:Nat,i≤n∧iv= .int .i64 i∧Hid (NewI n g i wr)∧Hid (Blk wr (g+1) 73 (bankC b g n (.slice none 0 0)))∧Hid (Below w.heap.size w wr)) (fun iv _=>n-(intOf iv).toNat)
 case atStart=>exact ⟨0,Nat.zero_le _,rfl,HI,HKK,HB1⟩
 case round=>
  obtain ⟨i,hi,rfl,hI,hK,hB⟩:=hrel
  have k1:wr.cell? ⟨g+1,1,none⟩=some (.slice (some ⟨g,0,none⟩) n n):=hK.out.cell 1
  have kl:=hK.out.lt
  by_cases hlt:(i:Int)<n
  ·have i2:i<n:=by omega
   obtain ⟨cur,kc,s1,s2,s3⟩:=hI.out i i2
   have gl:=kc.lt
   have gf:=kc.frozen (i*20)
   have gne:g+1≠g:=by omega
   have hcell:wr.cell? ⟨g,i*20,none⟩=some (.int .i64 (if i<i then (i:Int) else 0)):=by
    have:=(hI.out i i2).cell 0 (v:= .int .i64 (if i<i then i else 0)) rfl
    exact this
   have HST:=hide (hI.out.step i2)
   have HKF:=hide (hK.out.far (p:=⟨g,i*20,none⟩) gne (.int .i64 (i:Nat)))
   have HBS:=hide (hB.out.setCell (p:=⟨g,i*20,none⟩) (by rw [← HG.out];exact Nat.le_refl _) (.int .i64 (i:Nat)))
   clear kc s1 s2 s3
   go_wp2
   go_roundw
   case rel=>exact ⟨i+1,by omega,by go_num,HST,HKF,HBS⟩
   case measure=>simp [intOf];omega
  ·have hin:i=n:=by omega
   have HIN:=hide hin
   clear hin
   go_wp2
   go_ret
   exact ⟨g+1,rfl,g,hK.out,by have:=hI.out;rw [HIN.out] at this;exact this,by rw [HG.out];omega,by rw [HG.out];exact Nat.le_refl _,hB.out⟩
end Go.Proofs.YtnkjkgmohmcobaaGreatDoor
namespace Go.Proofs.YtnkjkgmohmcobaaGreatDoor
open Go.RowKit
theorem run_string_of {P:Program} {w:World} {B:Nat} {A:Option Addr} {n c:Nat} {bs:List UInt8} (h:Reads w B 1 A n (bs.map byteV)) (src e dst:TypeId) (hs:P.underlying src=some (.slice e)) (he:P.underlying e=some (.int .u8)) (hd:P.underlying dst=some .string):
  (convert src dst (.slice A n c)).run P w= .ok (.string ⟨bs.toArray⟩) w:=by
 have hl:bs.length=n:=by have:=h.1;simpa using this
 rcases Nat.eq_zero_or_pos n with h0|h0
 ·subst h0
  obtain rfl:bs=[]:=List.eq_nil_of_length_eq_zero hl
  cases A with
  |none=>exact run_convert_bytes_nil w src e hs he 0 c dst hd
  |some ad=>
   rw [run_convert_bytes_string w src dst e _ 0 c hs he hd,run_bytesToString w ad 0 c [] (by simp [loadCells,loadCellsFrom])]
   rfl
 ·obtain ⟨ad,rfl,_,hc⟩:=h.2 h0
  have hload:(loadCells ad n).run P w= .ok ((bs.map fun b=>((b.toNat:Nat):Int)).map (Value.int .u8)).toArray w:=by
   have:=run_loadCells_list (P:=P) w ad (bs.map byteV) (fun j v hj=>hc j v hj)
   simp only [List.length_map,hl] at this
   rw [this]
   simp [byteV,Function.comp_def]
  rw [run_convert_bytes_string w src dst e _ n c hs he hd,run_bytesToString w ad n c _ hload,foldl_push_bytes]
  congr 2
  simp [ByteArray.empty,ByteArray.emptyWithCapacity,Function.comp_def]
  rfl
theorem info_u8:(Tryz.prog.info? 5).map (fun i=>(i.zero,i.size,i.bytes))=some (some (.int .u8 0),1,1):=by kernel_rfl
theorem Clone_any (v:Value) (bs:List UInt8) (B:Nat) (w:World) (hB:B≤w.heap.size) (hn:bs.length≤1000000) (h:BytesAt w B v bs):
  Calls Tryz.prog 33 #[v] w fun e w'=>∃v',e= .returned v'∧BytesAt w' w'.heap.size v' bs∧Fresh w.heap.size v'∧Below w.heap.size w w':=by
 obtain ⟨A,n,c,rfl,hnc,hcm,hnl,hnil,hr⟩:=h
 obtain ⟨i0,hi,hz0,hz1,hz2⟩:=info_parts info_u8
 cases A with
 |none=>
  have hc0:=hnil rfl
  obtain rfl:n=0:=by omega
  subst hc0
  obtain rfl:bs=[]:=List.eq_nil_of_length_eq_zero hnl.symm
  clear hcm hnc hnil hnl hi
  have hq:=fun w:World=>Lib.run_eql_slice_nil (P:=Tryz.prog) w 24 5 none 0 0 0 0 Tryz.underlying24
  go_enter Tryz.func33,Tryz.ntmps33
  go_wp2
  go_ret
  exact ⟨_,rfl,⟨none,0,0,rfl,Nat.le_refl _,Nat.zero_le _,rfl,fun _=>rfl,Reads.none_⟩,fun _ _ _ h=>(by cases h),Below.refl _ _⟩
 |some ad=>
  clear hcm hnc hnil
  have hq:=fun w:World=>Lib.run_eql_slice_nil (P:=Tryz.prog) w 24 5 (some ad) n c 0 0 Tryz.underlying24
  go_enter Tryz.func33,Tryz.ntmps33
  have HL:=hide hnl
  clear hnl
  go_wp2_with (at_builtin;refine wpList_append_any _ rfl _ _ _ rfl w.heap.size 5 i0 _ 1 1 Tryz.underlying24 hi hz0 hz1 hz2 rfl (by omega) _ 0 [] rfl ?c1 B (some ad) n c (bs.map byteV) rfl ?c2 ?c3 ?c4 ?c5 ?c6 ?_)
  case c1=>exact World.ownsRow_made w #[] 0 (Nat.le_refl _) (Nat.zero_le _) rfl
  case c2=>exact hr.alloc hB _
  case c3=>intro u hu;obtain ⟨b,_,rfl⟩:=List.mem_map.1 hu;rfl
  case c4=>have:=HL.out;unfold maxLen;omega
  case c5=>have:=HL.out;omega
  case c6=>simp
  intro v' w1 hown hg hat
  go_wp2
  go_ret
  have hb1:Below w.heap.size w w1:=((Below.refl _ _).alloc (Nat.le_refl _) _).grown hg (by simp) (fun k hk=>by cases hk;exact Nat.le_refl _)
  exact ⟨_,rfl,BytesAt.of_own hown,Fresh.of_own hown,hb1⟩
end Go.Proofs.YtnkjkgmohmcobaaGreatDoor
