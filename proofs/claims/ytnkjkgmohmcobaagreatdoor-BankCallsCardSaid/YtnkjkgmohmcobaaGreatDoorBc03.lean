/-
  Texts of this claim, joined: RI, RM, RN, RT, RU, RV, RX, RW, RY, JC, KA.
-/
import Derived.StillTail
import Derived.Lib.BufferWrite
import Derived.Defers
import Derived.Lib.AppendStr
import Derived.Test.YtnkjkgmohmcobaaGreatDoorBc02
set_option maxHeartbeats 6400000
set_option maxRecDepth 100000
namespace Go.Proofs.YtnkjkgmohmcobaaGreatDoor
open Go.RowKit
theorem wp_strict {P:Program} {o:Oper} {a:Act} {w:World} {K K':Act→World→Prop} {Q Q2:Exit→Act→World→Prop} (hQ:∀x a w,Q2 x a w→x= .normal) (hK:∀a w,K a w→K' a w) (h:o.wp P a w K Q2):o.wp P a w K' Q:=by
 unfold Oper.wp at*
 generalize (execOp a.eval o).run P w=r at*
 cases r with
 |ok n w'=>
  cases n<;>simp only [Oper.upon] at h ⊢
  case enter f args=>
   refine Calls.mono h (fun e w'' he=>?_)
   cases e with
   |returned v=>exact hK _ _ he
   |panicked c=>exact absurd (hQ _ _ _ he) (by simp)
   |outgrown=>
    obtain ⟨a',w',he⟩:=he
    exact absurd (hQ _ _ _ he) (by simp)
  case row r args=>exact Rows.mono h fun _ _ he=>hK _ _ he
  all_goals exact hK _ _ h
 |halt x w'=>
  cases x<;>simp only [Oper.upon] at h ⊢
  case panic v=>exact absurd (hQ _ _ _ h) (by simp)
def fillF:List Oper→(Nat→Value)→Nat→Act→Act
 |[],_,_,a=>a
 |o::r,f,k,a=>fillF r f (k+1) (a.put o.dst (f k))
def distB:List Oper→Bool
 |[]=>true
 |o::r=>r.all (fun p=>p.dst==none || p.dst != o.dst)&&distB r
def aftB:List Oper→Nat→Bool
 |[],_=>true
 |o::r,k=>o.after.all (fun e=>decide (e.on<k))&&aftB r (k+1)
theorem mfl {α:Type} {p:α→Bool} {l:List α} {a:α} (h:a∈l) (h':p a=true):a∈l.filter p:=List.mem_filter.2 ⟨h,h'⟩
theorem fS:(∀(f:Nat→Value) (k:Nat) (a:Act),fillF [] f k a=a)∧(∀(o:Oper) (r:List Oper) (f:Nat→Value) (k:Nat) (a:Act),fillF (o::r) f k a=fillF r f (k+1) (a.put o.dst (f k)))∧(∀(a:Act) (v:Value),a.put none v=a)∧(∀(a:Act) (d:Tmp) (v:Value),a.put (some d) v= {a with tmps:=a.tmps.setIfInBounds d v})∧(∀(l:List Value) (i:Nat) (v:Value),l.toArray.setIfInBounds i v=(l.set i v).toArray)∧(∀(x:Value) (l:List Value) (i:Nat) (v:Value),(x::l).set (i+1) v=x::l.set i v)∧(∀(x:Value) (l:List Value) (v:Value),(x::l).set 0 v=v::l):=⟨fun _ _ _=>rfl,fun _ _ _ _ _=>rfl,fun _ _=>rfl,fun _ _ _=>rfl,fun _ _ _=>List.setIfInBounds_toArray ..,fun _ _ _ _=>rfl,fun _ _ _=>rfl⟩
theorem put_put (a:Act) (x:Option Tmp) (u v:Value):(a.put x u).put x v=a.put x v:=by
 cases x with
 |none=>rfl
 |some d=>simp [Act.put]
theorem fill_comm {x:Option Tmp} {v:Value} :∀(l:List Oper) (f:Nat→Value) (k:Nat) (a:Act),(∀p∈l,p.dst=none∨p.dst≠x)→(fillF l f k a).put x v=fillF l f k (a.put x v)
 |[],_,_,_,_=>rfl
 |o::r,f,k,a,h=>by
  unfold fillF
  rw [fill_comm r f (k+1) _ (fun p hp=>h p (List.mem_cons_of_mem _ hp))]
  congr 1
  rcases h o List.mem_cons_self with h1|h1
  ·rw [h1];rfl
  ·exact Act.put_comm a _ _ (fun d hd he=>h1 (hd.trans he.symm))
theorem fill_congr:∀(l:List Oper) (f g:Nat→Value) (k:Nat) (a:Act),(∀j,k≤j→f j=g j)→fillF l f k a=fillF l g k a
 |[],_,_,_,_,_=>rfl
 |o::r,f,g,k,a,h=>by
  unfold fillF
  rw [h k (Nat.le_refl _)]
  exact fill_congr r f g (k+1) _ (fun j hj=>h j (by omega))
theorem fill_put {v:Value} {o:Oper} :∀(l:List Oper) (f:Nat→Value) (k i:Nat) (a:Act),distB l=true→l[i]?=some o→(fillF l f k a).put o.dst v=fillF l (fun j=>if j=k+i then v else f j) k a
 |[],_,_,_,_,_,h=>by simp at h
 |p::r,f,k,i,a,hd,h=>by
  simp only [distB,Bool.and_eq_true,List.all_eq_true,Bool.or_eq_true,beq_iff_eq,bne_iff_ne] at hd
  cases i with
  |zero=>
   obtain rfl:p=o:=by simpa using h
   unfold fillF
   rw [fill_comm r f (k+1) _ hd.1,put_put]
   simp only [Nat.add_zero,if_true]
   exact fill_congr r _ _ (k+1) _ (fun j hj=>by simp only [if_neg (show ¬j=k by omega)])
  |succ i=>
   have h':r[i]?=some o:=by simpa using h
   unfold fillF
   rw [fill_put r f (k+1) i _ hd.2 h']
   simp only [if_neg (show ¬k=k+(i+1) by omega)]
   refine fill_congr r _ _ (k+1) _ (fun j _=>?_)
   simp only [show (k+1+i)=k+(i+1) by omega]
theorem fill_self:∀(l:List Oper) (k:Nat) (a:Act),∃f,fillF l f k a=a
 |[],_,_=>⟨fun _=>undef,rfl⟩
 |o::r,k,a=>by
  obtain ⟨f,hf⟩:=fill_self r (k+1) a
  have hp:a.put o.dst (match o.dst with|some d=>a.tmps.getD d undef|none=>undef)=a:=by
   cases o.dst with
   |none=>rfl
   |some d=>
    simp only [Act.put]
    have:a.tmps.setIfInBounds d (a.tmps.getD d undef)=a.tmps:=by
     refine Array.ext (by simp) (fun i h1 h2=>?_)
     rw [Array.getElem_setIfInBounds]
     split
     ·rename_i e
      subst e
      simp [Array.getD,h2]
     ·rfl
    rw [this]
  refine ⟨fun j=>if j=k then (match o.dst with|some d=>a.tmps.getD d undef|none=>undef) else f j,?_⟩
  unfold fillF
  simp only [if_true]
  rw [hp,fill_congr r _ f (k+1) a (fun j hj=>by simp only [if_neg (show ¬j=k by omega)]),hf]
def atI (As:List (Value→World→Prop)) (i:Nat) (v:Value) (W:World):Prop:=match As[i]? with|some p=>p v W|none=>True
def depsI (As:List (Value→World→Prop)) (f:Nat→Value) (W:World) (l:List Edge):Prop:=∀e∈l,atI As e.on (f e.on) W
def DoneI (a:Act) (d:Option Tmp) (p:Value→World→Prop) (W:World) (x:Exit) (a'':Act) (W'':World):Prop:=x= .normal∧∃v,a''=a.put d v∧p v W''∧Below W.heap.size W W''
def stepI (P:Program) (ops:List Oper) (As:List (Value→World→Prop)) (a:Act) (w:World) (k:Nat) (o:Oper):Prop:=
 ∀f W,Below w.heap.size w W→depsI As f W (o.after.toList.filter (fun e=>Region.binds .any e))→wpList P ops.toArray (DoneI (fillF ops f 0 a) o.dst (atI As k) W) [o] (fillF ops f 0 a) W
def stepsI (P:Program) (ops:List Oper) (As:List (Value→World→Prop)) (a:Act) (w:World):List Oper→Nat→Prop
 |[],_=>True
 |o::r,k=>stepI P ops As a w k o∧stepsI P ops As a w r (k+1)
theorem steps_at {P:Program} {ops:List Oper} {As:List (Value→World→Prop)} {a:Act} {w:World} :∀(l:List Oper) (k i:Nat) (o:Oper),stepsI P ops As a w l k→l[i]?=some o→stepI P ops As a w (k+i) o
 |[],_,_,_,_,h=>by simp at h
 |p::r,k,i,o,hs,h=>by
  cases i with
  |zero=>
   obtain rfl:p=o:=by simpa using h
   exact hs.1
  |succ i=>
   have:=steps_at r (k+1) i o hs.2 (by simpa using h)
   rwa [show k+1+i=k+(i+1) by omega] at this
theorem aft_at:∀(l:List Oper) (k i:Nat) (o:Oper),aftB l k=true→l[i]?=some o→∀e∈o.after,e.on<k+i
 |[],_,_,_,_,h=>by simp at h
 |p::r,k,i,o,hs,h=>by
  simp only [aftB,Bool.and_eq_true,Array.all_eq_true_iff_forall_mem,decide_eq_true_eq] at hs
  cases i with
  |zero=>
   obtain rfl:p=o:=by simpa using h
   exact hs.1
  |succ i=>
   have:=aft_at r (k+1) i o hs.2 (by simpa using h)
   rwa [show k+1+i=k+(i+1) by omega] at this
theorem wpAny_inv {P:Program} {Q:Exit→Act→World→Prop} {a:Act} {w:World} {l:List Oper} (As:List (Value→World→Prop)) (hd:distB l=true) (ha:aftB l 0=true)
  (hst:∀i v W W',Below W.heap.size W W'→atI As i v W→atI As i v W') (hs:stepsI P l As a w l 0) (h:∀f W,Below w.heap.size w W→(∀i,i<l.length→atI As i (f i) W)→Q .normal (fillF l f 0 a) W):
  ∀(fuel:Nat) (listed:Array Bool) (f:Nat→Value) (W:World) (u:List Nat),listed.size=l.length→u.Nodup→u.length=fuel→(∀i,i∈u↔(i<l.length∧listed.getD i true=false))→Below w.heap.size w W→
   (∀i,i<l.length→listed.getD i true=true→atI As i (f i) W)→wpAny P .any l.toArray Q fuel listed (fillF l f 0 a) W:=by
 intro fuel
 induction fuel with
 |zero=>
  intro listed f W u hz hn hl hu hb hA
  obtain rfl:=List.eq_nil_of_length_eq_zero hl
  refine ⟨?_,h f W hb (fun i hi=>hA i hi ?_)⟩
  ·rw [List.eq_nil_iff_forall_not_mem]
   intro i hi
   obtain ⟨h1,o,ho,_⟩:=mem_ready.1 hi
   have:=(hu i).2 ⟨by have:=(Array.getElem?_eq_some_iff.1 ho).1;simpa using this,h1⟩
   cases this
  ·cases hb':listed.getD i true with
   |true=>rfl
   |false=>exact absurd ((hu i).2 ⟨hi,hb'⟩) (by simp)
 |succ fuel ih=>
  intro listed f W u hz hn hl hu hb hA
  refine ⟨fun hnil=>?_,fun i hi=>?_⟩
  ·exfalso
   have hex:∃i,i<l.length∧listed.getD i true=false:=by
    cases u with
    |nil=>simp at hl
    |cons x r=>exact ⟨x,(hu x).1 List.mem_cons_self⟩
   have key:∀n,∀i,i<n→i<l.length→listed.getD i true=false→False:=by
    intro n
    induction n with
    |zero=>intro i hi;omega
    |succ n ihn=>
     intro i hi hil hun
     obtain ⟨o,ho⟩:∃o,l[i]?=some o:=⟨_,List.getElem?_eq_getElem hil⟩
     have:i∈Region.ready .any l.toArray listed:=by
      refine mem_ready.2 ⟨hun,o,by simpa using ho,fun e he _=>?_⟩
      have hlt:=aft_at l 0 i o ha ho e he
      cases hb':listed.getD e.on false with
      |true=>rfl
      |false=>
       exfalso
       refine ihn e.on (by omega) (by omega) ?_
       have hin:e.on<listed.size:=by omega
       simp only [Array.getD,hin,dif_pos] at hb' ⊢
       exact hb'
     rw [hnil] at this
     cases this
   obtain ⟨i,h1,h2⟩:=hex
   exact key (i+1) i (by omega) h1 h2
  ·obtain ⟨hun,o,ho,hall⟩:=mem_ready.1 hi
   have ho':l[i]?=some o:=by simpa using ho
   have hil:i<l.length:=(List.getElem?_eq_some_iff.1 ho').1
   have hstep:=steps_at l 0 i o hs ho'
   rw [Nat.zero_add] at hstep
   have hq:=hstep f W hb (by
    intro e he
    rw [List.mem_filter] at he
    have he1:e∈o.after:=by simpa using he.1
    have hlt:=aft_at l 0 i o ha ho' e he1
    have hll:=hall e he1 he.2
    refine hA e.on (by omega) ?_
    have hin:e.on<listed.size:=by omega
    simp only [Array.getD,hin,dif_pos] at hll ⊢
    exact hll)
   have hnext:∀(a'':Act) (W'':World),(∃v,a''=(fillF l f 0 a).put o.dst v∧atI As i v W''∧Below W.heap.size W W'')→wpAny P .any l.toArray Q fuel (listed.setIfInBounds i true) a'' W'':=by
    rintro a'' W'' ⟨v,rfl,hv,hb2⟩
    rw [fill_put l f 0 i a hd ho']
    refine ih _ _ _ (u.erase i) (by simpa using hz) (hn.erase _) (by rw [List.length_erase_of_mem ((hu i).2 ⟨hil,hun⟩)];omega) (fun j=>?_) (below_via hb hb2 hb.size) (fun j hj hlj=>?_)
    ·rw [hn.mem_erase_iff,hu j]
     constructor
     ·rintro ⟨h1,h2,h3⟩
      exact ⟨h2,by rw [getD_set_ne true (Ne.symm h1)];exact h3⟩
     ·rintro ⟨h2,h3⟩
      have hne:j≠i:=by
       rintro rfl
       have hin:j<listed.size:=by omega
       simp [Array.getD,hin] at h3
      exact ⟨hne,h2,by rwa [getD_set_ne true (Ne.symm hne)] at h3⟩
    ·by_cases hji:j=i
     ·subst hji
      simp only [Nat.zero_add,if_true]
      exact hv
     ·simp only [Nat.zero_add,if_neg hji]
      refine hst j _ W W'' hb2 (hA j hj ?_)
      rwa [getD_set_ne true (Ne.symm hji)] at hlj
   unfold wpOp
   simp only [ho]
   unfold wpList at hq
   split
   ·rename_i hw
    rw [if_pos hw] at hq
    rcases hq with hq|⟨_,a',w',he,_⟩
    ·exact .inl (wp_strict (fun _ _ _ h=>h.1) (fun a'' w'' h=>hnext a'' w'' (show _∧_ from h).2) hq)
    ·cases he
   ·rename_i hw
    rw [if_neg hw] at hq
    exact hnext _ _ (show _∧_ from hq).2
theorem wp_region_inv {P:Program} {id:Nat} {Q:Exit→Act→World→Prop} {a:Act} {w:World} {l:List Oper} (As:List (Value→World→Prop)) (hm:P.follows .mixedOrders=true) (hd:distB l=true) (ha:aftB l 0=true)
  (hst:∀i v W W',Below W.heap.size W W'→atI As i v W→atI As i v W') (hs:stepsI P l As a w l 0) (h:∀f W,Below w.heap.size w W→(∀i,i<l.length→atI As i (f i) W)→Q .normal (fillF l f 0 a) W):(Code.region id l.toArray true).wp P Q a w:=by
 refine wp_region_any hm ?_
 obtain ⟨f,hf⟩:=fill_self l 0 a
 have:=wpAny_inv (Q:=Q) As hd ha hst hs h l.length (Array.replicate l.length false) f w.drew (List.range l.length) (by simp) List.nodup_range (by simp) (fun i=>?_) (Below.refl _ _).drew (fun i hi hl=>?_)
 ·rw [hf] at this
  simpa using this
 ·rw [List.mem_range]
  constructor
  ·intro hi;exact ⟨hi,by simp [Array.getD,hi]⟩
  ·intro hi;exact hi.1
 ·simp [Array.getD,hi] at hl
def stepT (P:Program) (full:Array Oper) (ops:List Oper) (As:List (Value→World→Prop)) (a:Act) (w:World) (k:Nat) (o:Oper):Prop:=
 ∀f W,Below w.heap.size w W→depsI As f W (o.after.toList.filter (fun e=>Region.binds .any e))→wpList P full (DoneI (fillF ops f 0 a) o.dst (atI As k) W) [o] (fillF ops f 0 a) W
def stepsT (P:Program) (full:Array Oper) (ops:List Oper) (As:List (Value→World→Prop)) (a:Act) (w:World):List Oper→Nat→Prop
 |[],_=>True
 |o::r,k=>stepT P full ops As a w k o∧stepsT P full ops As a w r (k+1)
theorem stepsT_at {P:Program} {full:Array Oper} {ops:List Oper} {As:List (Value→World→Prop)} {a:Act} {w:World} :∀(l:List Oper) (k i:Nat) (o:Oper),stepsT P full ops As a w l k→l[i]?=some o→stepT P full ops As a w (k+i) o
 |[],_,_,_,_,h=>by simp at h
 |p::r,k,i,o,hs,h=>by
  cases i with
  |zero=>
   obtain rfl:p=o:=by simpa using h
   exact hs.1
  |succ i=>
   have:=stepsT_at r (k+1) i o hs.2 (by simpa using h)
   rwa [show k+1+i=k+(i+1) by omega] at this
def doneA (n g:Nat):Array Bool:=(List.replicate n true++List.replicate g false).toArray
theorem doneA_eq {n g:Nat} {listed:Array Bool} (hz:listed.size=n+g) (h1:∀i,i<n→listed.getD i true=true) (h2:∀i,n≤i→i<n+g→listed.getD i true=false):listed=doneA n g:=by
 refine Array.ext (by simp [doneA,hz]) (fun i hi hi'=>?_)
 have hg:listed.getD i true=listed[i]:=by simp [Array.getD,hi]
 rw [← hg]
 by_cases h:i<n
 ·rw [h1 i h]
  simp [doneA,h]
 ·rw [h2 i (by omega) (by omega)]
  simp [doneA,List.getElem_append,h]
theorem wpHead_inv {P:Program} {Q:Exit→Act→World→Prop} {a:Act} {w:World} {l:List Oper} (n:Nat) (As:List (Value→World→Prop)) (hd:distB (l.take n)=true) (ha:aftB l 0=true)
  (hS:Region.sinkB .any l.toArray n=true) (hC:Region.chainB .any l.toArray n=true) (hn:n<l.length) (hseq:Region.seqB .any l.toArray (l.length-n) n (doneA n (l.length-n))=true)
  (hst:∀i v W W',Below W.heap.size W W'→atI As i v W→atI As i v W') (hs:stepsT P l.toArray (l.take n) As a w (l.take n) 0) (h:∀f W,Below w.heap.size w W→(∀i,i<n→atI As i (f i) W)→wpList P l.toArray Q (l.drop n) (fillF (l.take n) f 0 a) W):
  ∀(fuel:Nat) (listed:Array Bool) (f:Nat→Value) (W:World) (u:List Nat),HeadInv .any l.toArray n listed→u.Nodup→u.length=fuel→(∀i,i∈u↔(i<n∧listed.getD i true=false))→Below w.heap.size w W→
   (∀i,i<n→listed.getD i true=true→atI As i (f i) W)→wpAny P .any l.toArray Q (fuel+(l.length-n)) listed (fillF (l.take n) f 0 a) W:=by
 intro fuel
 induction fuel with
 |zero=>
  intro listed f W u inv hnd hl hu hb hA
  obtain rfl:=List.eq_nil_of_length_eq_zero hl
  have hall:∀i,i<n→listed.getD i true=true:=fun i hi=>by
   cases hb':listed.getD i true with
   |true=>rfl
   |false=>exact absurd ((hu i).2 ⟨hi,hb'⟩) (by simp)
  have hz:listed.size=l.length:=by have:=inv.size;simpa using this
  obtain rfl:listed=doneA n (l.length-n):=doneA_eq (by omega) hall (fun i h1 h2=>inv.tail i h1 (by simp;omega))
  rw [Nat.zero_add]
  have hdl:(l.drop n).length=l.length-n:=by simp
  have:=wpAny_of_seq (md:= .any) (Q':=Q) (l.drop n) n _ (fillF (l.take n) f 0 a) W (fun j=>by simp [List.getElem?_drop]) (by rw [hdl];exact hseq) (h f W hb (fun i hi=>hA i hi (hall i hi)))
  rwa [hdl] at this
 |succ fuel ih=>
  intro listed f W u inv hnd hl hu hb hA
  have hz:listed.size=l.length:=by have:=inv.size;simpa using this
  have hex:∃i,i<n∧listed.getD i true=false:=by
   cases u with
   |nil=>simp at hl
   |cons x r=>exact ⟨x,(hu x).1 List.mem_cons_self⟩
  rw [show fuel+1+(l.length-n)=(fuel+(l.length-n))+1 by omega]
  refine ⟨fun hnil=>?_,fun i hi=>?_⟩
  ·exfalso
   have key:∀m,∀i,i<m→i<n→listed.getD i true=false→False:=by
    intro m
    induction m with
    |zero=>intro i hi;omega
    |succ m ihn=>
     intro i hi hil hun
     obtain ⟨o,ho⟩:∃o,l[i]?=some o:=⟨_,List.getElem?_eq_getElem (show i<l.length by omega)⟩
     have:i∈Region.ready .any l.toArray listed:=by
      refine mem_ready.2 ⟨hun,o,by simpa using ho,fun e he _=>?_⟩
      have hlt:=aft_at l 0 i o ha ho e he
      cases hb':listed.getD e.on false with
      |true=>rfl
      |false=>
       exfalso
       refine ihn e.on (by omega) (by omega) ?_
       have hin:e.on<listed.size:=by omega
       simp only [Array.getD,hin,dif_pos] at hb' ⊢
       exact hb'
     rw [hnil] at this
     cases this
   obtain ⟨i,h1,h2⟩:=hex
   exact key (i+1) i (by omega) h1 h2
  ·have hin:i<n:=by
    obtain ⟨i0,h1,h2⟩:=hex
    exact Nat.lt_of_not_le fun hge=>absurd hi (tail_waits hS hC (by simpa using hn) inv _ i0 rfl h1 h2 i hge)
   obtain ⟨hun,o,ho,hall⟩:=mem_ready.1 hi
   have ho':l[i]?=some o:=by simpa using ho
   have ho2:(l.take n)[i]?=some o:=by rw [List.getElem?_take,if_pos hin,ho']
   have hstep:=stepsT_at (l.take n) 0 i o hs ho2
   rw [Nat.zero_add] at hstep
   have hq:=hstep f W hb (by
    intro e he
    rw [List.mem_filter] at he
    have he1:e∈o.after:=by simpa using he.1
    have hlt:=aft_at l 0 i o ha ho' e he1
    have hll:=hall e he1 he.2
    refine hA e.on (by omega) ?_
    have hin:e.on<listed.size:=by omega
    simp only [Array.getD,hin,dif_pos] at hll ⊢
    exact hll)
   have hnext:∀(a'':Act) (W'':World),(∃v,a''=(fillF (l.take n) f 0 a).put o.dst v∧atI As i v W''∧Below W.heap.size W W'')→wpAny P .any l.toArray Q (fuel+(l.length-n)) (listed.setIfInBounds i true) a'' W'':=by
    rintro a'' W'' ⟨v,rfl,hv,hb2⟩
    rw [fill_put (l.take n) f 0 i a hd ho2]
    refine ih _ _ _ (u.erase i) (inv.set hi hin) (hnd.erase _) (by rw [List.length_erase_of_mem ((hu i).2 ⟨hin,hun⟩)];omega) (fun j=>?_) (below_via hb hb2 hb.size) (fun j hj hlj=>?_)
    ·rw [hnd.mem_erase_iff,hu j]
     constructor
     ·rintro ⟨h1,h2,h3⟩
      exact ⟨h2,by rw [getD_set_ne true (Ne.symm h1)];exact h3⟩
     ·rintro ⟨h2,h3⟩
      have hne:j≠i:=by
       rintro rfl
       have hin:j<listed.size:=by omega
       simp [Array.getD,hin] at h3
      exact ⟨hne,h2,by rwa [getD_set_ne true (Ne.symm hne)] at h3⟩
    ·by_cases hji:j=i
     ·subst hji
      simp only [Nat.zero_add,if_true]
      exact hv
     ·simp only [Nat.zero_add,if_neg hji]
      refine hst j _ W W'' hb2 (hA j hj ?_)
      rwa [getD_set_ne true (Ne.symm hji)] at hlj
   unfold wpOp
   simp only [ho]
   unfold wpList at hq
   split
   ·rename_i hw
    rw [if_pos hw] at hq
    rcases hq with hq|⟨_,a',w',he,_⟩
    ·exact .inl (wp_strict (fun _ _ _ h=>h.1) (fun a'' w'' h=>hnext a'' w'' (show _∧_ from h).2) hq)
    ·cases he
   ·rename_i hw
    rw [if_neg hw] at hq
    exact hnext _ _ (show _∧_ from hq).2
theorem wp_region_inv_tail {P:Program} {id:Nat} {Q:Exit→Act→World→Prop} {a:Act} {w:World} {l:List Oper} (n:Nat) (As:List (Value→World→Prop)) (hm:P.follows .mixedOrders=true) (hd:distB (l.take n)=true) (ha:aftB l 0=true)
  (hS:Region.sinkB .any l.toArray n=true) (hC:Region.chainB .any l.toArray n=true) (hn:n<l.length) (hseq:Region.seqB .any l.toArray (l.length-n) n (doneA n (l.length-n))=true)
  (hst:∀i v W W',Below W.heap.size W W'→atI As i v W→atI As i v W') (hs:stepsT P l.toArray (l.take n) As a w (l.take n) 0) (h:∀f W,Below w.heap.size w W→(∀i,i<n→atI As i (f i) W)→wpList P l.toArray Q (l.drop n) (fillF (l.take n) f 0 a) W):(Code.region id l.toArray true).wp P Q a w:=by
 refine wp_region_any hm ?_
 obtain ⟨f,hf⟩:=fill_self (l.take n) 0 a
 have inv0:HeadInv .any l.toArray n (Array.replicate l.toArray.size false):=
  ⟨by simp,fun j oj _ hl=>(by rw [getD_replicate_false] at hl;cases hl),fun t _ ht=>getD_in (by simpa using ht) (getD_replicate_false _ _)⟩
 have:=wpHead_inv (Q:=Q) n As hd ha hS hC hn hseq hst hs h n (Array.replicate l.toArray.size false) f w.drew (List.range n) inv0 List.nodup_range (by simp) (fun i=>?_) (Below.refl _ _).drew (fun i hi hl=>?_)
 ·rw [hf,show n+(l.length-n)=l.length by omega] at this
  simpa using this
 ·rw [List.mem_range]
  constructor
  ·intro hi;exact ⟨hi,by simp [Array.getD,show i<l.length by omega]⟩
  ·intro hi;exact hi.1
 ·simp [Array.getD,show i<l.length by omega] at hl
end Go.Proofs.YtnkjkgmohmcobaaGreatDoor
namespace Go.Proofs.YtnkjkgmohmcobaaGreatDoor
open Go.RowKit
def pad64 (bs:List UInt8):List UInt8:=bs++List.replicate (64-bs.length) 0
theorem pad64_length {bs:List UInt8} (h:bs.length≤64):(pad64 bs).length=64:=by simp [pad64];omega
theorem pad64_app {bs cs:List UInt8} (h:bs.length+cs.length≤64):(pad64 bs).take bs.length++cs++(pad64 bs).drop (bs.length+cs.length)=pad64 (bs++cs):=by
 unfold pad64
 rw [List.take_append_of_le_length (Nat.le_refl _),List.take_length,List.drop_append,List.drop_of_length_le (by omega),List.nil_append,List.drop_replicate,List.length_append]
 congr 2
 omega
def itemB (st:Int) (k:ByteArray) (d:CellD):List UInt8:=if st≠0∧rightI st k d=true then [UInt8.ofNat st.toNat,UInt8.ofNat k.size]++k.data.toList++cellB d else []
theorem step_copy_rowS {P:Program} {ops:Array Oper} {o:Oper} {a:Act} {w:World} {K:Act→World→Prop} {Q:Exit→Act→World→Prop} {E:Prop}
  (hg:o.guard=none) (d x:Operand) (dT sT:TypeId) (hop:o.op=Op.call {callee:=Callee.builtin Builtin.copy,args:=#[d,x],argTypes:=#[dT,sT]})
  (elem:TypeId) (hu:P.underlying dT=some (.slice elem)) (hs:(P.info? elem).map (·.size)=some 1) (g off dLen dCap:Nat) (hd:a.eval d= .slice (some ⟨g,off,none⟩) dLen dCap) (s:ByteArray) (hx:a.eval x= .string s)
  (cur:Array Value) (t:TypeId) (hk:Blk w g t cur) (hle:s.size≤dLen) (hfit:off+s.size≤cur.size)
  (hK:K (a.put o.dst (goInt s.size)) (w.setRow g (cur.toList.take off++Lib.byteCells s.data.toList++cur.toList.drop (off+s.size)).toArray)):
  if Region.wanted o (yielded ops a.tmps)=true then Oper.wp P o a w K Q else E:=by
 have hw:Region.wanted o (yielded ops a.tmps)=true:=by simp [Region.wanted,hg]
 rw [if_pos hw]
 have hrun:=Lib.run_copy_row_string (P:=P) w dT sT o.type elem g off dLen dCap s cur t hu hs hk hle hfit
 generalize (cur.toList.take off++Lib.byteCells s.data.toList++cur.toList.drop (off+s.size)).toArray=X at hrun hK
 unfold Oper.wp
 simp [execOp,hop,resolve,invoke,builtin,hd,hx,hrun,Result.andThen]
 exact hK
theorem wpList_copy_rowS {P:Program} {ops:Array Oper} {rest:List Oper} {o:Oper} {a:Act} {w:World} {Q:Exit→Act→World→Prop}
  (hg:o.guard=none) (d x:Operand) (dT sT:TypeId) (hop:o.op=Op.call {callee:=Callee.builtin Builtin.copy,args:=#[d,x],argTypes:=#[dT,sT]})
  (elem:TypeId) (hu:P.underlying dT=some (.slice elem)) (hs:(P.info? elem).map (·.size)=some 1) (g off dLen dCap:Nat) (hd:a.eval d= .slice (some ⟨g,off,none⟩) dLen dCap) (s:ByteArray) (hx:a.eval x= .string s)
  (cur:Array Value) (t:TypeId) (hk:Blk w g t cur) (hle:s.size≤dLen) (hfit:off+s.size≤cur.size)
  (hK:wpList P ops Q rest (a.put o.dst (goInt s.size)) (w.setRow g (cur.toList.take off++Lib.byteCells s.data.toList++cur.toList.drop (off+s.size)).toArray)):wpList P ops Q (o::rest) a w:=
 wpList_plain hg fun K hK'=>by
  have:=step_copy_rowS (ops:=ops) (Q:=Q) (K:=K) (E:=False) hg d x dT sT hop elem hu hs g off dLen dCap hd s hx cur t hk hle hfit (hK' _ _ hK)
  have hw:Region.wanted o (yielded ops a.tmps)=true:=by simp [Region.wanted,hg]
  rwa [if_pos hw] at this
theorem pad64_cells {bs cs:List UInt8} {n:Nat} (hn:bs.length=n) (h:bs.length+cs.length≤64):((((pad64 bs).map byteV).toArray.toList.take n++Lib.byteCells cs++((pad64 bs).map byteV).toArray.toList.drop (n+cs.length)).toArray)=((pad64 (bs++cs)).map byteV).toArray:=by
 subst hn
 rw [← pad64_app h,List.map_append,List.map_append,List.map_take,List.map_drop]
 rfl
theorem cellB_le34 {d:CellD} (h:rightC d=true):(cellB d).length≤34:=by
 unfold cellB
 rw [if_pos h]
 have:=rightC_kind h
 split
 ·simp [beB_length];omega
 ·simp [beB_length]
theorem zeros64:(#[Value.int IntKind.u8 0,Value.int IntKind.u8 0,Value.int IntKind.u8 0,Value.int IntKind.u8 0,Value.int IntKind.u8 0,Value.int IntKind.u8 0,Value.int IntKind.u8 0,Value.int IntKind.u8 0,Value.int IntKind.u8 0,Value.int IntKind.u8 0,Value.int IntKind.u8 0,Value.int IntKind.u8 0,Value.int IntKind.u8 0,Value.int IntKind.u8 0,Value.int IntKind.u8 0,Value.int IntKind.u8 0,Value.int IntKind.u8 0,Value.int IntKind.u8 0,Value.int IntKind.u8 0,Value.int IntKind.u8 0,Value.int IntKind.u8 0,Value.int IntKind.u8 0,Value.int IntKind.u8 0,Value.int IntKind.u8 0,Value.int IntKind.u8 0,Value.int IntKind.u8 0,Value.int IntKind.u8 0,Value.int IntKind.u8 0,Value.int IntKind.u8 0,Value.int IntKind.u8 0,Value.int IntKind.u8 0,Value.int IntKind.u8 0,Value.int IntKind.u8 0,Value.int IntKind.u8 0,Value.int IntKind.u8 0,Value.int IntKind.u8 0,Value.int IntKind.u8 0,Value.int IntKind.u8 0,Value.int IntKind.u8 0,Value.int IntKind.u8 0,Value.int IntKind.u8 0,Value.int IntKind.u8 0,Value.int IntKind.u8 0,Value.int IntKind.u8 0,Value.int IntKind.u8 0,Value.int IntKind.u8 0,Value.int IntKind.u8 0,Value.int IntKind.u8 0,Value.int IntKind.u8 0,Value.int IntKind.u8 0,Value.int IntKind.u8 0,Value.int IntKind.u8 0,Value.int IntKind.u8 0,Value.int IntKind.u8 0,Value.int IntKind.u8 0,Value.int IntKind.u8 0,Value.int IntKind.u8 0,Value.int IntKind.u8 0,Value.int IntKind.u8 0,Value.int IntKind.u8 0,Value.int IntKind.u8 0,Value.int IntKind.u8 0,Value.int IntKind.u8 0,Value.int IntKind.u8 0]:Array Value)=((pad64 []).map byteV).toArray:=rfl
theorem row64_info (bs:List UInt8) (h:bs.length≤64):(Tryz.prog.info? 254).map (·.size)=some ((pad64 bs).map byteV).toArray.size:=by
 rw [List.size_toArray,List.length_map,pad64_length h]
 kernel_rfl
theorem row_one (bs:List UInt8):(bs.map byteV).toArray.all (·.oneCell')=true:=Array.all_eq_true_iff_forall_mem.2 (fun v hv=>by
 have hv:v∈bs.map byteV:=by simpa using hv
 obtain ⟨x,_,rfl⟩:=List.mem_map.1 hv
 rfl)
theorem byteV_ofNat {m:Nat} (h:m<256):Value.int .u8 (m:Int)=byteV (UInt8.ofNat m):=by
 unfold byteV
 rw [UInt8.toNat_ofNat',Nat.mod_eq_of_lt (by omega)]
theorem head64 (st:Int) (m:Nat) (hst:st=1∨st=2) (hm:m<256):((((pad64 []).map byteV).toArray.setIfInBounds 0 (.int .u8 st)).setIfInBounds 1 (.int .u8 m))=((pad64 [UInt8.ofNat st.toNat,UInt8.ofNat m]).map byteV).toArray:=by
 rw [← zeros64,byteV_ofNat hm]
 rcases hst with rfl|rfl<;>rfl
theorem slotPut_any (st:Int) (k:ByteArray) (d:CellD) (A:Option Addr) (n c:Nat) (B:Nat) (w:World) (hk:k.size≤1000000) (hB:B≤w.heap.size) (hn:n=d.data.length) (ha:BytesAt w B (.slice A n c) d.data):
  Calls Tryz.prog 232 #[itemV st k d (.slice A n c)] w fun e w'=>e= .returned (.agg ((pad64 (itemB st k d)).map byteV).toArray)∧Below w.heap.size w w':=by
 have HC:=hide (fun W (hb:Below w.heap.size w W)=>slotCheck_any st k d (.slice A n c) B W hk (Nat.le_trans hB hb.size) (ha.below hb hB))
 have HN:=hide hn
 have HA:=hide ha
 clear hn ha
 unfold itemV at*
 go_enter Tryz.func232,Tryz.ntmps232
 go_upto_region 2 with (fail)
 refine gen3R (R:=fun W=>Code.wp _ _ _ _ W) (fun W1 kI kR kB hb1 hz1=>?_)
 rw [zeros64] at kR kB
 have HKI:=hide kI
 have HKR:=hide kR
 have HKB:=hide kB
 have q0:=kI.cell 0
 have q1:=kI.cell 1
 have q2:=kI.cell 2
 have q3:=kI.cell 3
 have q4:=kI.cell 4
 have q5:=kI.cell 5
 have q6:=kI.cell 6
 clear kI kR kB
 cases h0:(st==0)
 ·have hst0:st≠0:=by simpa using h0
  cases hr:rightI st k d
  ·have HE:=hide (show itemE st k d=1 by unfold itemE;rw [hr];rfl)
   have HIB:=hide (show itemB st k d=[] by unfold itemB;rw [hr,if_neg (by simp)])
   go_wp2_with fail
   refine (HC.out _ hb1).mono ?_
   rintro e W2 ⟨rfl,hb2⟩
   have HKB:=hide (Blk.via hb2 HKB.out)
   have HKR:=hide (Blk.via hb2 HKR.out)
   have hbw2:=below_via hb1 hb2 hb1.size
   rw [HE.out]
   go_upto_region 3 with (fail)
   have HI:=hide (row64_info [] (by simp))
   have H1:=hide (row_one (pad64 []))
   have HO:=hide (show ((pad64 []).map byteV).toArray.size=((pad64 []).map byteV).toArray.size by (simp only [List.size_toArray,List.length_map])<;>exact (pad64_length (bs:=[]) (by simp)).trans (pad64_length (by simp)).symm)
   generalize hX:((pad64 []).map byteV).toArray=X at*
   have HX:=hide hX
   clear hX
   have hK2:Blk (W2.setRow (w.heap.size+1) X) (w.heap.size+1) 254 X:=setRow_heap W2 (w.heap.size+1) _ _ _ _ HKR.out
   have hb2:Below w.heap.size w (W2.setRow (w.heap.size+1) X):=(touch_setRow W2 (w.heap.size+1) _).below hbw2 (by omega)
   have HK2:=hide hK2
   clear hK2
   go_wp2_with (first
    |(refine wpList_load_row rfl 254 (.tmp 3) rfl (w.heap.size+1+1) rfl 254 X (0,0) _ HKB.out Tryz.underlying254 rfl HI.out ?_)
    |(refine wpList_store_row rfl 254 (.tmp 2) (.tmp 12) rfl (w.heap.size+1) X rfl rfl 254 _ HKR.out HI.out HO.out H1.out ?_))
   exact bodyPost_ret (results_cell_row Tryz.results232 _ _ (w.heap.size+1) 254 X (0,0) _ rfl HK2.out Tryz.underlying254 rfl HI.out) rfl ⟨by rw [HIB.out,HX.out],hb2⟩
  ·have HE:=hide (show itemE st k d=0 by unfold itemE;rw [hr];rfl)
   have hor:st=1∨st=2:=by
    unfold rightI at hr
    rw [if_neg hst0] at hr
    simp only [Bool.and_eq_true,decide_eq_true_eq] at hr
    exact hr.1
   have hgk:goodKey k=true∧rightC d=true:=by
    unfold rightI at hr
    rw [if_neg hst0] at hr
    simp only [Bool.and_eq_true,decide_eq_true_eq] at hr
    exact hr.2
   have hk16:k.size≤16:=by
    have:=hgk.1
    unfold goodKey at this
    simp only [Bool.and_eq_true,decide_eq_true_eq] at this
    exact this.2.2
   have hkl:k.data.toList.length=k.size:=by rw [Array.length_toList];rfl
   have HIB:=hide (show itemB st k d=[UInt8.ofNat st.toNat,UInt8.ofNat k.size]++k.data.toList++cellB d by unfold itemB;rw [hr,if_pos ⟨hst0,rfl⟩])
   have hc34:=cellB_le34 hgk.2
   have hpos:0<(cellB d).length:=by
    unfold cellB
    rw [if_pos hgk.2]
    split<;>simp [beB_length]<;>omega
   go_wp2_with fail
   refine (HC.out _ hb1).mono ?_
   rintro e W2 ⟨rfl,hb2⟩
   have hkB:=Blk.via hb2 HKB.out
   have hkI:=Blk.via hb2 HKI.out
   have HKR:=hide (Blk.via hb2 HKR.out)
   have hbw2:=below_via hb1 hb2 hb1.size
   rw [HE.out]
   clear q0 q1 q2 q3 q4 q5 q6
   have q0:=hkI.cell 0
   have q1:=hkI.cell 1
   have c0:W2.cell? ⟨w.heap.size+1+1,0,none⟩=some (.int .u8 0):=hkB.cell 0
   have c1:W2.cell? ⟨w.heap.size+1+1,1,none⟩=some (.int .u8 0):=hkB.cell 1
   have f0:=hkB.frozen 0
   have f1:=hkB.frozen 1
   have HKB:=hide hkB
   have HKI:=hide hkI
   have l0:=hkB.lt
   clear hkB hkI hr hgk h0
   have s1:(st==0)=false:=by simpa using hst0
   have HKL:=hide hkl
   clear hkl
   go_upto_region 6 with (fail)
   clear q0 q1 c0 c1 f0 f1
   generalize hW3:(W2.setCell ⟨w.heap.size+1+1,0,none⟩ (Value.int IntKind.u8 st)).setCell ⟨w.heap.size+1+1,1,none⟩ (Value.int IntKind.u8 (k.size:Nat))=W3
   have kB3:Blk W3 (w.heap.size+1+1) 254 ((pad64 [UInt8.ofNat st.toNat,UInt8.ofNat k.size]).map byteV).toArray:=by
    rw [← hW3, ← head64 st k.size hor (by omega)]
    exact (HKB.out.set_ 0 _).set_ 1 _
   have kI3:Blk W3 w.heap.size 95 _:=hW3▸(HKI.out.far (p:=⟨w.heap.size+1+1,0,none⟩) (by simp;omega) _).far (p:=⟨w.heap.size+1+1,1,none⟩) (by simp;omega) _
   have kR3:Blk W3 (w.heap.size+1) 254 _:=hW3▸(HKR.out.far (p:=⟨w.heap.size+1+1,0,none⟩) (by simp) _).far (p:=⟨w.heap.size+1+1,1,none⟩) (by simp) _
   have hb3:Below w.heap.size w W3:=hW3▸(hbw2.setCell (p:=⟨w.heap.size+1+1,0,none⟩) (by simp;omega) _).setCell (p:=⟨w.heap.size+1+1,1,none⟩) (by simp;omega) _
   clear hW3 HKB HKI HKR
   have HKB:=hide kB3
   have HKI:=hide kI3
   have HKR:=hide kR3
   clear kB3 kI3 kR3
   refine wp_region_inv_tail 3 [fun v _=>v= .slice (some ⟨w.heap.size+1+1,2,none⟩) 62 62,fun v _=>v= .pointer (some ⟨w.heap.size,1,none⟩),fun v _=>v= .string k] (by kernel_rfl) (by kernel_rfl) (by kernel_rfl) (by kernel_rfl) (by kernel_rfl) (by simp) (by kernel_rfl) ?st ?steps ?fin
   case st=>
    intro i v W W' _ h
    match i with
    |0=>exact h
    |1=>exact h
    |2=>exact h
    |(i+3)=>exact h
   case steps=>
    simp only [stepsT,List.take_succ_cons,List.take_zero]
    refine ⟨?_,?_,?_,trivial⟩
    ·intro f W hbW hdp
     simp only [fillF,Act.put,List.setIfInBounds_toArray,List.set_cons_succ,List.set_cons_zero]
     go_wp2
     exact ⟨rfl,_,rfl,rfl,Below.refl _ _⟩
    ·intro f W hbW hdp
     simp only [fillF,Act.put,List.setIfInBounds_toArray,List.set_cons_succ,List.set_cons_zero]
     go_wp2
     exact ⟨rfl,_,rfl,rfl,Below.refl _ _⟩
    ·intro f W hbW hdp
     have q1:=(Blk.via hbW HKI.out).cell 1
     have e1:f 1= .pointer (some ⟨w.heap.size,1,none⟩):=hdp ⟨1,.data⟩ (mfl (by simp) rfl)
     simp only [fillF,Act.put,List.setIfInBounds_toArray,List.set_cons_succ,List.set_cons_zero,e1]
     go_wp2
     exact ⟨rfl,_,rfl,rfl,Below.refl _ _⟩
   case fin=>
    intro f W hbW hA
    have e0:f 0= .slice (some ⟨w.heap.size+1+1,2,none⟩) 62 62:=hA 0 (by omega)
    have e2:f 2= .string k:=hA 2 (by omega)
    simp only [List.drop_succ_cons,List.drop_zero,fillF,List.take_succ_cons,List.take_zero,Act.put,List.setIfInBounds_toArray,List.set_cons_succ,List.set_cons_zero,e0,e2]
    have kb:=Blk.via hbW HKB.out
    refine wpList_copy_rowS rfl _ _ _ _ rfl 5 Tryz.underlying24 size_u8 (w.heap.size+1+1) 2 62 62 rfl k rfl _ _ kb (by omega) (by simp only [List.size_toArray,List.length_map];rw [pad64_length (by simp)];omega) ?_
    have HC2:=hide (pad64_cells (bs:=[UInt8.ofNat st.toNat,UInt8.ofNat k.size]) (cs:=k.data.toList) (n:=2) rfl (by rw [HKL.out];simp;omega))
    rw [HKL.out] at HC2
    rw [HC2.out]
    have kB4:Blk (W.setRow (w.heap.size+1+1) ((pad64 ([UInt8.ofNat st.toNat,UInt8.ofNat k.size]++k.data.toList)).map byteV).toArray) (w.heap.size+1+1) 254 ((pad64 ([UInt8.ofNat st.toNat,UInt8.ofNat k.size]++k.data.toList)).map byteV).toArray:=setRow_heap W (w.heap.size+1+1) _ _ _ _ kb
    have tT:=touch_setRow W (w.heap.size+1+1) ((pad64 ([UInt8.ofNat st.toNat,UInt8.ofNat k.size]++k.data.toList)).map byteV).toArray
    generalize W.setRow (w.heap.size+1+1) ((pad64 ([UInt8.ofNat st.toNat,UInt8.ofNat k.size]++k.data.toList)).map byteV).toArray=W4 at*
    have kI4:=tT.blk (Blk.via hbW HKI.out) (by omega)
    have kR4:=tT.blk (Blk.via hbW HKR.out) (by omega)
    have hb4:Below w.heap.size w W4:=tT.below (below_via hb3 hbW hb3.size) (by omega)
    have hz4:=hb4.size
    clear tT kb hA e0 e2 HKB HKI HKR
    have HKB:=hide kB4
    have HKI:=hide kI4
    have HKR:=hide kR4
    clear kB4 kI4 kR4 HC2
    generalize f (0+1)=v23
    clear hbW hb3
    go_frame
    go_upto_region 7 with (fail)
    have HP:=hide (fun W (hb:Below w.heap.size w W)=>cellPut_any d A n c B W (Nat.le_trans hB hb.size) HN.out ((by obtain ⟨A',n',c',e,_,_,_,_,hr⟩:=HA.out.below hb hB;injection e with e1 e2 e3;subst e1 e2;exact hr)))
    refine wp_region_inv_tail 8 [fun v _=>v= .pointer (some ⟨w.heap.size,1,none⟩),fun v _=>v= .string k,fun v _=>v= .int .i64 (k.size:Nat),fun v _=>v= .int .i64 (2+(k.size:Nat)),
     fun v _=>∃m:Nat,m+(2+k.size)=64∧v= .slice (some ⟨w.heap.size+1+1,2+k.size,none⟩) m m,fun v _=>v= .pointer (some ⟨w.heap.size,2,none⟩),fun v _=>v= .agg #[.int .i64 d.kind,.slice A n c,.int .i64 d.lo,.int .i64 d.hi,.int .i64 d.val],
     fun v W=>∃A' c',v= .slice A' (cellB d).length c'∧Reads W W.heap.size 1 A' (cellB d).length ((cellB d).map byteV)] (by kernel_rfl) (by kernel_rfl) (by kernel_rfl) (by kernel_rfl) (by kernel_rfl) (by simp) (by kernel_rfl) ?st2 ?steps2 ?fin2
    case st2=>
     intro i v W W' hb h
     match i with
     |0=>exact h
     |1=>exact h
     |2=>exact h
     |3=>exact h
     |4=>exact h
     |5=>exact h
     |6=>exact h
     |7=>
      obtain ⟨A',c',e,hr⟩:=h
      exact ⟨A',c',e,(hr.below hb (Nat.le_refl _)).more hb.size⟩
     |(i+8)=>exact h
    case steps2=>
     simp only [stepsT,List.take_succ_cons,List.take_zero]
     refine ⟨?_,?_,?_,?_,?_,?_,?_,?_,trivial⟩
     ·intro f W hbW hdp
      simp only [fillF,Act.put,List.setIfInBounds_toArray,List.set_cons_succ,List.set_cons_zero]
      go_wp2
      exact ⟨rfl,_,rfl,rfl,Below.refl _ _⟩
     ·intro f W hbW hdp
      have q1:=(Blk.via hbW HKI.out).cell 1
      have e1:f 0= .pointer (some ⟨w.heap.size,1,none⟩):=hdp ⟨0,.data⟩ (mfl (by simp) rfl)
      simp only [fillF,Act.put,List.setIfInBounds_toArray,List.set_cons_succ,List.set_cons_zero,e1]
      go_wp2
      exact ⟨rfl,_,rfl,rfl,Below.refl _ _⟩
     ·intro f W hbW hdp
      have e1:f 1= .string k:=hdp ⟨1,.data⟩ (mfl (by simp) rfl)
      simp only [fS,Nat.reduceAdd,e1]
      go_wp2
      exact ⟨rfl,_,rfl,rfl,Below.refl _ _⟩
     ·intro f W hbW hdp
      have e1:f 2= .int .i64 (k.size:Nat):=hdp ⟨2,.data⟩ (mfl (by simp) rfl)
      simp only [fS,Nat.reduceAdd,e1]
      go_wp2
      exact ⟨rfl,_,rfl,rfl,Below.refl _ _⟩
     ·intro f W hbW hdp
      obtain ⟨j,hj⟩:∃j:Nat,j=2+k.size:=⟨_,rfl⟩
      have e1:f 3= .int .i64 (j:Nat):=by
       have h:f 3= .int .i64 (2+(k.size:Nat)):=hdp ⟨3,.data⟩ (mfl (by simp) rfl)
       rw [h,hj,Int.natCast_add]
       rfl
      have HJ:=hide hj
      have b1:(0:Int)≤j:=by omega
      have b2:(j:Int)≤64:=by omega
      have b3:j≤64:=by omega
      have b4:¬64=j:=by omega
      clear hj
      simp only [fS,Nat.reduceAdd,e1]
      go_wp2
      have hj:=HJ.out
      subst hj
      exact ⟨rfl,_,rfl,⟨64-(2+k.size),by omega,rfl⟩,Below.refl _ _⟩
     ·intro f W hbW hdp
      simp only [fillF,Act.put,List.setIfInBounds_toArray,List.set_cons_succ,List.set_cons_zero]
      go_wp2
      exact ⟨rfl,_,rfl,rfl,Below.refl _ _⟩
     ·intro f W hbW hdp
      have kI5:=Blk.via hbW HKI.out
      have q2:=kI5.cell 2
      have q3:=kI5.cell 3
      have q4:=kI5.cell 4
      have q5:=kI5.cell 5
      have q6:=kI5.cell 6
      have e1:f 5= .pointer (some ⟨w.heap.size,2,none⟩):=hdp ⟨5,.data⟩ (mfl (by simp) rfl)
      simp only [fS,Nat.reduceAdd,e1]
      go_wp2
      exact ⟨rfl,_,rfl,rfl,Below.refl _ _⟩
     ·intro f W hbW hdp
      have e1:f 6= .agg #[.int .i64 d.kind,.slice A n c,.int .i64 d.lo,.int .i64 d.hi,.int .i64 d.val]:=hdp ⟨6,.data⟩ (mfl (by simp) rfl)
      simp only [fS,Nat.reduceAdd,e1]
      go_wp2_with fail
      refine (HP.out _ (below_via hb4 hbW hb4.size)).mono ?_
      rintro e W6 ⟨A6,c6,rfl,_,_,hr6,hb6⟩
      have HR6:=hide hr6
      clear hr6
      go_wp2_with fail
      exact ⟨rfl,_,rfl,⟨A6,c6,rfl,HR6.out⟩,hb6⟩
    case fin2=>
     intro f W hbW hA
     obtain ⟨m,hm,e4⟩:∃m:Nat,m+(2+k.size)=64∧f 4= .slice (some ⟨w.heap.size+1+1,2+k.size,none⟩) m m:=hA 4 (by omega)
     obtain ⟨A',c',e7,hr7⟩:∃A' c',f 7= .slice A' (cellB d).length c'∧Reads W W.heap.size 1 A' (cellB d).length ((cellB d).map byteV):=hA 7 (by omega)
     obtain ⟨ad,rfl,_,hrd⟩:=hr7.2 hpos
     simp only [List.drop_succ_cons,List.drop_zero,fillF,List.take_succ_cons,List.take_zero,Act.put,List.setIfInBounds_toArray,List.set_cons_succ,List.set_cons_zero,Nat.reduceAdd,e4,e7]
     have kb:=Blk.via hbW HKB.out
     have hmin:Nat.min (cellB d).length m=(cellB d).length:=Nat.min_eq_left (by omega)
     refine wpList_copy_blk rfl _ _ _ _ rfl 5 1 Tryz.underlying24 size_u8 (w.heap.size+1+1) (2+k.size) 254 _ ((cellB d).map byteV) m m (cellB d).length c' ad rfl rfl kb (by rw [List.length_map,hmin,Nat.mul_one]) hrd (by rw [List.length_map,List.length_map,pad64_length (by simp [HKL.out];omega)];omega) (bytes_one _) ?_
     intro v' W5 hk5 ht5
     have hsp:(spl ((pad64 ([UInt8.ofNat st.toNat,UInt8.ofNat k.size]++k.data.toList)).map byteV) (2+k.size) ((cellB d).map byteV)).toArray=((pad64 ([UInt8.ofNat st.toNat,UInt8.ofNat k.size]++k.data.toList++cellB d)).map byteV).toArray:=by
      rw [← pad64_cells (n:=2+k.size) (by simp [HKL.out];omega) (by simp [HKL.out];omega)]
      unfold spl
      rw [List.length_map,List.append_assoc]
      rfl
     rw [hsp] at hk5
     have HKB:=hide hk5
     have HKR:=hide (ht5.blk (Blk.via hbW HKR.out) (by omega))
     have hb5:Below w.heap.size w W5:=ht5.below (below_via hb4 hbW hb4.size) (by omega)
     generalize f 0=u0
     generalize f 1=u1
     generalize f 2=u2
     generalize f 3=u3
     generalize f 5=u5
     generalize f 6=u6
     clear hk5 ht5 kb hA e4 e7 hrd hr7 hbW hb4 hsp
     go_frame
     have HI:=hide (row64_info ([UInt8.ofNat st.toNat,UInt8.ofNat k.size]++k.data.toList++cellB d) (by simp [HKL.out];omega))
     have H1:=hide (row_one (pad64 ([UInt8.ofNat st.toNat,UInt8.ofNat k.size]++k.data.toList++cellB d)))
     have HO:=hide (show ((pad64 []).map byteV).toArray.size=((pad64 ([UInt8.ofNat st.toNat,UInt8.ofNat k.size]++k.data.toList++cellB d)).map byteV).toArray.size by (simp only [List.size_toArray,List.length_map])<;>exact (pad64_length (bs:=[]) (by simp)).trans (pad64_length (by simp [HKL.out];omega)).symm)
     generalize hX:((pad64 ([UInt8.ofNat st.toNat,UInt8.ofNat k.size]++k.data.toList++cellB d)).map byteV).toArray=X at*
     have HX:=hide hX
     clear hX
     have hK2:Blk (W5.setRow (w.heap.size+1) X) (w.heap.size+1) 254 X:=setRow_heap W5 (w.heap.size+1) _ _ _ _ HKR.out
     have hb2:Below w.heap.size w (W5.setRow (w.heap.size+1) X):=(touch_setRow W5 (w.heap.size+1) _).below hb5 (by omega)
     have HK2:=hide hK2
     clear hK2
     go_wp2_with (first
      |(refine wpList_load_row rfl 254 (.tmp 3) rfl (w.heap.size+1+1) rfl 254 X (0,0) _ HKB.out Tryz.underlying254 rfl HI.out ?_)
      |(refine wpList_store_row rfl 254 (.tmp 2) (.tmp 35) rfl (w.heap.size+1) X rfl rfl 254 _ HKR.out HI.out HO.out H1.out ?_))
     exact bodyPost_ret (results_cell_row Tryz.results232 _ _ (w.heap.size+1) 254 X (0,0) _ rfl HK2.out Tryz.underlying254 rfl HI.out) rfl ⟨by rw [HIB.out,HX.out],hb2⟩
 ·have HIB:=hide (show itemB st k d=[] by unfold itemB;rw [if_neg (fun h=>h.1 (by simpa using h0))])
  go_upto_region 3 with (fail)
  have HI:=hide (row64_info [] (by simp))
  have H1:=hide (row_one (pad64 []))
  have HO:=hide (show ((pad64 []).map byteV).toArray.size=((pad64 []).map byteV).toArray.size by (simp only [List.size_toArray,List.length_map])<;>exact (pad64_length (bs:=[]) (by simp)).trans (pad64_length (by simp)).symm)
  generalize hX:((pad64 []).map byteV).toArray=X at*
  have HX:=hide hX
  clear hX
  have hK2:Blk (W1.setRow (w.heap.size+1) X) (w.heap.size+1) 254 X:=setRow_heap W1 (w.heap.size+1) _ _ _ _ HKR.out
  have hb2:Below w.heap.size w (W1.setRow (w.heap.size+1) X):=(touch_setRow W1 (w.heap.size+1) _).below hb1 (by omega)
  have HK2:=hide hK2
  clear hK2
  go_wp2_with (first
   |(refine wpList_load_row rfl 254 (.tmp 3) rfl (w.heap.size+1+1) rfl 254 X (0,0) _ HKB.out Tryz.underlying254 rfl HI.out ?_)
   |(refine wpList_store_row rfl 254 (.tmp 2) (.tmp 12) rfl (w.heap.size+1) X rfl rfl 254 _ HKR.out HI.out HO.out H1.out ?_))
  exact bodyPost_ret (results_cell_row Tryz.results232 _ _ (w.heap.size+1) 254 X (0,0) _ rfl HK2.out Tryz.underlying254 rfl HI.out) rfl ⟨by rw [HIB.out,HX.out],hb2⟩
end Go.Proofs.YtnkjkgmohmcobaaGreatDoor
namespace Go.Proofs.YtnkjkgmohmcobaaGreatDoor
open Go.RowKit
def OwnRow (w:World) (t:TypeId) (size n:Nat) (xs:List Value) (e:Ending) (w':World):Prop:=∃A2 c2,e= .returned (.slice A2 n c2)∧w'.ownsRow w.heap.size t size (.slice A2 n c2) n xs∧Below w.heap.size w w'
theorem info_intR:(Tryz.prog.info? 3).map (fun i=>(i.zero,i.size,i.bytes))=some (some (.int .i64 0),1,8):=by kernel_rfl
theorem cloneB_any (A:Option Addr) (n c:Nat) (xs:List Value) (B:Nat) (w:World) (hB:B≤w.heap.size) (hn:n≤10000000) (h:Reads w B 1 A n xs) (hc:A=none→c=0) (h1:∀u∈xs,u.oneCell'=true):
  Calls Tryz.prog 133 #[.slice A n c] w (OwnRow w 5 1 n xs):=by
 obtain ⟨i0,hi,hz0,hz1,hz2⟩:=info_parts info_u8R
 cases A with
 |none=>
  obtain rfl:c=0:=hc rfl
  obtain rfl:n=0:=by
   rcases Nat.eq_zero_or_pos n with h0|h0
   ·exact h0
   ·obtain ⟨ad,ha,_⟩:=h.2 h0
    cases ha
  have HE:=hide (show xs=[] from List.eq_nil_of_length_eq_zero (by rw [h.1,Nat.zero_mul]))
  clear h hc hi hz0 hz1 hz2 h1
  have hq:=fun w:World=>Lib.run_eql_slice_nil (P:=Tryz.prog) w 24 5 none 0 0 0 0 Tryz.underlying24
  go_enter Tryz.func133,Tryz.ntmps133
  go_wp2
  go_ret
  refine ⟨none,0,rfl,?_,Below.refl _ _⟩
  rw [HE.out]
  exact World.ownsRow_nil _ _ _ _
 |some ad=>
  have HR:=hide h
  have HO:=hide h1
  clear h hc h1
  have hq:=fun w:World=>Lib.run_eql_slice_nil (P:=Tryz.prog) w 24 5 (some ad) n c 0 0 Tryz.underlying24
  go_enter Tryz.func133,Tryz.ntmps133
  go_wp2_with (at_builtin;refine heldG ?_)
  refine unheldG ?_
  at_builtin
  refine wpList_append_any _ rfl _ _ _ rfl w.heap.size 5 i0 _ 1 1 Tryz.underlying24 hi hz0 hz1 hz2 rfl (by omega) _ 0 [] rfl (World.ownsRow_made w #[] 0 (Nat.le_refl _) (Nat.zero_le _) rfl) B (some ad) n c xs rfl (HR.out.alloc hB _) HO.out (by unfold maxLen;omega) (by omega) (by simp) ?_
  intro v' w1 hown hg _
  have hb1:Below w.heap.size w w1:=((Below.refl _ _).alloc (Nat.le_refl _) _).grown hg (by simp) (fun k hk=>by cases hk;exact Nat.le_refl _)
  simp only [Nat.zero_add,List.nil_append] at hown
  obtain ⟨A2,c2,rfl,_⟩:=own_slice hown
  have HO:=hide hown
  clear hown hg
  go_wp2
  go_ret
  exact ⟨A2,c2,rfl,HO.out,hb1⟩
theorem cloneI_any (A:Option Addr) (n c:Nat) (xs:List Value) (B:Nat) (w:World) (hB:B≤w.heap.size) (hn:n≤10000000) (h:Reads w B 1 A n xs) (hc:A=none→c=0) (h1:∀u∈xs,u.oneCell'=true):
  Calls Tryz.prog 121 #[.slice A n c] w (OwnRow w 3 1 n xs):=by
 obtain ⟨i0,hi,hz0,hz1,hz2⟩:=info_parts info_intR
 cases A with
 |none=>
  obtain rfl:c=0:=hc rfl
  obtain rfl:n=0:=by
   rcases Nat.eq_zero_or_pos n with h0|h0
   ·exact h0
   ·obtain ⟨ad,ha,_⟩:=h.2 h0
    cases ha
  have HE:=hide (show xs=[] from List.eq_nil_of_length_eq_zero (by rw [h.1,Nat.zero_mul]))
  clear h hc hi hz0 hz1 hz2 h1
  have hq:=fun w:World=>Lib.run_eql_slice_nil (P:=Tryz.prog) w 163 3 none 0 0 0 0 Tryz.underlying163
  go_enter Tryz.func121,Tryz.ntmps121
  go_wp2
  go_ret
  refine ⟨none,0,rfl,?_,Below.refl _ _⟩
  rw [HE.out]
  exact World.ownsRow_nil _ _ _ _
 |some ad=>
  have HR:=hide h
  have HO:=hide h1
  clear h hc h1
  have hq:=fun w:World=>Lib.run_eql_slice_nil (P:=Tryz.prog) w 163 3 (some ad) n c 0 0 Tryz.underlying163
  go_enter Tryz.func121,Tryz.ntmps121
  go_wp2_with (at_builtin;refine heldG ?_)
  refine unheldG ?_
  at_builtin
  refine wpList_append_any _ rfl _ _ _ rfl w.heap.size 3 i0 _ 1 8 Tryz.underlying163 hi hz0 hz1 hz2 rfl (by omega) _ 0 [] rfl (World.ownsRow_made w #[] 0 (Nat.le_refl _) (Nat.zero_le _) rfl) B (some ad) n c xs rfl (HR.out.alloc hB _) HO.out (by unfold maxLen;omega) (by omega) (by simp) ?_
  intro v' w1 hown hg _
  have hb1:Below w.heap.size w w1:=((Below.refl _ _).alloc (Nat.le_refl _) _).grown hg (by simp) (fun k hk=>by cases hk;exact Nat.le_refl _)
  simp only [Nat.zero_add,List.nil_append] at hown
  obtain ⟨A2,c2,rfl,_⟩:=own_slice hown
  have HO:=hide hown
  clear hown hg
  go_wp2
  go_ret
  exact ⟨A2,c2,rfl,HO.out,hb1⟩
end Go.Proofs.YtnkjkgmohmcobaaGreatDoor
namespace Go.Proofs.YtnkjkgmohmcobaaGreatDoor
open Go.RowKit
theorem own_via {w w':World} {base n size:Nat} {t:TypeId} {v:Value} {xs:List Value} (h:w.ownsRow base t size v n xs) (hb:Below w.heap.size w w'):w'.ownsRow base t size v n xs:=row_keep h fun q hq=>hb.block q (World.ownsRow.lt h q hq).2
end Go.Proofs.YtnkjkgmohmcobaaGreatDoor
namespace Go.Proofs.YtnkjkgmohmcobaaGreatDoor
open Go.RowKit
section
variable {W:World} {base n size g c:Nat} {t:TypeId} {xs:List Value}
theorem own_blk (h:W.ownsRow base t size (.slice (some ⟨g,0,none⟩) n c) n xs):∃cur:Array Value,Blk W g t cur∧base≤g∧n≤c∧c≤maxLen∧cur.size=c*size∧cur.toList.take (n*size)=xs:=by
 obtain ⟨h1,⟨h2,_⟩|⟨g',cap,cur,e,hg,hh,hnc,hcm,hs,ht⟩⟩:=h
 ·cases h2
 ·injection e with e1 e2 e3
  injection e1 with e1
  injection e1 with e1
  subst e1 e3
  exact ⟨cur,hh,hg,hnc,hcm,hs,ht⟩
theorem own_cell (h:W.ownsRow base t size (.slice (some ⟨g,0,none⟩) n c) n xs) (i:Nat) (hi:i<n*size):W.cell? ⟨g,i,none⟩=xs[i]?∧W.frozen? ⟨g,i,none⟩=false∧g<W.heap.size:=by
 obtain ⟨cur,k,hg,hnc,hcm,hs,ht⟩:=own_blk h
 refine ⟨?_,k.frozen i,k.lt⟩
 rw [k.cell i, ← ht,List.getElem?_take,if_pos hi]
 simp
end
theorem own_far {W:World} {base n size:Nat} {t:TypeId} {v:Value} {xs:List Value} (h:W.ownsRow base t size v n xs) {p:Addr} (hp:∀q,v.ownBlock=some q→q≠p.block) (u:Value):(W.setCell p u).ownsRow base t size v n xs:=row_keep h fun q hq=>Below.heap_setCell W p u q (hp q hq)
end Go.Proofs.YtnkjkgmohmcobaaGreatDoor
namespace Go.Proofs.YtnkjkgmohmcobaaGreatDoor
open Go.RowKit
theorem own_low' {W:World} {b b' n s:Nat} {t:TypeId} {v:Value} {xs:List Value} (h:W.ownsRow b t s v n xs) (hb:b'≤b):W.ownsRow b' t s v n xs:=by
 obtain ⟨h1,h2|⟨g,cap,cur,e,hg,r⟩⟩:=h
 ·exact ⟨h1,.inl h2⟩
 ·exact ⟨h1,.inr ⟨g,cap,cur,e,Nat.le_trans hb hg,r⟩⟩
end Go.Proofs.YtnkjkgmohmcobaaGreatDoor
namespace Go.Proofs.YtnkjkgmohmcobaaGreatDoor
open Go.RowKit
def DoneE (a:Act) (d:Option Tmp) (p:Value→World→Prop) (E:World→World→Prop) (W:World) (x:Exit) (a'':Act) (W'':World):Prop:=x= .normal∧∃v,a''=a.put d v∧p v W''∧E W W''
def stepE (P:Program) (full:Array Oper) (ops:List Oper) (As:List (Value→World→Prop)) (G:World→Prop) (Pre:Nat→World→Prop) (E:Nat→World→World→Prop) (a:Act) (k:Nat) (o:Oper):Prop:=
 ∀f W,G W→Pre k W→depsI As f W (o.after.toList.filter (fun e=>Region.binds .any e))→wpList P full (DoneE (fillF ops f 0 a) o.dst (atI As k) (E k) W) [o] (fillF ops f 0 a) W
def stepsE (P:Program) (full:Array Oper) (ops:List Oper) (As:List (Value→World→Prop)) (G:World→Prop) (Pre:Nat→World→Prop) (E:Nat→World→World→Prop) (a:Act):List Oper→Nat→Prop
 |[],_=>True
 |o::r,k=>stepE P full ops As G Pre E a k o∧stepsE P full ops As G Pre E a r (k+1)
theorem stepsE_at {P:Program} {full:Array Oper} {ops:List Oper} {As:List (Value→World→Prop)} {G:World→Prop} {Pre:Nat→World→Prop} {E:Nat→World→World→Prop} {a:Act} :∀(l:List Oper) (k i:Nat) (o:Oper),stepsE P full ops As G Pre E a l k→l[i]?=some o→stepE P full ops As G Pre E a (k+i) o
 |[],_,_,_,_,h=>by simp at h
 |p::r,k,i,o,hs,h=>by
  cases i with
  |zero=>
   obtain rfl:p=o:=by simpa using h
   exact hs.1
  |succ i=>
   have:=stepsE_at r (k+1) i o hs.2 (by simpa using h)
   rwa [show k+1+i=k+(i+1) by omega] at this
theorem wpHead_invE {P:Program} {Q:Exit→Act→World→Prop} {a:Act} {l:List Oper} (n:Nat) (As:List (Value→World→Prop)) (G:World→Prop) (Pre:Nat→World→Prop) (E:Nat→World→World→Prop) (hG:∀k W W',G W→E k W W'→G W') (hPr:∀i j W W',i≠j→E j W W'→Pre i W→Pre i W') (hd:distB (l.take n)=true) (ha:aftB l 0=true)
  (hS:Region.sinkB .any l.toArray n=true) (hC:Region.chainB .any l.toArray n=true) (hn:n<l.length) (hseq:Region.seqB .any l.toArray (l.length-n) n (doneA n (l.length-n))=true)
  (hst:∀i j v W W',i≠j→E j W W'→atI As i v W→atI As i v W') (hs:stepsE P l.toArray (l.take n) As G Pre E a (l.take n) 0) (h:∀f W,G W→(∀i,i<n→atI As i (f i) W)→wpList P l.toArray Q (l.drop n) (fillF (l.take n) f 0 a) W):
  ∀(fuel:Nat) (listed:Array Bool) (f:Nat→Value) (W:World) (u:List Nat),HeadInv .any l.toArray n listed→u.Nodup→u.length=fuel→(∀i,i∈u↔(i<n∧listed.getD i true=false))→G W→(∀i,i<n→listed.getD i true=false→Pre i W)→
   (∀i,i<n→listed.getD i true=true→atI As i (f i) W)→wpAny P .any l.toArray Q (fuel+(l.length-n)) listed (fillF (l.take n) f 0 a) W:=by
 intro fuel
 induction fuel with
 |zero=>
  intro listed f W u inv hnd hl hu hb hPW hA
  obtain rfl:=List.eq_nil_of_length_eq_zero hl
  have hall:∀i,i<n→listed.getD i true=true:=fun i hi=>by
   cases hb':listed.getD i true with
   |true=>rfl
   |false=>exact absurd ((hu i).2 ⟨hi,hb'⟩) (by simp)
  have hz:listed.size=l.length:=by have:=inv.size;simpa using this
  obtain rfl:listed=doneA n (l.length-n):=doneA_eq (by omega) hall (fun i h1 h2=>inv.tail i h1 (by simp;omega))
  rw [Nat.zero_add]
  have hdl:(l.drop n).length=l.length-n:=by simp
  have:=wpAny_of_seq (md:= .any) (Q':=Q) (l.drop n) n _ (fillF (l.take n) f 0 a) W (fun j=>by simp [List.getElem?_drop]) (by rw [hdl];exact hseq) (h f W hb (fun i hi=>hA i hi (hall i hi)))
  rwa [hdl] at this
 |succ fuel ih=>
  intro listed f W u inv hnd hl hu hb hPW hA
  have hz:listed.size=l.length:=by have:=inv.size;simpa using this
  have hex:∃i,i<n∧listed.getD i true=false:=by
   cases u with
   |nil=>simp at hl
   |cons x r=>exact ⟨x,(hu x).1 List.mem_cons_self⟩
  rw [show fuel+1+(l.length-n)=(fuel+(l.length-n))+1 by omega]
  refine ⟨fun hnil=>?_,fun i hi=>?_⟩
  ·exfalso
   have key:∀m,∀i,i<m→i<n→listed.getD i true=false→False:=by
    intro m
    induction m with
    |zero=>intro i hi;omega
    |succ m ihn=>
     intro i hi hil hun
     obtain ⟨o,ho⟩:∃o,l[i]?=some o:=⟨_,List.getElem?_eq_getElem (show i<l.length by omega)⟩
     have:i∈Region.ready .any l.toArray listed:=by
      refine mem_ready.2 ⟨hun,o,by simpa using ho,fun e he _=>?_⟩
      have hlt:=aft_at l 0 i o ha ho e he
      cases hb':listed.getD e.on false with
      |true=>rfl
      |false=>
       exfalso
       refine ihn e.on (by omega) (by omega) ?_
       have hin:e.on<listed.size:=by omega
       simp only [Array.getD,hin,dif_pos] at hb' ⊢
       exact hb'
     rw [hnil] at this
     cases this
   obtain ⟨i,h1,h2⟩:=hex
   exact key (i+1) i (by omega) h1 h2
  ·have hin:i<n:=by
    obtain ⟨i0,h1,h2⟩:=hex
    exact Nat.lt_of_not_le fun hge=>absurd hi (tail_waits hS hC (by simpa using hn) inv _ i0 rfl h1 h2 i hge)
   obtain ⟨hun,o,ho,hall⟩:=mem_ready.1 hi
   have ho':l[i]?=some o:=by simpa using ho
   have ho2:(l.take n)[i]?=some o:=by rw [List.getElem?_take,if_pos hin,ho']
   have hstep:=stepsE_at (l.take n) 0 i o hs ho2
   rw [Nat.zero_add] at hstep
   have hq:=hstep f W hb (hPW i hin hun) (by
    intro e he
    rw [List.mem_filter] at he
    have he1:e∈o.after:=by simpa using he.1
    have hlt:=aft_at l 0 i o ha ho' e he1
    have hll:=hall e he1 he.2
    refine hA e.on (by omega) ?_
    have hin:e.on<listed.size:=by omega
    simp only [Array.getD,hin,dif_pos] at hll ⊢
    exact hll)
   have hnext:∀(a'':Act) (W'':World),(∃v,a''=(fillF (l.take n) f 0 a).put o.dst v∧atI As i v W''∧E i W W'')→wpAny P .any l.toArray Q (fuel+(l.length-n)) (listed.setIfInBounds i true) a'' W'':=by
    rintro a'' W'' ⟨v,rfl,hv,hb2⟩
    rw [fill_put (l.take n) f 0 i a hd ho2]
    refine ih _ _ _ (u.erase i) (inv.set hi hin) (hnd.erase _) (by rw [List.length_erase_of_mem ((hu i).2 ⟨hin,hun⟩)];omega) (fun j=>?_) (hG _ _ _ hb hb2) (fun j hj hlj=>?_) (fun j hj hlj=>?_)
    ·rw [hnd.mem_erase_iff,hu j]
     constructor
     ·rintro ⟨h1,h2,h3⟩
      exact ⟨h2,by rw [getD_set_ne true (Ne.symm h1)];exact h3⟩
     ·rintro ⟨h2,h3⟩
      have hne:j≠i:=by
       rintro rfl
       have hin:j<listed.size:=by omega
       simp [Array.getD,hin] at h3
      exact ⟨hne,h2,by rwa [getD_set_ne true (Ne.symm hne)] at h3⟩
    ·have hji:j≠i:=by
      rintro rfl
      have hin:j<listed.size:=by have:=inv.size;simp at this;omega
      simp [Array.getD,hin] at hlj
     exact hPr j i _ _ hji hb2 (hPW j hj (by rwa [getD_set_ne true (Ne.symm hji)] at hlj))
    ·by_cases hji:j=i
     ·subst hji
      simp only [Nat.zero_add,if_true]
      exact hv
     ·simp only [Nat.zero_add,if_neg hji]
      refine hst j i _ W W'' hji hb2 (hA j hj ?_)
      rwa [getD_set_ne true (Ne.symm hji)] at hlj
   unfold wpOp
   simp only [ho]
   unfold wpList at hq
   split
   ·rename_i hw
    rw [if_pos hw] at hq
    rcases hq with hq|⟨_,a',w',he,_⟩
    ·exact .inl (wp_strict (fun _ _ _ h=>h.1) (fun a'' w'' h=>hnext a'' w'' (show _∧_ from h).2) hq)
    ·cases he
   ·rename_i hw
    rw [if_neg hw] at hq
    exact hnext _ _ (show _∧_ from hq).2
theorem wp_region_inv_tailE {P:Program} {id:Nat} {Q:Exit→Act→World→Prop} {a:Act} {w:World} {l:List Oper} (n:Nat) (As:List (Value→World→Prop)) (G:World→Prop) (Pre:Nat→World→Prop) (E:Nat→World→World→Prop) (hG:∀k W W',G W→E k W W'→G W') (hPr:∀i j W W',i≠j→E j W W'→Pre i W→Pre i W') (hdr:G w.drew) (hp0:∀i,Pre i w.drew) (hm:P.follows .mixedOrders=true) (hd:distB (l.take n)=true) (ha:aftB l 0=true)
  (hS:Region.sinkB .any l.toArray n=true) (hC:Region.chainB .any l.toArray n=true) (hn:n<l.length) (hseq:Region.seqB .any l.toArray (l.length-n) n (doneA n (l.length-n))=true)
  (hst:∀i j v W W',i≠j→E j W W'→atI As i v W→atI As i v W') (hs:stepsE P l.toArray (l.take n) As G Pre E a (l.take n) 0) (h:∀f W,G W→(∀i,i<n→atI As i (f i) W)→wpList P l.toArray Q (l.drop n) (fillF (l.take n) f 0 a) W):(Code.region id l.toArray true).wp P Q a w:=by
 refine wp_region_any hm ?_
 obtain ⟨f,hf⟩:=fill_self (l.take n) 0 a
 have inv0:HeadInv .any l.toArray n (Array.replicate l.toArray.size false):=
  ⟨by simp,fun j oj _ hl=>(by rw [getD_replicate_false] at hl;cases hl),fun t _ ht=>getD_in (by simpa using ht) (getD_replicate_false _ _)⟩
 have:=wpHead_invE (Q:=Q) n As G Pre E hG hPr hd ha hS hC hn hseq hst hs h n (Array.replicate l.toArray.size false) f w.drew (List.range n) inv0 List.nodup_range (by simp) (fun i=>?_) hdr (fun i _ _=>hp0 i) (fun i hi hl=>?_)
 ·rw [hf,show n+(l.length-n)=l.length by omega] at this
  simpa using this
 ·rw [List.mem_range]
  constructor
  ·intro hi;exact ⟨hi,by simp [Array.getD,show i<l.length by omega]⟩
  ·intro hi;exact hi.1
 ·simp [Array.getD,show i<l.length by omega] at hl
end Go.Proofs.YtnkjkgmohmcobaaGreatDoor
namespace Go.Proofs.YtnkjkgmohmcobaaGreatDoor
open Go.RowKit
theorem do1_deferred (bd d:Nat) (o:Int) (w:World) (hb:w.cell? ⟨bd,0,none⟩=some (.pointer (some ⟨d,0,none⟩))) (h9:w.cell? ⟨d,9,none⟩=some (.int .i64 o)) (h6:w.cell? ⟨d,6,none⟩=some (.bool false)) (f9:w.frozen? ⟨d,9,none⟩=false):
  CallsD Tryz.prog 165 #[.pointer (some ⟨bd,0,none⟩)] .returning w fun e u' w'=>u'= .returning∧(e= .returned (.tuple #[])∧∃o',w'=w.setCell ⟨d,9,none⟩ (.int .i64 o')):=by
 go_enter_d Tryz.func165,Tryz.ntmps165
 go_wp2
 go_end0
 exact ⟨rfl,_,rfl⟩
def DoR (bd d:Nat) (R:World→Prop):Prop:=∀W,R W→Blk W bd 77 #[.pointer (some ⟨d,0,none⟩)]∧∃cs o,Blk W d 113 cs∧cs[6]?=some (.bool false)∧cs[9]?=some (.int .i64 o)
theorem do_any (d F:Nat) (ja:Value) (cs:Array Value) (R:World→Prop) (w:World) (k:Blk w d 113 cs) (h6:cs[6]?=some (.bool false)) (h8:cs[8]?=some (.bool false))
  (hR:DoR w.heap.size d R) (hcf:∀W,(callFunc F #[ja]).run Tryz.prog W= .ok (.enter F #[ja]) W) (hact:Calls Tryz.prog F #[ja] (w.alloc (.cells #[.pointer (some ⟨d,0,none⟩)] 77)) fun e w'=>(∃v,e= .returned v)∧R w'):
  Calls Tryz.prog 101 #[.pointer (some ⟨d,0,none⟩),.bool true,.func (.func F) #[ja] #[]] w fun e w'=>e= .returned (.int .i64 0)∧∃W o',R W∧w'=W.setCell ⟨d,9,none⟩ (.int .i64 o'):=by
 have hmf:∀(fn:Fn) (first cap:Array Value) (w:World),(Instr.makeFunc fn first cap).run Tryz.prog w= .ok (.func fn first cap) w:=fun _ _ _ _=>rfl
 have c6:w.cell? ⟨d,6,none⟩=some (.bool false):=(k.cell 6).trans h6
 have c8:w.cell? ⟨d,8,none⟩=some (.bool false):=(k.cell 8).trans h8
 have hdl:=k.lt
 have HA:=hide hact
 have HR:=hide hR
 clear hact hR k h6 h8
 go_enter_defers Tryz.func101,Tryz.ntmps101
 go_wp2_with fail
 refine HA.out.mono ?_
 rintro e w2 ⟨⟨v,rfl⟩,hR2⟩
 obtain ⟨kb,cs2,o2,kd,g6,g9⟩:=HR.out w2 hR2
 have HKB:=hide kb
 have HKD:=hide kd
 have HG6:=hide g6
 have HG9:=hide g9
 have HRR:=hide hR2
 clear kb kd g6 g9 hR2
 go_wp2_with fail
 refine leaves_cons (f:=165) (args:=#[.pointer (some ⟨w.heap.size,0,none⟩)]) (by simp) (by simp [go_sem]) ?_
 refine (do1_deferred w.heap.size d o2 w2 (HKB.out.cell 0) ((HKD.out.cell 9).trans HG9.out) ((HKD.out.cell 6).trans HG6.out) (HKD.out.frozen 9)).mono ?_
 rintro e u' w'' ⟨rfl,rfl,o',rfl⟩
 exact ⟨_,results_tmp rfl _ _ _,rfl,w2,o',HRR.out,rfl⟩
def devC (sv mv lv:Value) (stale head sure fuse o:Int):Array Value:=#[sv,mv,lv,.int .i64 stale,.int .i64 head,.int .i64 sure,.bool false,.int .i64 fuse,.bool false,.int .i64 o]
def JobC (js:Array Value) (d:Nat) (at_:Int) (bv:Value):Prop:=js[0]?=some (.pointer (some ⟨d,0,none⟩))∧js[1]?=some (.int .i64 at_)∧js[514]?=some bv
end Go.Proofs.YtnkjkgmohmcobaaGreatDoor
namespace Go.Proofs.YtnkjkgmohmcobaaGreatDoor
open Go.RowKit
structure Turn (S:Nat→Prop) (w w':World):Prop where
 os:w'.os=w.os
 tape:w'.tape=w.tape
 output:w'.output=w.output
 size:w.heap.size≤w'.heap.size
 block:∀k,k<w.heap.size→¬S k→w'.heap[k]?=w.heap[k]?
theorem Turn.of_below {S:Nat→Prop} {w w':World} (h:Below w.heap.size w w'):Turn S w w':=⟨h.os,h.tape,h.output,h.size,fun k hk _=>h.block k hk⟩
theorem Turn.of_grown {S:Nat→Prop} {w w':World} {r:Option Nat} (h:w.grownBy w' r) (hS:∀k,some k=r→S k):Turn S w w':=⟨h.os,h.tape,h.output,h.size,fun k hk hn=>h.block k hk (fun e=>hn (hS k e))⟩
theorem Turn.trans {S:Nat→Prop} {a b c:World} (h:Turn S a b) (k:Turn S b c):Turn S a c:=⟨k.os.trans h.os,k.tape.trans h.tape,k.output.trans h.output,Nat.le_trans h.size k.size,fun i hi hn=>(k.block i (Nat.lt_of_lt_of_le hi h.size) hn).trans (h.block i hi hn)⟩
theorem Turn.mono {S S':Nat→Prop} {w w':World} (h:Turn S w w') (hS:∀k,k<w.heap.size→S k→S' k):Turn S' w w':=⟨h.os,h.tape,h.output,h.size,fun k hk hn=>h.block k hk (fun hs=>hn (hS k hk hs))⟩
theorem Turn.set {S:Nat→Prop} {a w:World} (h:Turn S a w) {p:Addr} (hp:S p.block∨a.heap.size≤p.block) (u:Value):Turn S a (w.setCell p u):=
 ⟨h.os,h.tape,h.output,by simpa [World.setCell] using h.size,fun k hk hn=>(Below.heap_setCell w p u k (fun e=>by
  rcases hp with hp|hp
  ·exact hn (e▸hp)
  ·omega)).trans (h.block k hk hn)⟩
theorem zeros_job:Tryz.zeroCells182.size=515:=by kernel_rfl
theorem info_job:(Tryz.prog.info? 182).map (·.size)=some 515:=by kernel_rfl
theorem zero_job_one:Tryz.zeroCells182.all (·.oneCell')=true:=by kernel_rfl
theorem all_set {cs:Array Value} (h:cs.all (·.oneCell')=true) (i:Nat) {u:Value} (hu:u.oneCell'=true):(cs.setIfInBounds i u).all (·.oneCell')=true:=by
 rw [Array.all_eq_true_iff_forall_mem] at h ⊢
 intro v hv
 rcases Array.mem_or_eq_of_mem_setIfInBounds hv with hv|rfl
 ·exact h v hv
 ·exact hu
end Go.Proofs.YtnkjkgmohmcobaaGreatDoor
namespace Go.Proofs.YtnkjkgmohmcobaaGreatDoor
open Go.RowKit Go.Maps
def opVv (x:OpD) (dv:Value):Value:= .agg #[.int .i64 x.act,.string x.key,dv,.int .i64 x.lo,.int .i64 x.hi,.int .i64 x.n]
def ansVv (er kind lo hi val:Int) (dv:Value):Value:= .agg #[.int .i64 er,.int .i64 kind,dv,.int .i64 lo,.int .i64 hi,.int .i64 val]
theorem opOf_any (x:OpD) (dv:Value) (B:Nat) (w:World) (hB:B≤w.heap.size) (hd:BytesAt w B dv x.data) (hn:x.data.length≤1000000):Calls Tryz.prog 24 #[opVv x dv] w fun e w'=>∃(A':Option Addr) (n' c':Nat),e= .returned (opVv x (.slice A' n' c'))∧Below w.heap.size w w':=by
 have HC:=hide (fun W (hb:Below w.heap.size w W)=>Clone_any dv x.data B W (Nat.le_trans hB hb.size) hn (BytesAt.below hd hb hB))
 obtain ⟨A,n,c,hdv,hrest⟩:=hd
 clear hrest
 subst hdv
 obtain ⟨xa,xk,xd,xl,xh,xn⟩:=x
 unfold opVv
 dsimp only at*
 clear hn hB
 go_enter Tryz.func24,Tryz.ntmps24
 go_upto_region 1 with (fail)
 refine gen2 (R:=fun W=>Code.wp _ _ _ _ W) (fun W1 kb kr hb1 hz1=>?_)
 obtain ⟨g,hg⟩:∃g,g=w.heap.size:=⟨_,rfl⟩
 have HG:=hide hg
 rw [← hg] at kb kr hz1 ⊢
 have q2:=kb.cell 2
 have ql:=kb.lt
 have KB:=hide kb
 have KR:=hide kr
 have HB1:=hide hb1
 clear kb kr hb1 hg
 go_wp2_with fail
 refine (HC.out W1 HB1.out).mono ?_
 rintro e W2 ⟨v',rfl,hbv, -,hb2⟩
 obtain ⟨A',n',c',rfl, -⟩:=hbv
 have kb2:=Blk.via hb2 KB.out
 have f2:=kb2.frozen 2
 have c2:=kb2.cell 2
 have l2:=kb2.lt
 have HB2:=hide (below_via HB1.out hb2 HB1.out.size)
 have KB2:=hide kb2
 have KR2:=hide (Blk.via hb2 KR.out)
 clear kb2 KB KR HB1 hb2 q2 ql HC
 go_upto_region 2 with (fail)
 obtain ⟨X,hX⟩:∃X:Array Value,X= #[.int .i64 xa,.string xk,.slice A' n' c',.int .i64 xl,.int .i64 xh,.int .i64 xn]:=⟨_,rfl⟩
 have k3:Blk (W2.setCell ⟨g,2,none⟩ (.slice A' n' c')) g 26 X:=by
  rw [hX]
  exact KB2.out.set_ 2 (.slice A' n' c')
 have kr3:=KR2.out.far (p:=⟨g,2,none⟩) (by simp) (.slice A' n' c')
 have hb3:Below w.heap.size w (W2.setCell ⟨g,2,none⟩ (.slice A' n' c')):=HB2.out.setCell (p:=⟨g,2,none⟩) (by rw [← HG.out];exact Nat.le_refl _) _
 generalize W2.setCell ⟨g,2,none⟩ (.slice A' n' c')=W3 at*
 have HII:=hide (show (Tryz.prog.info? 26).map (·.size)=some X.size by rw [hX];kernel_rfl)
 have H1C:=hide (show X.all (·.oneCell')=true by rw [hX];simp [Value.oneCell'])
 obtain ⟨z,hz⟩:∃z:Array Value,z= #[.int .i64 0,.string .empty,.slice none 0 0,.int .i64 0,.int .i64 0,.int .i64 0]:=⟨_,rfl⟩
 have HZX:=hide (show z.size=X.size by rw [hz,hX];rfl)
 have KR3:=hide (show Blk W3 (g+1) 26 z by rw [hz];exact kr3)
 have KX:=hide k3
 have HK:=hide (show Blk (W3.setRow (g+1) X) (g+1) 26 X from setRow_heap W3 (g+1) _ _ _ _ KR3.out)
 have HB:=hide (show Below w.heap.size w (W3.setRow (g+1) X) from (touch_setRow W3 (g+1) X).below hb3 (by rw [HG.out];omega))
 have HX:=hide hX
 clear k3 kr3 hb3 hX hz KB2 KR2 HB2 f2 l2 c2
 go_wp2_with (first
  |(refine wpList_load_row rfl 26 (.tmp 1) rfl g rfl 26 X (0,0) _ KX.out Tryz.underlying26 rfl HII.out ?_)
  |(refine wpList_store_row rfl 26 (.tmp 2) _ rfl (g+1) X rfl rfl 26 z KR3.out HII.out HZX.out H1C.out ?_))
 refine bodyPost_ret (results_cell_row Tryz.results24 _ _ (g+1) 26 X (0,0) _ rfl HK.out Tryz.underlying26 rfl HII.out) rfl ?_
 exact ⟨A',n',c',by rw [HX.out],HB.out⟩
theorem answerOf_any (er kind lo hi val:Int) (dv:Value) (bs:List UInt8) (B:Nat) (w:World) (hB:B≤w.heap.size) (hd:BytesAt w B dv bs) (hn:bs.length≤1000000):Calls Tryz.prog 26 #[ansVv er kind lo hi val dv] w fun e w'=>∃(A':Option Addr) (n' c':Nat),e= .returned (ansVv er kind lo hi val (.slice A' n' c'))∧Below w.heap.size w w':=by
 have HC:=hide (fun W (hb:Below w.heap.size w W)=>Clone_any dv bs B W (Nat.le_trans hB hb.size) hn (BytesAt.below hd hb hB))
 obtain ⟨A,n,c,hdv,hrest⟩:=hd
 clear hrest
 subst hdv
 unfold ansVv
 clear hn hB
 go_enter Tryz.func26,Tryz.ntmps26
 go_upto_region 1 with (fail)
 refine gen2 (R:=fun W=>Code.wp _ _ _ _ W) (fun W1 kb kr hb1 hz1=>?_)
 obtain ⟨g,hg⟩:∃g,g=w.heap.size:=⟨_,rfl⟩
 have HG:=hide hg
 rw [← hg] at kb kr hz1 ⊢
 have q2:=kb.cell 2
 have ql:=kb.lt
 have KB:=hide kb
 have KR:=hide kr
 have HB1:=hide hb1
 clear kb kr hb1 hg
 go_wp2_with fail
 refine (HC.out W1 HB1.out).mono ?_
 rintro e W2 ⟨v',rfl,hbv, -,hb2⟩
 obtain ⟨A',n',c',rfl, -⟩:=hbv
 have kb2:=Blk.via hb2 KB.out
 have f2:=kb2.frozen 2
 have c2:=kb2.cell 2
 have l2:=kb2.lt
 have HB2:=hide (below_via HB1.out hb2 HB1.out.size)
 have KB2:=hide kb2
 have KR2:=hide (Blk.via hb2 KR.out)
 clear kb2 KB KR HB1 hb2 q2 ql HC
 go_upto_region 2 with (fail)
 obtain ⟨X,hX⟩:∃X:Array Value,X= #[.int .i64 er,.int .i64 kind,.slice A' n' c',.int .i64 lo,.int .i64 hi,.int .i64 val]:=⟨_,rfl⟩
 have k3:Blk (W2.setCell ⟨g,2,none⟩ (.slice A' n' c')) g 43 X:=by
  rw [hX]
  exact KB2.out.set_ 2 (.slice A' n' c')
 have kr3:=KR2.out.far (p:=⟨g,2,none⟩) (by simp) (.slice A' n' c')
 have hb3:Below w.heap.size w (W2.setCell ⟨g,2,none⟩ (.slice A' n' c')):=HB2.out.setCell (p:=⟨g,2,none⟩) (by rw [← HG.out];exact Nat.le_refl _) _
 generalize W2.setCell ⟨g,2,none⟩ (.slice A' n' c')=W3 at*
 have HII:=hide (show (Tryz.prog.info? 43).map (·.size)=some X.size by rw [hX];kernel_rfl)
 have H1C:=hide (show X.all (·.oneCell')=true by rw [hX];simp [Value.oneCell'])
 obtain ⟨z,hz⟩:∃z:Array Value,z= #[.int .i64 0,.int .i64 0,.slice none 0 0,.int .i64 0,.int .i64 0,.int .i64 0]:=⟨_,rfl⟩
 have HZX:=hide (show z.size=X.size by rw [hz,hX];rfl)
 have KR3:=hide (show Blk W3 (g+1) 43 z by rw [hz];exact kr3)
 have KX:=hide k3
 have HK:=hide (show Blk (W3.setRow (g+1) X) (g+1) 43 X from setRow_heap W3 (g+1) _ _ _ _ KR3.out)
 have HB:=hide (show Below w.heap.size w (W3.setRow (g+1) X) from (touch_setRow W3 (g+1) X).below hb3 (by rw [HG.out];omega))
 have HX:=hide hX
 clear k3 kr3 hb3 hX hz KB2 KR2 HB2 f2 l2 c2
 go_wp2_with (first
  |(refine wpList_load_row rfl 43 (.tmp 1) rfl g rfl 43 X (0,0) _ KX.out Tryz.underlying43 rfl HII.out ?_)
  |(refine wpList_store_row rfl 43 (.tmp 2) _ rfl (g+1) X rfl rfl 43 z KR3.out HII.out HZX.out H1C.out ?_))
 refine bodyPost_ret (results_cell_row Tryz.results26 _ _ (g+1) 43 X (0,0) _ rfl HK.out Tryz.underlying43 rfl HII.out) rfl ?_
 exact ⟨A',n',c',by rw [HX.out],HB.out⟩
def cal1 (no:Int) (x:OpD) (dv:Value):List Value:=[.int .i64 no,.int .i64 1,.int .i64 0,.int .i64 x.act,.string x.key,dv,.int .i64 x.lo,.int .i64 x.hi,.int .i64 x.n,.pointer none,.pointer none,.int .i64 0,.int .i64 0,.bool false,.int .i64 0,.int .i64 0,.slice none 0 0,.int .i64 0,.int .i64 0,.int .i64 0]
theorem call_in (k b g n i:Nat) (ev:Value) (hi:i<n) (x:OpD) (dv:Value) (B:Nat) (w:World) (hB:B≤w.heap.size) (hd:BytesAt w B dv x.data) (hn:x.data.length≤1000000) (kk:Blk w k 73 (bankC b g n ev)) (hc:CalQ w g (i*20) (cal0 i)):
  Calls Tryz.prog 9 #[.pointer (some ⟨k,0,none⟩),.int .i64 (i:Nat),opVv x dv] w fun e w'=>e= .returned (.int .i64 0)∧∃(A':Option Addr) (n' c':Nat),CalQ w' g (i*20) (cal1 i x (.slice A' n' c'))∧Turn (fun q=>q=g) w w':=by
 have HO:=hide (fun W (hb:Below w.heap.size w W)=>opOf_any x dv B W (Nat.le_trans hB hb.size) (BytesAt.below hd hb hB) hn)
 have HR:=hide (fun W (hb:Below w.heap.size w W)=>ready_in k b g n i ev hi W (Blk.via hb kk))
 have HCL:=hide (fun W (hb:Below w.heap.size w W)=>client_in k b g n i ev hi W (Blk.via hb kk))
 have HC:=hide hc
 obtain ⟨A,m,c,hdv,hrest⟩:=hd
 subst hdv
 obtain ⟨xa,xk,xd,xl,xh,xn⟩:=x
 unfold opVv at*
 dsimp only at*
 clear hn hB hrest kk hc hi
 go_enter Tryz.func9,Tryz.ntmps9
 go_upto_region 1 with (fail)
 refine gen1 (R:=fun W=>Code.wp _ _ _ _ W) (fun W1 kb hb1 hz1=>?_)
 have HB1:=hide hb1
 have HRW:=hide (HR.out W1 hb1)
 have HCW:=hide (HCL.out W1 hb1)
 have HOW:=hide (HO.out W1 hb1)
 have hc1:=CalQ.via hb1 HC.out
 have HC1:=hide hc1
 have c1:=hc1.cell 1 rfl
 have cl:=hc1.lt
 have KB:=hide kb
 have q0:=kb.cell 0
 have q1:=kb.cell 1
 have q2:=kb.cell 2
 have q3:=kb.cell 3
 have q4:=kb.cell 4
 have q5:=kb.cell 5
 have ql:=kb.lt
 clear hb1 hc1 kb HR HCL HO
 go_wp2_with (first
  |(go_at_call 22;refine HRW.out.mono ?_;rintro e w' ⟨rfl,hw'⟩;obtain rfl:=hw'.symm)
  |(go_at_call 23;refine HCW.out.mono ?_;rintro e w' ⟨rfl,hw'⟩;obtain rfl:=hw'.symm))
 refine HOW.out.mono ?_
 rintro e W2 ⟨A',n',c',rfl,hb2⟩
 have hc2:=CalQ.via hb2 HC1.out
 have HC2:=hide hc2
 have HB2:=hide (below_via HB1.out hb2 HB1.out.size)
 have c3:=hc2.cell 3 rfl
 have c4:=hc2.cell 4 rfl
 have c5:=hc2.cell 5 rfl
 have c6:=hc2.cell 6 rfl
 have c7:=hc2.cell 7 rfl
 have c8:=hc2.cell 8 rfl
 have d1:=hc2.cell 1 rfl
 have f3:=hc2.frozen (i*20+3)
 have f4:=hc2.frozen (i*20+4)
 have f5:=hc2.frozen (i*20+5)
 have f6:=hc2.frozen (i*20+6)
 have f7:=hc2.frozen (i*20+7)
 have f8:=hc2.frozen (i*20+8)
 have f1:=hc2.frozen (i*20+1)
 have dl:=hc2.lt
 clear q0 q1 q2 q3 q4 q5 ql c1 cl hc2 hb2 HRW HCW HOW KB HC1 HB1
 go_wp2
 go_ret
 refine ⟨rfl,A',n',c',?_,?_⟩
 ·exact (((((((HC2.out.set1 (j:=3) (by omega) _).set1 (j:=4) (by omega) _).set1 (j:=5) (by omega) _).set1 (j:=6) (by omega) _).set1 (j:=7) (by omega) _).set1 (j:=8) (by omega) _).set1 (j:=1) (by omega) _)
 ·iterate 7 refine Turn.set (S:=fun q=>q=g) ?_ (.inl rfl) _
  exact Turn.of_below HB2.out
theorem call_out (k b g n:Nat) (i:Int) (ev:Value) (hi:¬(0≤i∧i<n)) (x:OpD) (dv:Value) (w:World) (kk:Blk w k 73 (bankC b g n ev)):
  Calls Tryz.prog 9 #[.pointer (some ⟨k,0,none⟩),.int .i64 i,opVv x dv] w fun e w'=>e= .returned (.int .i64 2)∧Below w.heap.size w w':=by
 have HR:=hide (fun W (hb:Below w.heap.size w W)=>ready_out k b g n i ev hi W (Blk.via hb kk))
 clear kk hi
 go_enter Tryz.func9,Tryz.ntmps9
 go_upto_region 1 with (fail)
 refine gen1 (R:=fun W=>Code.wp _ _ _ _ W) (fun W1 kb hb1 hz1=>?_)
 have HRW:=hide (HR.out W1 hb1)
 have HB1:=hide hb1
 clear kb hb1 HR
 go_wp2_with (go_at_call 22;refine HRW.out.mono ?_;rintro e w' ⟨rfl,hw'⟩;obtain rfl:=hw'.symm)
 go_ret
 exact ⟨rfl,HB1.out⟩
theorem call_nil (i:Int) (x:OpD) (dv:Value) (w:World):Calls Tryz.prog 9 #[.pointer none,.int .i64 i,opVv x dv] w fun e w'=>e= .returned (.int .i64 4)∧Below w.heap.size w w':=by
 have HR:=hide (fun W=>ready_nil i W)
 go_enter Tryz.func9,Tryz.ntmps9
 go_upto_region 1 with (fail)
 refine gen1 (R:=fun W=>Code.wp _ _ _ _ W) (fun W1 kb hb1 hz1=>?_)
 have HB1:=hide hb1
 clear kb hb1
 go_wp2_with (go_at_call 22;refine (HR.out _).mono ?_;rintro e w' ⟨rfl,hw'⟩;obtain rfl:=hw'.symm)
 go_ret
 exact ⟨rfl,HB1.out⟩
theorem call_twice (k b g n i:Nat) (ev:Value) (hi:i<n) (x y:OpD) (dv dy:Value) (w:World) (kk:Blk w k 73 (bankC b g n ev)) (hc:CalQ w g (i*20) (cal1 i y dy)):
  Calls Tryz.prog 9 #[.pointer (some ⟨k,0,none⟩),.int .i64 (i:Nat),opVv x dv] w fun e w'=>e= .returned (.int .i64 15)∧Below w.heap.size w w':=by
 have HR:=hide (fun W (hb:Below w.heap.size w W)=>ready_in k b g n i ev hi W (Blk.via hb kk))
 have HCL:=hide (fun W (hb:Below w.heap.size w W)=>client_in k b g n i ev hi W (Blk.via hb kk))
 have HC:=hide hc
 clear kk hc hi
 go_enter Tryz.func9,Tryz.ntmps9
 go_upto_region 1 with (fail)
 refine gen1 (R:=fun W=>Code.wp _ _ _ _ W) (fun W1 kb hb1 hz1=>?_)
 have HB1:=hide hb1
 have HRW:=hide (HR.out W1 hb1)
 have HCW:=hide (HCL.out W1 hb1)
 have hc1:=CalQ.via hb1 HC.out
 have c1:=hc1.cell 1 rfl
 have cl:=hc1.lt
 clear hb1 hc1 kb HR HCL
 go_wp2_with (first
  |(go_at_call 22;refine HRW.out.mono ?_;rintro e w' ⟨rfl,hw'⟩;obtain rfl:=hw'.symm)
  |(go_at_call 23;refine HCW.out.mono ?_;rintro e w' ⟨rfl,hw'⟩;obtain rfl:=hw'.symm))
 go_ret
 exact ⟨rfl,HB1.out⟩
end Go.Proofs.YtnkjkgmohmcobaaGreatDoor
namespace Go.Proofs.YtnkjkgmohmcobaaGreatDoor
open Go.RowKit
def bitR (v:Nat):Nat:=if v%2=1 then v/2^^^2197175160 else v/2
def bitsR:Nat→Nat→Nat
 |0,v=>v
 |n+1,v=>bitsR n (bitR v)
def stepR (s:Nat) (c:UInt8):Nat:=bitsR 8 (s^^^c.toNat)
def moreR (s:Nat) (bs:List UInt8):Nat:=4294967295-bs.foldl stepR (4294967295-s)
theorem bitR_xor (a b:Nat):bitR (a^^^b)=bitR a^^^bitR b:=by
 have h1:(a^^^b)/2=a/2^^^b/2:=by have:=Nat.xor_div_two_pow (a:=a) (b:=b) (n:=1);simpa using this
 have h2:(a^^^b)%2=(a%2)^^^(b%2):=by have:=Nat.xor_mod_two_pow (a:=a) (b:=b) (n:=1);simpa using this
 unfold bitR
 rw [h1,h2]
 rcases Nat.mod_two_eq_zero_or_one a with ha|ha<;>rcases Nat.mod_two_eq_zero_or_one b with hb|hb<;>rw [ha,hb]
 ·simp
 ·simp [Nat.xor_assoc]
 ·rw [if_pos (by decide),if_pos rfl,if_neg (by decide),Nat.xor_assoc,Nat.xor_assoc,Nat.xor_comm 2197175160]
 ·simp only [Nat.xor_self,if_true]
  rw [if_neg (by decide),Nat.xor_assoc, ← Nat.xor_assoc 2197175160,Nat.xor_comm 2197175160 (b/2),Nat.xor_assoc (b/2),Nat.xor_self,Nat.xor_zero]
theorem bitsR_xor:∀(n a b:Nat),bitsR n (a^^^b)=bitsR n a^^^bitsR n b
 |0,_,_=>rfl
 |n+1,a,b=>by rw [bitsR,bitR_xor,bitsR_xor n];rfl
theorem bitsR_shift:∀(n h:Nat),bitsR n (2^n*h)=h
 |0,h=>by simp [bitsR]
 |n+1,h=>by
  have h1:2^(n+1)*h=2*(2^n*h):=by rw [Nat.pow_succ,Nat.mul_comm (2^n) 2,Nat.mul_assoc]
  rw [bitsR,h1]
  have h2:bitR (2*(2^n*h))=2^n*h:=by unfold bitR;rw [if_neg (by omega)];omega
  rw [h2,bitsR_shift n]
theorem outT_bits:outT 8=(List.range 256).map (bitsR 8):=by kernel_rfl
theorem split_xor (x:Nat):x=2^8*(x/256)^^^(x%256):=by
 apply Nat.eq_of_testBit_eq
 intro i
 have h:=Nat.testBit_two_pow_mul_add (x/256) (i:=8) (b:=x%256) (Nat.mod_lt _ (by omega)) i
 have hx:2^8*(x/256)+x%256=x:=by omega
 rw [hx] at h
 rw [h,Nat.testBit_xor,Nat.testBit_two_pow_mul]
 by_cases hi:i<8
 ·rw [if_pos hi]
  have:decide (i≥8)=false:=by simp;omega
  simp [this]
 ·rw [if_neg hi]
  have h8:decide (i≥8)=true:=by simp;omega
  have hi8:8≤i:=by omega
  have hlt:x%256<2^i:=Nat.lt_of_lt_of_le (Nat.mod_lt x (by decide:0<256)) (Nat.pow_le_pow_right (n:=2) (by decide) hi8)
  rw [Nat.testBit_lt_two_pow hlt,h8]
  simp
theorem crcStep_eq (s:Nat) (c:UInt8):crcStep s c=stepR s c:=by
 have hc:c.toNat<256:=c.toNat_lt
 have h1:(s^^^c.toNat)/256=s/256:=by
  have:=Nat.xor_div_two_pow (a:=s) (b:=c.toNat) (n:=8)
  rw [show (2:Nat)^8=256 from rfl,Nat.div_eq_of_lt hc,Nat.xor_zero] at this
  exact this
 have h2:(s^^^c.toNat)%256=s%256^^^c.toNat:=by
  have:=Nat.xor_mod_two_pow (a:=s) (b:=c.toNat) (n:=8)
  rw [show (2:Nat)^8=256 from rfl,Nat.mod_eq_of_lt hc] at this
  exact this
 have h3:s%256^^^c.toNat<256:=Nat.xor_lt_two_pow (n:=8) (Nat.mod_lt _ (by omega)) hc
 unfold crcStep stepR
 rw [split_xor (s^^^c.toNat),bitsR_xor,bitsR_shift,h1,h2,outT_bits,List.getD_eq_getElem?_getD,List.getElem?_map,List.getElem?_range h3]
 rfl
theorem moreD_eq (s:Nat) (bs:List UInt8):moreD s bs=moreR s bs:=by
 unfold moreD moreR
 rw [show crcStep=stepR from funext fun s=>funext fun c=>crcStep_eq s c]
end Go.Proofs.YtnkjkgmohmcobaaGreatDoor
