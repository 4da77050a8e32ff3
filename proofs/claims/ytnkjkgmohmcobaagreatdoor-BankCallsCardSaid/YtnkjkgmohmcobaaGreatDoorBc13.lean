/-
  Texts of this claim, joined: VE, VF, VG, VH, VI.
-/
import Derived.LaidEqlPtr
import Derived.Laws.Cover3
import Derived.Laws.Pointers
import Derived.Test.YtnkjkgmohmcobaaGreatDoorBc12
set_option maxHeartbeats 6400000
set_option maxRecDepth 100000
namespace Go.Proofs.YtnkjkgmohmcobaaGreatDoor.Vm
open Go
def ERel (ρ:Ren):List Ent→List MapEntry→Prop
 |[],l=>l=[]
 |e::r,l=>∃x l',l=x::l'∧VRel ρ e.1 x.key∧VRel ρ e.2.1 x.val∧x.born=e.2.2∧ERel ρ r l'
def DRel1 (ρ:Ren):ADef→Deferred→Prop
 | .fn f args cap,d=>∃c az:Array Value,d= {target:= .fn (.func f) c,args:=az} ∧LRel ρ args az.toList∧LRel ρ cap c.toList
 | .mark r,d=>∃p,ρ r=some p∧d= {target:= .collected p.1,args:=#[]}
def DRel (ρ:Ren):List ADef→List Deferred→Prop
 |[],l=>l=[]
 |e::r,l=>∃x l',l=x::l'∧DRel1 ρ e x∧DRel ρ r l'
def TRel (ρ:Ren) (t:Tr AV) (n:Nat) (tmps:Array Value):Prop:=tmps.size=n∧∀k,VRel ρ (slotA t k) (tmps.getD k undef)
def RowR (ρ:Ren) (p:Nat × Nat × Nat) (e:TypeId) (cs:List AV) (o:Obj):Prop:=
 ∃(vs:Array Value) (known junk:List Value),o= .cells vs e (0,0)∧vs.size=p.2.1+p.2.2∧vs.toList.drop p.2.1=known++junk∧CRel ρ cs known
def IterM (ρ:Ren) (m:Option Nat) (m':Option Nat):Prop:=
 match m with
 |none=>m'=none
 |some n=>∃q,ρ n=some q∧m'=some q.1
def DefsR (ρ:Ren) (ds:Option (List ADef)) (d:Option (List Deferred)):Prop:=
 match ds with
 |none=>d=none
 |some l=>∃l',d=some l'∧DRel ρ l l'
def LoopOk (ρ:Ren) (st:LoopState) (pe:Option Code) (t:Tr AV) (n:Nat) (ps:List Tmp) (az bd:Code) (dn:Nat) (r:Loop):Prop:=
 r.state=st∧r.pending=pe∧TRel ρ t n r.tmps∧r.params.toList=ps∧r.assign=az∧r.body=bd∧∃q,ρ dn=some q∧r.defers=q.1
def ORel (ρ:Ren) (p:Nat × Nat × Nat):AObj→Obj→Prop
 | .row e cs,o=>RowR ρ p e cs o
 | .map es c,o=>∃es':Array MapEntry,o= .map es' c∧ERel ρ es es'.toList
 | .iter m since seen last,o=>∃m',o= .mapIter m' since seen.toArray last∧IterM ρ m m'∧p.2.1=0
 | .siter s pos,o=>o= .stringIter s pos∧p.2.1=0
 | .loop st pe t n ps az bd dn,o=>∃r,o= .loop r∧LoopOk ρ st pe t n ps az bd dn r
 | .defs ds,o=>∃d,o= .deferred d∧DefsR ρ ds d
 | .glob g o',o=>p.1=g∧o=o'∧∃(vs:Array Value) (t:TypeId) (k:Nat × Nat),o'= .cells vs t k∧∀(i:Nat) (b:Bool),tabL[i]?=some b→vs[i]?=some (Value.bool b)
section
variable {ρ ρ':Ren}
theorem ERel.mono (hl:ρ.le ρ'):∀{l:List Ent} {m:List MapEntry},ERel ρ l m→ERel ρ' l m
 |[],_,h=>h
 |_::_,_,⟨x,l',h1,h2,h3,h4,h5⟩=>⟨x,l',h1,VRel.mono hl _ _ h2,VRel.mono hl _ _ h3,h4,ERel.mono hl h5⟩
theorem DRel1.mono (hl:ρ.le ρ'):∀{e:ADef} {d:Deferred},DRel1 ρ e d→DRel1 ρ' e d
 | .fn _ _ _,_,⟨c,az,h1,h2,h3⟩=>⟨c,az,h1,LRel.mono hl _ _ h2,LRel.mono hl _ _ h3⟩
 | .mark _,_,⟨p,h1,h2⟩=>⟨p,hl _ _ h1,h2⟩
theorem DRel.mono (hl:ρ.le ρ'):∀{l:List ADef} {m:List Deferred},DRel ρ l m→DRel ρ' l m
 |[],_,h=>h
 |_::_,_,⟨x,l',h1,h2,h3⟩=>⟨x,l',h1,h2.mono hl,DRel.mono hl h3⟩
theorem DRel.append:∀{l m:List ADef} {l' m':List Deferred},DRel ρ l l'→DRel ρ m m'→DRel ρ (l++m) (l'++m')
 |[],_,_,_,h,h'=>by rw [show _=[] from h];exact h'
 |_::_,_,_,_,⟨x,k,h1,h2,h3⟩,h'=>by subst h1;exact ⟨x,_,rfl,h2,DRel.append h3 h'⟩
theorem TRel.mono (hl:ρ.le ρ') {t:Tr AV} {n:Nat} {tmps:Array Value} (h:TRel ρ t n tmps):TRel ρ' t n tmps:=⟨h.1,fun k=>VRel.mono hl _ _ (h.2 k)⟩
theorem RowR.mono (hl:ρ.le ρ') {p:Nat × Nat × Nat} {e:TypeId} {cs:List AV} {o:Obj} (h:RowR ρ p e cs o):RowR ρ' p e cs o:=by
 obtain ⟨vs,kn,jk,h1,h2,h3,h4⟩:=h
 exact ⟨vs,kn,jk,h1,h2,h3,CRel.mono hl _ _ h4⟩
theorem IterM.mono (hl:ρ.le ρ') {m m':Option Nat} (h:IterM ρ m m'):IterM ρ' m m':=by
 cases m with
 |none=>exact h
 |some n=>obtain ⟨q,h1,h2⟩:=h;exact ⟨q,hl _ _ h1,h2⟩
theorem DefsR.mono (hl:ρ.le ρ') {ds:Option (List ADef)} {d:Option (List Deferred)} (h:DefsR ρ ds d):DefsR ρ' ds d:=by
 cases ds with
 |none=>exact h
 |some n=>obtain ⟨q,h1,h2⟩:=h;exact ⟨q,h1,h2.mono hl⟩
theorem LoopOk.mono (hl:ρ.le ρ') {st:LoopState} {pe:Option Code} {t:Tr AV} {n:Nat} {ps:List Tmp} {az bd:Code} {dn:Nat} {r:Loop} (h:LoopOk ρ st pe t n ps az bd dn r):LoopOk ρ' st pe t n ps az bd dn r:=by
 obtain ⟨h1,h2,h3,h4,h5,h6,q,h7,h8⟩:=h
 exact ⟨h1,h2,h3.mono hl,h4,h5,h6,q,hl _ _ h7,h8⟩
theorem ORel.mono (hl:ρ.le ρ') {p:Nat × Nat × Nat} :∀{o:AObj} {ob:Obj},ORel ρ p o ob→ORel ρ' p o ob
 | .row _ _,_,h=>RowR.mono hl h
 | .map _ _,_,⟨es,h1,h2⟩=>⟨es,h1,h2.mono hl⟩
 | .iter _ _ _ _,_,⟨m,h1,h2,h3⟩=>⟨m,h1,h2.mono hl,h3⟩
 | .siter _ _,_,h=>h
 | .loop _ _ _ _ _ _ _ _,_,⟨r,h1,h2⟩=>⟨r,h1,h2.mono hl⟩
 | .defs _,_,⟨d,h1,h2⟩=>⟨d,h1,h2.mono hl⟩
 | .glob _ _,_,h=>h
end
structure WRel (ρ:Ren) (h:Tr AObj) (w:World):Prop where
 at_:∀n o,h.get n=some o→∃p ob,ρ n=some p∧w.heap[p.1]?=some ob∧ORel ρ p o ob
 inj:∀n m p q,(h.get n).isSome=true→(h.get m).isSome=true→ρ n=some p→ρ m=some q→p.1=q.1→n=m
def Own (h:Tr AObj) (ρ:Ren) (q:Nat):Prop:=∃n p,(h.get n).isSome=true∧ρ n=some p∧p.1=q
structure Stp (s s':St) (ρ ρ':Ren) (w w':World):Prop where
 ext:∀n,¬(s.c≤n∧n<s'.c)→ρ' n=ρ n
 le:ρ.le ρ'
 os:w'.os=w.os
 tape:w'.tape=w.tape
 output:w'.output=w.output
 size:w.heap.size≤w'.heap.size
 block:∀q,q<w.heap.size→¬Own s.h ρ q→w'.heap[q]?=w.heap[q]?
 own:∀q,Own s'.h ρ' q→Own s.h ρ q∨w.heap.size≤q
def FreshN (ρ:Ren) (c c':Nat):Prop:=∀n,c≤n→n<c'→ρ n=none
section
variable {s s' s1:St} {ρ ρ' ρ1:Ren} {w w' w1:World}
theorem Stp.alike (h:Alike s s'):Stp s s' ρ ρ w w:=
 ⟨fun _ _=>rfl,Ren.le_refl _,rfl,rfl,rfl,Nat.le_refl _,fun _ _ _=>rfl,fun q hq=> .inl (by rw [h.1] at hq;exact hq)⟩
theorem Stp.trans (h:Stp s s1 ρ ρ1 w w1) (h':Stp s1 s' ρ1 ρ' w1 w') (hc:s.c≤s1.c) (hc':s1.c≤s'.c):Stp s s' ρ ρ' w w':=by
 refine ⟨fun n hn=>?_,Ren.le_trans h.le h'.le,h'.os.trans h.os,h'.tape.trans h.tape,h'.output.trans h.output,Nat.le_trans h.size h'.size,fun q hq ho=>?_,fun q hq=>?_⟩
 ·rw [h'.ext n (by omega),h.ext n (by omega)]
 ·rw [h'.block q (Nat.lt_of_lt_of_le hq h.size) (fun h1=>?_),h.block q hq ho]
  rcases h.own q h1 with h2|h2
  ·exact ho h2
  ·omega
 ·rcases h'.own q hq with h1|h1
  ·exact h.own q h1
  ·exact .inr (Nat.le_trans h.size h1)
theorem Alike.stp (h:Alike s s1) (h':Stp s1 s' ρ ρ' w w'):Stp s s' ρ ρ' w w':=by
 obtain ⟨h1,h2⟩:=h
 exact ⟨fun n hn=>h'.ext n (by rw [h2];exact hn),h'.le,h'.os,h'.tape,h'.output,h'.size,fun q hq ho=>h'.block q hq (by rw [h1];exact ho),fun q hq=>by have:=h'.own q hq;rwa [h1] at this⟩
theorem Stp.thenAlike (h:Stp s s1 ρ ρ' w w') (h':Alike s1 s'):Stp s s' ρ ρ' w w':=by
 obtain ⟨h1,h2⟩:=h'
 exact ⟨fun n hn=>h.ext n (by rw [← h2];exact hn),h.le,h.os,h.tape,h.output,h.size,h.block,fun q hq=>h.own q (by rw [← h1];exact hq)⟩
theorem FreshN.sub {c c' d d':Nat} (h:FreshN ρ c c') (h1:c≤d) (h2:d'≤c'):FreshN ρ d d':=fun n a b=>h n (by omega) (by omega)
theorem FreshN.step {c':Nat} (h:FreshN ρ s.c c') (hs:Stp s s1 ρ ρ1 w w1) (hc:s.c≤s1.c):FreshN ρ1 s1.c c':=fun n a b=>by
 rw [hs.ext n (by omega)]
 exact h n (by omega) b
theorem WRel.heap (h:WRel ρ s.h w) (he:w'.heap=w.heap):WRel ρ s.h w':=⟨fun n o hn=>by rw [he];exact h.at_ n o hn,h.inj⟩
theorem WRel.alike (h:WRel ρ s.h w) (ha:Alike s s'):WRel ρ s'.h w:=by rw [ha.1];exact h
theorem WRel.lt (h:WRel ρ s.h w) {n:Nat} {p:Nat × Nat × Nat} (hn:(s.h.get n).isSome=true) (hp:ρ n=some p):p.1<w.heap.size:=by
 obtain ⟨o,ho⟩:=Option.isSome_iff_exists.1 hn
 obtain ⟨p',ob,h1,h2,_⟩:=h.at_ n o ho
 rw [hp] at h1
 injection h1 with h1
 subst h1
 exact (Array.getElem?_eq_some_iff.1 h2).1
def Ren.put (ρ:Ren) (n:Nat) (p:Nat × Nat × Nat):Ren:=fun m=>if m=n then some p else ρ m
theorem Ren.put_same (ρ:Ren) (n:Nat) (p:Nat × Nat × Nat):ρ.put n p n=some p:=if_pos rfl
theorem Ren.put_le {ρ:Ren} {n:Nat} (h:ρ n=none) (p:Nat × Nat × Nat):ρ.le (ρ.put n p):=fun m q hq=>by
 unfold Ren.put
 by_cases hm:m=n
 ·subst hm;rw [h] at hq;cases hq
 ·rw [if_neg hm];exact hq
theorem get_alloc_new (w:World) (ob:Obj):(w.alloc ob).heap[w.heap.size]?=some ob:=heap_alloc_new w ob
theorem get_alloc_old (w:World) (ob:Obj) {q:Nat} (h:q<w.heap.size):(w.alloc ob).heap[q]?=w.heap[q]?:=by
 show (w.heap.push ob)[q]? =_
 rw [Array.getElem?_push,if_neg (by omega)]
theorem new_rel {o:AObj} {ob:Obj} {κ:Nat} (h:WRel ρ s.h w) (hf:ρ s.c=none) (hc:s'.h=s.h.put s.c (some o)) (hc':s'.c=s.c+1)
  (ho:ORel (ρ.put s.c (w.heap.size,0,κ)) (w.heap.size,0,κ) o ob):
  WRel (ρ.put s.c (w.heap.size,0,κ)) s'.h (w.alloc ob)∧Stp s s' ρ (ρ.put s.c (w.heap.size,0,κ)) w (w.alloc ob):=by
 have hle:=Ren.put_le hf (w.heap.size,0,κ)
 have hne:∀{m},m≠s.c→ρ.put s.c (w.heap.size,0,κ) m=ρ m:=fun hm=>if_neg hm
 refine ⟨⟨fun n q hq=>?_,fun n m p q hn hm hp hq he=>?_⟩,⟨fun n hn=>?_,hle,rfl,rfl,rfl,by simp,fun q hq _=>get_alloc_old w ob hq,fun q hq=>?_⟩⟩
 ·rw [hc,Tr.get_put] at hq
  by_cases hn:n=s.c
  ·subst hn
   rw [if_pos rfl] at hq
   injection hq with hq
   subst hq
   exact ⟨_,ob,Ren.put_same _ _ _,get_alloc_new w ob,ho⟩
  ·rw [if_neg hn] at hq
   obtain ⟨p,ob',h1,h2,h3⟩:=h.at_ n q hq
   exact ⟨p,ob',by rw [hne hn];exact h1,by rw [get_alloc_old w ob (Array.getElem?_eq_some_iff.1 h2).1];exact h2,h3.mono hle⟩
 ·rw [hc,Tr.get_put] at hn hm
  by_cases h1:n=s.c
  ·by_cases h2:m=s.c
   ·rw [h1,h2]
   ·exfalso
    rw [if_neg h2] at hm
    rw [hne h2] at hq
    rw [h1,Ren.put_same] at hp
    injection hp with hp
    have:=h.lt hm hq
    rw [← he, ← hp] at this
    simp at this
  ·rw [if_neg h1] at hn
   rw [hne h1] at hp
   by_cases h2:m=s.c
   ·exfalso
    rw [h2,Ren.put_same] at hq
    injection hq with hq
    have:=h.lt hn hp
    rw [he, ← hq] at this
    simp at this
   ·rw [if_neg h2] at hm
    rw [hne h2] at hq
    exact h.inj n m p q hn hm hp hq he
 ·exact hne (by omega)
 ·obtain ⟨n,p,h1,h2,h3⟩:=hq
  rw [hc,Tr.get_put] at h1
  by_cases hn:n=s.c
  ·subst hn
   rw [Ren.put_same] at h2
   injection h2 with h2
   subst h2
   exact .inr (by rw [← h3];exact Nat.le_refl _)
  ·rw [if_neg hn] at h1
   rw [hne hn] at h2
   exact .inl ⟨n,p,h1,h2,h3⟩
structure Only (b:Nat) (w w':World):Prop where
 os:w'.os=w.os
 tape:w'.tape=w.tape
 output:w'.output=w.output
 size:w'.heap.size=w.heap.size
 block:∀q,q≠b→w'.heap[q]?=w.heap[q]?
theorem set_rel {o:AObj} {ob:Obj} {n:Nat} {p:Nat × Nat × Nat} (h:WRel ρ s.h w) (hn:(s.h.get n).isSome=true) (hp:ρ n=some p) (hc:s'.h=s.h.put n (some o))
  (hw:Only p.1 w w') (hob:w'.heap[p.1]?=some ob) (ho:ORel ρ p o ob):WRel ρ s'.h w'∧Stp s s' ρ ρ w w':=by
 refine ⟨⟨fun m q hq=>?_,fun m m' x y h1 h2 h3 h4 h5=>?_⟩,⟨fun _ _=>rfl,Ren.le_refl _,hw.os,hw.tape,hw.output,by rw [hw.size];exact Nat.le_refl _,fun q hq hno=>hw.block q (fun e=>hno ⟨n,p,hn,hp,e.symm⟩),fun q hq=> .inl ?_⟩⟩
 ·rw [hc,Tr.get_put] at hq
  by_cases hm:m=n
  ·subst hm
   rw [if_pos rfl] at hq
   injection hq with hq
   subst hq
   exact ⟨p,ob,hp,hob,ho⟩
  ·rw [if_neg hm] at hq
   obtain ⟨x,ob',h1,h2,h3⟩:=h.at_ m q hq
   refine ⟨x,ob',h1,?_,h3⟩
   rw [hw.block x.1 (fun e=>hm (h.inj m n x p (by rw [hq];rfl) hn h1 hp e))]
   exact h2
 ·have dom:∀{m},(s'.h.get m).isSome=true→(s.h.get m).isSome=true:=by
   intro m hm
   rw [hc,Tr.get_put] at hm
   by_cases e:m=n
   ·subst e;exact hn
   ·rwa [if_neg e] at hm
  exact h.inj m m' x y (dom h1) (dom h2) h3 h4 h5
 ·obtain ⟨m,x,h1,h2,h3⟩:=hq
  rw [hc,Tr.get_put] at h1
  by_cases e:m=n
  ·subst e;exact ⟨m,x,hn,h2,h3⟩
  ·rw [if_neg e] at h1
   exact ⟨m,x,h1,h2,h3⟩
theorem move_rel {o:AObj} {ob:Obj} {n:Nat} {p p':Nat × Nat × Nat} (h:WRel ρ s.h w) (hn:(s.h.get n).isSome=true) (hp:ρ n=some p) (hf:ρ s.c=none) (hb:p'.1=p.1)
  (hc:s'.h=(s.h.put n none).put s.c (some o)) (hc':s'.c=s.c+1) (hw:Only p.1 w w') (hob:w'.heap[p.1]?=some ob) (ho:ORel (ρ.put s.c p') p' o ob):
  WRel (ρ.put s.c p') s'.h w'∧Stp s s' ρ (ρ.put s.c p') w w':=by
 have hle:=Ren.put_le hf p'
 have hne:∀{m},m≠s.c→ρ.put s.c p' m=ρ m:=fun hm=>if_neg hm
 have hnc:n≠s.c:=fun e=>by rw [e,hf] at hp;cases hp
 have dom:∀{m},(s'.h.get m).isSome=true→m=s.c∨(m≠n∧(s.h.get m).isSome=true):=by
  intro m hm
  rw [hc,Tr.get_put] at hm
  by_cases e:m=s.c
  ·exact .inl e
  ·rw [if_neg e,Tr.get_put] at hm
   by_cases e2:m=n
   ·rw [if_pos e2] at hm;cases hm
   ·rw [if_neg e2] at hm
    exact .inr ⟨e2,hm⟩
 refine ⟨⟨fun m q hq=>?_,fun m m' x y h1 h2 h3 h4 h5=>?_⟩,⟨fun m hm=>hne (by omega),hle,hw.os,hw.tape,hw.output,by rw [hw.size];exact Nat.le_refl _,fun q hq hno=>hw.block q (fun e=>hno ⟨n,p,hn,hp,e.symm⟩),fun q hq=> .inl ?_⟩⟩
 ·by_cases hm:m=s.c
  ·subst hm
   rw [hc,Tr.get_put,if_pos rfl] at hq
   injection hq with hq
   subst hq
   exact ⟨p',ob,Ren.put_same _ _ _,by rw [hb];exact hob,ho⟩
  ·rcases dom (m:=m) (by rw [hq];rfl) with e|⟨e,hd⟩
   ·exact absurd e hm
   ·rw [hc,Tr.get_put,if_neg hm,Tr.get_put,if_neg e] at hq
    obtain ⟨x,ob',h1,h2,h3⟩:=h.at_ m q hq
    refine ⟨x,ob',by rw [hne hm];exact h1,?_,h3.mono hle⟩
    rw [hw.block x.1 (fun e'=>e (h.inj m n x p hd hn h1 hp e'))]
    exact h2
 ·rcases dom h1 with e1|⟨e1,d1⟩<;>rcases dom h2 with e2|⟨e2,d2⟩
  ·rw [e1,e2]
  ·exfalso
   subst e1
   rw [Ren.put_same] at h3
   injection h3 with h3
   subst h3
   have hmc:m'≠s.c:=fun e=>by rw [e] at d2;exact absurd (h.at_ s.c _ (Option.isSome_iff_exists.1 d2).choose_spec) (fun ⟨q,_,a,_⟩=>by rw [hf] at a;cases a)
   rw [hne hmc] at h4
   exact e2 (h.inj m' n y p d2 hn h4 hp (h5.symm.trans hb))
  ·exfalso
   subst e2
   rw [Ren.put_same] at h4
   injection h4 with h4
   subst h4
   have hmc:m≠s.c:=fun e=>by rw [e] at d1;exact absurd (h.at_ s.c _ (Option.isSome_iff_exists.1 d1).choose_spec) (fun ⟨q,_,a,_⟩=>by rw [hf] at a;cases a)
   rw [hne hmc] at h3
   exact e1 (h.inj m n x p d1 hn h3 hp (h5.trans hb))
  ·have c1:m≠s.c:=fun e=>by rw [e] at d1;exact absurd (h.at_ s.c _ (Option.isSome_iff_exists.1 d1).choose_spec) (fun ⟨q,_,a,_⟩=>by rw [hf] at a;cases a)
   have c2:m'≠s.c:=fun e=>by rw [e] at d2;exact absurd (h.at_ s.c _ (Option.isSome_iff_exists.1 d2).choose_spec) (fun ⟨q,_,a,_⟩=>by rw [hf] at a;cases a)
   rw [hne c1] at h3
   rw [hne c2] at h4
   exact h.inj m m' x y d1 d2 h3 h4 h5
 ·obtain ⟨m,x,h1,h2,h3⟩:=hq
  rcases dom h1 with e1|⟨e1,d1⟩
  ·subst e1
   rw [Ren.put_same] at h2
   injection h2 with h2
   subst h2
   exact ⟨n,p,hn,hp,by rw [← h3,hb]⟩
  ·have c1:m≠s.c:=fun e=>by rw [e] at d1;exact absurd (h.at_ s.c _ (Option.isSome_iff_exists.1 d1).choose_spec) (fun ⟨q,_,a,_⟩=>by rw [hf] at a;cases a)
   rw [hne c1] at h2
   exact ⟨m,x,d1,h2,h3⟩
theorem drop_rel {n:Nat} (h:WRel ρ s.h w) (hc:s'.h=s.h.put n none):WRel ρ s'.h w∧Stp s s' ρ ρ w w:=by
 have dom:∀{m},(s'.h.get m).isSome=true→m≠n∧(s.h.get m).isSome=true:=by
  intro m hm
  rw [hc,Tr.get_put] at hm
  by_cases e:m=n
  ·rw [if_pos e] at hm;cases hm
  ·rw [if_neg e] at hm;exact ⟨e,hm⟩
 refine ⟨⟨fun m q hq=>?_,fun m m' x y h1 h2 h3 h4 h5=>h.inj m m' x y (dom h1).2 (dom h2).2 h3 h4 h5⟩,⟨fun _ _=>rfl,Ren.le_refl _,rfl,rfl,rfl,Nat.le_refl _,fun _ _ _=>rfl,fun q hq=> .inl ?_⟩⟩
 ·have:=dom (m:=m) (by rw [hq];rfl)
  rw [hc,Tr.get_put,if_neg this.1] at hq
  exact h.at_ m q hq
 ·obtain ⟨m,x,h1,h2,h3⟩:=hq
  exact ⟨m,x,(dom h1).2,h2,h3⟩
theorem drew_rel (h:WRel ρ s.h w):WRel ρ s.h w.drew∧Stp s s ρ ρ w w.drew:=
 ⟨⟨h.at_,h.inj⟩,⟨fun _ _=>rfl,Ren.le_refl _,rfl,rfl,rfl,Nat.le_refl _,fun _ _ _=>rfl,fun _ hq=> .inl hq⟩⟩
end
end Go.Proofs.YtnkjkgmohmcobaaGreatDoor.Vm
namespace Go.Proofs.YtnkjkgmohmcobaaGreatDoor.Vm
open Go
def DescR (P:Program):TyD→TypeDesc→Prop
 | .int k,d=>d= .int k
 | .bool,d=>d= .bool
 | .str,d=>d= .string
 | .ptr e,d=>d= .pointer e
 | .slice e,d=>d= .slice e
 | .arr n e,d=>d= .array n e
 | .struct fs,d=>∃l:Array Field,d= .struct l∧l.toList.map (fun f=>(f.offset,f.type))=fs∧l.toList.all (fun f=>(P.info? f.type).isSome)=true
 | .map k e,d=>d= .map k e
 | .fn,d=>∃a b c,d= .func a b c
 | .ifc,d=>∃m,d= .interface m
 | .other,_=>True
def FlatOK (P:Program) (t:TypeId) (arr:Bool) (size:Nat) (zc:List AV):Prop:=
 P.eqGuardType P.depth t=false∧∀(ρ:Ren) (a b:List AV) (xs ys:Array Value) (r:Bool) (w:World),shapeB arr size zc a=true→eqFlat arr a b=some r→CRel ρ a xs.toList→CRel ρ b ys.toList→(Op.equalIn 10000 t (.agg xs) (.agg ys)).run P w= .ok r w∧(arr=false→∀e,(Instr.checkKey e 10000 t (.agg xs)).run P w= .ok () w)
def TyOK (P:Program) (t:TypeId) (i:TyI):Prop:=
 ∃inf d z,P.info? t=some inf∧P.underlying t=some d∧inf.size=i.size∧inf.bytes=i.bytes∧inf.zero=some z∧(∀ρ,VRel ρ i.zero z)∧(∀ρ,CRel ρ i.zc z.cells.toList)∧DescR P i.desc d∧i.agg=d.isRow∧(i.flat=true→FlatOK P t (isArrD i.desc) i.size i.zc)∧z.cells.size=i.size
structure EnvOK (E:Env) (P:Program):Prop where
 ty:∀t i,E.ty.get t=some i→TyOK P t i
 fn:∀f fn,E.fn.get f=some fn→P.funcs[f]?=some fn∧∀args w,(callFunc f args).run P w= .ok (.enter f args) w
 mixed:P.follows .mixedOrders=true
def Does {β:Type} (P:Program) (s s':St) (ρ:Ren) (w:World) (sem:Sem β) (R:Ren→β→Prop):Prop:=
 FreshN ρ s.c s'.c→∃ρ' w' u,sem.run P w= .ok u w'∧R ρ' u∧WRel ρ' s'.h w'∧Stp s s' ρ ρ' w w'
section
variable {P:Program} {s s' s1:St} {ρ ρ':Ren} {w w':World} {β:Type}
theorem Does.read {sem:Sem β} {R:Ren→β→Prop} {u:β} (ha:Alike s s') (hw:WRel ρ s.h w) (hr:sem.run P w= .ok u w) (hR:R ρ u):Does P s s' ρ w sem R:=
 fun _=>⟨ρ,w,u,hr,hR,hw.alike ha,Stp.alike ha⟩
theorem Does.after {sem:Sem β} {R:Ren→β→Prop} (ha:Alike s s1) (h:Does P s1 s' ρ w sem R):Does P s s' ρ w sem R:=fun hf=>by
 obtain ⟨ρ',w',u,h1,h2,h3,h4⟩:=h (by rw [ha.2];exact hf)
 exact ⟨ρ',w',u,h1,h2,h3,ha.stp h4⟩
theorem addrA_rel {a:AV} {p:Nat × Nat} {u:Value} (h:addrA a=some p) (hu:VRel ρ a u):∃q,ρ p.1=some q∧u= .pointer (some ⟨q.1,q.2.1+p.2,none⟩):=by
 cases a<;>simp only [addrA,Option.some.injEq,reduceCtorEq] at h
 subst h
 exact hu
theorem intA_rel {a:AV} {p:IntKind × Int} {u:Value} (h:intA a=some p) (hu:VRel ρ a u):u= .int p.1 p.2:=by
 cases a<;>simp only [intA,Option.some.injEq,reduceCtorEq] at h
 subst h
 exact hu
theorem butA_rel {a:AV} {p:IntKind × List Int} {u:Value} (h:butA a=some p) (hu:VRel ρ a u):∃n,u= .int p.1 n∧n∉p.2:=by
 cases a<;>simp only [butA,Option.some.injEq,reduceCtorEq] at h
 subst h
 exact hu
theorem inI_mem {n:Int} :∀{l:List Int},inI n l=true→n∈l
 |[],h=>by cases h
 |m::r,h=>by
  rw [inI,Bool.or_eq_true] at h
  rcases h with h|h
  ·exact List.mem_cons.2 (.inl (eq_of_beq h).symm)
  ·exact List.mem_cons.2 (.inr (inI_mem h))
theorem neI_rel {a b:AV} {u v:Value} {r:Bool} (h:neI a b=some r) (hu:VRel ρ a u) (hv:VRel ρ b v):r=false∧∃k m n,u= .int k m∧v= .int k n∧(m==n)=false:=by
 unfold neI at h
 split at h
 ·rename_i p q hp hq
  by_cases hpq:p.1=q.1
  ·rw [if_pos hpq] at h
   cases hi:inI q.2 p.2 with
   |false=>rw [hi] at h;cases h
   |true=>
    rw [hi] at h
    injection h with h
    obtain ⟨n,rfl,hn⟩:=butA_rel hp hu
    exact ⟨h.symm,p.1,n,q.2,rfl,by rw [hpq];exact intA_rel hq hv,beq_eq_false_iff_ne.2 fun e=>hn (e▸inI_mem hi)⟩
  ·rw [if_neg hpq] at h;cases h
 ·split at h
  ·rename_i p q hp hq
   by_cases hpq:p.1=q.1
   ·rw [if_pos hpq] at h
    cases hi:inI p.2 q.2 with
    |false=>rw [hi] at h;cases h
    |true=>
     rw [hi] at h
     injection h with h
     obtain ⟨n,rfl,hn⟩:=butA_rel hq hv
     exact ⟨h.symm,p.1,p.2,n,intA_rel hp hu,by rw [hpq],beq_eq_false_iff_ne.2 fun e=>hn (e▸inI_mem hi)⟩
   ·rw [if_neg hpq] at h;cases h
  ·cases h
theorem natA_rel {a:AV} {n:Nat} {u:Value} (h:natA a=some n) (hu:VRel ρ a u):∃k,u= .int k (n:Int):=by
 unfold natA at h
 cases hi:intA a with
 |none=>rw [hi] at h;cases h
 |some p=>
  rw [hi] at h
  simp only at h
  obtain ⟨k,m⟩:=p
  cases m with
  |ofNat m=>
   simp only [natOf,Option.some.injEq] at h
   subst h
   exact ⟨k,intA_rel hi hu⟩
  |negSucc m=>cases h
theorem boolA_rel {a:AV} {b:Bool} {u:Value} (h:boolA a=some b) (hu:VRel ρ a u):u= .bool b:=by
 cases a<;>simp only [boolA,Option.some.injEq,reduceCtorEq] at h
 subst h
 exact hu
theorem strA_rel {a:AV} {b:ByteArray} {u:Value} (h:strA a=some b) (hu:VRel ρ a u):u= .string b:=by
 cases a<;>simp only [strA,Option.some.injEq,reduceCtorEq] at h
 subst h
 exact hu
theorem aggA_rel {a:AV} {cs:List AV} {u:Value} (h:aggA a=some cs) (hu:VRel ρ a u):∃x:Array Value,u= .agg x∧CRel ρ cs x.toList:=by
 cases a<;>simp only [aggA,Option.some.injEq,reduceCtorEq] at h
 subst h
 exact hu
theorem tupA_rel {a:AV} {cs:List AV} {u:Value} (h:tupA a=some cs) (hu:VRel ρ a u):∃x:Array Value,u= .tuple x∧LRel ρ cs x.toList:=by
 cases a<;>simp only [tupA,Option.some.injEq,reduceCtorEq] at h
 subst h
 exact hu
theorem mapA_rel {a:AV} {m:Option Nat} {u:Value} (h:mapA a=some m) (hu:VRel ρ a u):(match m with|none=>u= .map none|some n=>∃p,ρ n=some p∧u= .map (some p.1)):=by
 cases a<;>simp only [mapA,Option.some.injEq,reduceCtorEq] at h<;>subst h<;>exact hu
def SlR (ρ:Ren) (k:SlK) (u:Value):Prop:=
 match k with
 | .nil=>u= .slice none 0 0
 | .empty=>∃a c,u= .slice (some a) 0 c
 | .some (.mk n off len cap es)=>∃p c,ρ n=some p∧u= .slice (some ⟨p.1,p.2.1+off,none⟩) len c∧len≤c∧capR cap c off es p.2.2
theorem slA_rel {a:AV} {k:SlK} {u:Value} (h:slA a=some k) (hu:VRel ρ a u):SlR ρ k u:=by
 cases a<;>simp only [slA,Option.some.injEq,reduceCtorEq] at h<;>subst h<;>exact hu
theorem constA_rel {v:Value} {a:AV} (h:constA v=some a):VRel ρ a v:=by
 unfold constA at h
 split at h<;>first|(simp only [Option.some.injEq] at h;subst h;rfl)|cases h
theorem rd_rel {T:Tr AV} {n:Nat} {x:Operand} {v:AV} {a:Act} (h:rd T (opd x) s= .ok v s') (hT:TRel ρ T n a.tmps):s'=s∧VRel ρ v (a.eval x):=by
 cases x with
 |tmp t=>
  simp only [rd,opd,Rs.ok.injEq] at h
  obtain ⟨rfl,rfl⟩:=h
  exact ⟨rfl,hT.2 t⟩
 |const c=>
  simp only [rd,opd] at h
  cases hc:constA c with
  |none=>rw [hc] at h;cases h
  |some b=>
   rw [hc] at h
   simp only [Rs.ok.injEq] at h
   obtain ⟨rfl,rfl⟩:=h
   exact ⟨rfl,constA_rel hc⟩
 |global g=>cases h
 |func f=>
  simp only [rd,opd,Rs.ok.injEq] at h
  obtain ⟨rfl,rfl⟩:=h
  exact ⟨rfl,#[],#[],rfl,by simp [LRel],by simp [LRel]⟩
theorem rds_rel {T:Tr AV} {n:Nat} {a:Act} (hT:TRel ρ T n a.tmps):∀{l:List Operand} {vs:List AV} {s s':St},rds T (opds l) s= .ok vs s'→s'=s∧LRel ρ vs (l.map a.eval)
 |[],vs,s,s',h=>by
  obtain ⟨rfl,rfl⟩:=M.pure_ok.1 h
  exact ⟨rfl,by simp [LRel]⟩
 |x::r,vs,s,s',h=>by
  unfold opds rds at h
  obtain ⟨v,s1,h1,h2⟩:=M.bind_ok.1 h
  obtain ⟨vs',s2,h3,h4⟩:=M.bind_ok.1 h2
  obtain ⟨rfl,rfl⟩:=M.pure_ok.1 h4
  obtain ⟨rfl,g1⟩:=rd_rel h1 hT
  obtain ⟨rfl,g2⟩:=rds_rel hT h3
  exact ⟨rfl,LRel.cons_iff.2 ⟨_,_,rfl,g1,g2⟩⟩
theorem WRel.row {n:Nat} {e:TypeId} {cs:List AV} {p:Nat × Nat × Nat} (hw:WRel ρ s.h w) (h:s.h.get n=some (.row e cs)) (hp:ρ n=some p):∃ob,w.heap[p.1]?=some ob∧RowR ρ p e cs ob:=by
 obtain ⟨q,ob,h1,h2,h3⟩:=hw.at_ n _ h
 rw [hp] at h1
 injection h1 with h1
 subst h1
 exact ⟨ob,h2,h3⟩
theorem row_range {p:Nat × Nat × Nat} {e:TypeId} {vs:Array Value} {known junk:List Value} (hb:w.heap[p.1]?=some (.cells vs e (0,0))) (hd:vs.toList.drop p.2.1=known++junk) (off k:Nat) (hk:off+k≤known.length):
  w.rangeAt p.1 (p.2.1+off) ((known.drop off).take k):=by
 intro j v hv
 have hj:j<k:=by
  have:=(List.getElem?_eq_some_iff.1 hv).1
  rw [List.length_take] at this
  omega
 rw [cell_of_row w p.1 _ vs e (0,0) hb]
 rw [List.getElem?_take,if_pos hj,List.getElem?_drop] at hv
 have h2:(known++junk)[off+j]?=some v:=by rw [List.getElem?_append_left (by omega)];exact hv
 rw [← hd,List.getElem?_drop,Array.getElem?_toList] at h2
 rwa [Nat.add_assoc]
theorem cells_one:∀{l:List AV} {us:List Value},CRel ρ l us→∀v∈us,v.oneCell'=true
 |[],us,h,v,hv=>by rw [CRel.nil_iff.1 h] at hv;cases hv
 |a::r,us,h,v,hv=>by
  obtain ⟨x,y,rfl,h2,h3⟩:=CRel.cons_iff.1 h
  rcases List.mem_append.1 hv with hv|hv
  ·cases hb:isB a with
   |some p=>
    rw [hb] at h2
    rw [h2.1] at hv
    obtain ⟨b,_,rfl⟩:=List.mem_map.1 hv
    rfl
   |none=>
    rw [hb] at h2
    obtain ⟨h4,u,rfl,h5⟩:=h2
    rw [List.mem_singleton] at hv
    subst hv
    exact (isOne_cells h4 h5).2
  ·exact cells_one h3 v hv
theorem part_load {p:Nat × Nat × Nat} {e t:TypeId} {cs l:List AV} {i:TyI} {off:Nat} {v:AV} {ob:Obj} (hi:TyOK P t i) (hb:w.heap[p.1]?=some ob) (hr:RowR ρ p e cs ob) (hl:loadC cs off i.size=some l) (hv:partA i.agg l s= .ok v s'):
  s'=s∧∃u,(loadVar t ⟨p.1,p.2.1+off,none⟩).run P w= .ok u w∧VRel ρ v u:=by
 obtain ⟨inf,d,z,h1,h2,h3,h4,h5,h6,h7,h8,h9,_⟩:=hi
 obtain ⟨vs,known,junk,rfl,g2,g3,g4⟩:=hr
 obtain ⟨f1,f2⟩:=loadC_rel hl g4
 have hrg:=row_range hb g3 off i.size f2
 have hlen:((known.drop off).take i.size).length=i.size:=by rw [List.length_take,List.length_drop];omega
 generalize (known.drop off).take i.size=us at*
 cases ha:i.agg with
 |true=>
  rw [ha] at hv
  simp only [partA,Rs.ok.injEq] at hv
  obtain ⟨rfl,rfl⟩:=hv
  exact ⟨rfl,_,run_loadVar_mid w p.1 _ t us d hrg h2 (by rw [← h9,ha]) (by rw [h1,Option.map_some,h3,hlen]),_,rfl,f1⟩
 |false=>
  rw [ha] at hv
  obtain ⟨h10,rfl⟩:=M.of_ok.1 hv
  obtain ⟨u,rfl,hu⟩:=oneA_rel h10 f1
  have hc:=hrg 0 u rfl
  refine ⟨rfl,u,?_,hu⟩
  have hag:(isAgg t).run P w= .ok false w:=by
   unfold isAgg
   rw [Sem.run_bind,run_underlying h2 w]
   rw [ha] at h9
   cases d<;>first|rfl|cases h9
  rw [Nat.add_zero] at hc
  simp only [loadVar,Sem.run_bind,hag,Result.andThen_ok,Bool.false_eq_true,if_false]
  simp only [load,Sem.run,hc]
theorem loadM_does {i:TyI} {t:TypeId} {a v:AV} {u:Value} (hi:TyOK P t i) (h:loadM i a s= .ok v s') (ha:VRel ρ a u) (hw:WRel ρ s.h w):Does P s s' ρ w (Instr.loadAt t u) (fun ρ r=>VRel ρ v r):=by
 unfold loadM loadI at h
 obtain ⟨p,s1,h1,h2⟩:=M.bind_ok.1 h
 obtain ⟨hp,rfl⟩:=M.of_ok.1 h1
 obtain ⟨q,s2,h3,h4⟩:=M.bind_ok.1 h2
 obtain ⟨g1,_,ha2⟩:=rowM_ok h3
 obtain ⟨l,s3,h5,h6⟩:=M.bind_ok.1 h4
 obtain ⟨hl,rfl⟩:=M.of_ok.1 h5
 obtain ⟨x,hx,rfl⟩:=addrA_rel hp ha
 obtain ⟨ob,hb,hr⟩:=hw.row g1 hx
 obtain ⟨rfl,r,hr1,hr2⟩:=part_load hi hb hr hl h6
 exact Does.read ha2 hw (by simp [Instr.loadAt,Instr.sureAddr,hr1]) hr2
theorem only_setCells (b:Nat):∀(vs:List Value) (o:Nat) (w:World),Only b w (w.setCells b o vs)
 |[],_,_=>⟨rfl,rfl,rfl,rfl,fun _ _=>rfl⟩
 |v::r,o,w=>by
  obtain ⟨h1,h2,h3,h4,h5⟩:=only_setCells b r (o+1) (w.setCell ⟨b,o,none⟩ v)
  refine ⟨h1,h2,h3,h4.trans (by simp [World.setCell]),fun q hq=>(h5 q hq).trans ?_⟩
  exact heap_setCell_other w ⟨b,o,none⟩ q v hq
theorem setCells_heap (b:Nat) (e:TypeId):∀(vs:List Value) (o:Nat) (w:World) (cs:Array Value),w.heap[b]?=some (.cells cs e (0,0))→o+vs.length≤cs.size→
  (w.setCells b o vs).heap[b]?=some (.cells (cs.toList.take o++(vs++cs.toList.drop (o+vs.length))).toArray e (0,0))
 |[],o,w,cs,h,_=>by
  simp only [World.setCells,List.length_nil,Nat.add_zero,List.nil_append,List.take_append_drop]
  exact h
 |v::r,o,w,cs,h,hle=>by
  have h1:(w.setCell ⟨b,o,none⟩ v).heap[b]?=some (.cells (cs.setIfInBounds o v) e (0,0)):=by
   simp [World.setCell,Array.getElem?_modify,h]
  rw [List.length_cons] at hle
  rw [World.setCells,setCells_heap b e r (o+1) _ _ h1 (by simpa using (by omega:o+1+r.length≤cs.size))]
  congr 2
  apply Array.ext'
  simp only [Array.toList_setIfInBounds,List.length_cons]
  have ho:o<cs.toList.length:=by simpa using (by omega:o<cs.size)
  rw [List.take_set,List.drop_set_of_lt (by omega),List.take_succ_eq_append_getElem ho,List.set_append_right _ _ (by rw [List.length_take];omega)]
  simp only [List.length_take,Nat.min_eq_left (Nat.le_of_lt ho),Nat.sub_self,List.set_cons_zero,List.append_assoc,List.cons_append,List.nil_append]
  rw [show o+1+r.length=o+(r.length+1) by omega]
theorem drop_splice {α:Type} (l:List α) (base off:Nat) (us known junk:List α) (hd:l.drop base=known++junk) (hk:off+us.length≤known.length) (hb:base≤l.length):
  (l.take (base+off)++(us++l.drop (base+off+us.length))).drop base=(known.take off++(us++known.drop (off+us.length)))++junk:=by
 have hl:l.length=base+known.length+junk.length:=by
  have:=congrArg List.length hd
  rw [List.length_drop,List.length_append] at this
  omega
 have e1:l=l.take base++(known++junk):=by rw [← hd,List.take_append_drop]
 have hbl:(l.take base).length=base:=by rw [List.length_take];omega
 generalize l.take base=pre at e1 hbl
 subst e1
 rw [← hbl,List.take_length_add_append,Nat.add_assoc,List.drop_length_add_append,List.append_assoc,List.drop_left,List.take_append_of_le_length (by omega),List.drop_append_of_le_length (by omega)]
 simp only [List.append_assoc]
theorem row_store {p:Nat × Nat × Nat} {e:TypeId} {cs cs' new:List AV} {off k:Nat} {us:List Value} {ob:Obj} (hb:w.heap[p.1]?=some ob) (hr:RowR ρ p e cs ob) (hs:storeC cs off k new=some cs') (hn:CRel ρ new us) (hk:us.length=k):
  w.there p.1 (p.2.1+off) us.length∧∃ob',(w.setCells p.1 (p.2.1+off) us).heap[p.1]?=some ob'∧RowR ρ p e cs' ob':=by
 obtain ⟨vs,known,junk,rfl,g2,g3,g4⟩:=hr
 obtain ⟨f1,f2⟩:=storeC_rel hs g4 hn
 have hle:p.2.1≤vs.toList.length:=by simp;omega
 have hsz:known.length+junk.length=p.2.2:=by
  have:=congrArg List.length g3
  rw [List.length_drop,List.length_append,Array.length_toList,g2] at this
  omega
 refine ⟨fun j hj=>?_,_,setCells_heap p.1 e us _ w vs hb (by omega),?_⟩
 ·rw [cell_of_row w p.1 _ vs e (0,0) hb,frozen_of_row w p.1 _ vs e hb,Array.getElem?_eq_getElem (by omega)]
  exact ⟨rfl,rfl⟩
 ·refine ⟨_,_,junk,rfl,?_,drop_splice vs.toList p.2.1 off us known junk g3 (by omega) hle,by rw [hk];exact f1⟩
  simp only [List.size_toArray,List.length_append,List.length_take,List.length_drop,Array.length_toList]
  omega
theorem storeM_does {i:TyI} {t:TypeId} {a v:AV} {u x:Value} {y:Unit} (hi:TyOK P t i) (h:storeM i a v s= .ok y s') (ha:VRel ρ a u) (hv:VRel ρ v x) (hw:WRel ρ s.h w):Does P s s' ρ w (Instr.storeAt t u x) (fun _ _=>True):=by
 obtain ⟨inf,d,z,i1,i2,i3,_⟩:=hi
 unfold storeM at h
 obtain ⟨p,s1,h1,h2⟩:=M.bind_ok.1 h
 obtain ⟨hp,rfl⟩:=M.of_ok.1 h1
 obtain ⟨q,s2,h3,h4⟩:=M.bind_ok.1 h2
 obtain ⟨g1,_,ha2⟩:=rowM_ok h3
 obtain ⟨new,s3,h5,h6⟩:=M.bind_ok.1 h4
 obtain ⟨hn,rfl⟩:=M.of_ok.1 h5
 cases hl:Nat.beq (lenC new) i.size with
 |false=>rw [bif_false _ _ hl] at h6;exact (M.fail_ok.1 h6).elim
 |true=>
  rw [bif_true _ _ hl] at h6
  obtain ⟨cs,s4,h7,h8⟩:=M.bind_ok.1 h6
  obtain ⟨hst,rfl⟩:=M.of_ok.1 h7
  obtain ⟨_,hs'⟩:=setM_ok.1 h8
  obtain ⟨b,hx,rfl⟩:=addrA_rel hp ha
  have hc:=cellsO_rel hn hv
  have hln:x.cells.toList.length=i.size:=by rw [CRel.length _ hc,beq_true.1 hl]
  have hw2:=hw.alike ha2
  obtain ⟨ob,hb,hr⟩:=hw2.row (by rw [ha2.1];exact g1) hx
  obtain ⟨hth,ob',k1,k2⟩:=row_store hb hr hst hc hln
  refine Does.after ha2 (fun _=>?_)
  have:=set_rel (s':=s') (o:= .row q.1 cs) hw2 (by rw [ha2.1,g1];rfl) hx (by rw [hs'];rfl) (only_setCells b.1 x.cells.toList (b.2.1+p.2) w) k1 k2
  refine ⟨ρ,_,(),?_,trivial,this.1,this.2⟩
  have hrun:=run_storeCells_cells (P:=P) b.1 (b.2.1+p.2) x.cells.toList 0 w (fun j hj=>by simpa using (hth j hj).1) (fun j hj=>by simpa using (hth j hj).2) (cells_one hc)
  have hz:x.cells.size=inf.size:=by rw [← Array.length_toList,hln,i3]
  simp only [Instr.storeAt,Instr.sureAddr,Sem.run_bind,Sem.run_pure,Result.andThen_ok,storeVar,sizeOf,typeInfo,run_program,i1,hz]
  simpa using hrun
theorem newRow_does {e:TypeId} {cs:List AV} {n:Nat} {us:Array Value} (h:newM (.row e cs) s= .ok n s') (hc:CRel ρ cs us.toList) (hw:WRel ρ s.h w):Does P s s' ρ w (newRow e us) (fun ρ a=>∃b,ρ n=some (b,0,us.size)∧a=⟨b,0,none⟩):=by
 obtain ⟨rfl,hs'⟩:=newM_ok.1 h
 intro hf
 have hfr:ρ s.c=none:=hf s.c (Nat.le_refl _) (by rw [hs'];exact Nat.lt_succ_self _)
 have:=new_rel (s':=s') (o:= .row e cs) (ob:= .cells us e (0,0)) (κ:=us.size) hw hfr (by rw [hs'];rfl) (by rw [hs'];rfl) ⟨us,us.toList,[],rfl,by simp,by simp,CRel.mono (Ren.put_le hfr _) _ _ hc⟩
 refine ⟨_,_,_,?_,⟨w.heap.size,Ren.put_same _ _ _,rfl⟩,this.1,this.2⟩
 simp [newRow,newObj,Sem.run,World.alloc_eq]
end
end Go.Proofs.YtnkjkgmohmcobaaGreatDoor.Vm
namespace Go.Proofs.YtnkjkgmohmcobaaGreatDoor.Vm
open Go
section
variable {P:Program} {s s' s1:St} {ρ ρ':Ren} {w w':World} {t e:TypeId} {i j:TyI}
theorem TyOK.sizeOf (hi:TyOK P t i) (w:World):(sizeOf t).run P w= .ok i.size w:=by
 obtain ⟨inf,d,z,h1,h2,h3,_⟩:=hi
 simp [Go.sizeOf,Go.typeInfo,run_program,h1,h3]
theorem TyOK.zeroValue (hi:TyOK P t i):∃z,(∀w,(zeroValue t).run P w= .ok z w)∧(∀ρ,VRel ρ i.zero z)∧(∀ρ,CRel ρ i.zc z.cells.toList)∧z.cells.size=i.size:=by
 obtain ⟨inf,d,z,h1,h2,h3,h4,h5,h6,h7,_,_,_,h8⟩:=hi
 exact ⟨z,fun w=>by simp [Go.zeroValue,Go.typeInfo,run_program,h1,h5],h6,h7,h8⟩
theorem TyOK.und (hi:TyOK P t i):∃d,P.underlying t=some d∧(∀w,(underlying t).run P w= .ok d w)∧DescR P i.desc d∧i.agg=d.isRow:=by
 obtain ⟨inf,d,z,h1,h2,h3,h4,h5,h6,h7,h8,h9,_⟩:=hi
 exact ⟨d,h2,run_underlying h2,h8,h9⟩
theorem TyOK.isAgg (hi:TyOK P t i) (w:World):(isAgg t).run P w= .ok i.agg w:=by
 obtain ⟨d,_,h1,_,h3⟩:=hi.und
 unfold Go.isAgg
 rw [Sem.run_bind,h1 w,h3]
 cases d<;>rfl
theorem TyOK.slice (hi:TyOK P t i) (h:sliceD i.desc=some e):P.underlying t=some (.slice e):=by
 obtain ⟨d,h0,_,h2,_⟩:=hi.und
 rw [h0]
 cases hd:i.desc<;>rw [hd] at h h2<;>simp only [sliceD,Option.some.injEq,reduceCtorEq] at h
 subst h
 rw [show d=_ from h2]
theorem TyOK.arr {q:Nat × TypeId} (hi:TyOK P t i) (h:arrD i.desc=some q):P.underlying t=some (.array q.1 q.2):=by
 obtain ⟨d,h0,_,h2,_⟩:=hi.und
 rw [h0]
 cases hd:i.desc<;>rw [hd] at h h2<;>simp only [arrD,Option.some.injEq,reduceCtorEq] at h
 subst h
 rw [show d=_ from h2]
theorem TyOK.map {q:TypeId × TypeId} (hi:TyOK P t i) (h:mapD i.desc=some q):P.underlying t=some (.map q.1 q.2):=by
 obtain ⟨d,h0,_,h2,_⟩:=hi.und
 rw [h0]
 cases hd:i.desc<;>rw [hd] at h h2<;>simp only [mapD,Option.some.injEq,reduceCtorEq] at h
 subst h
 rw [show d=_ from h2]
theorem TyOK.int {k:IntKind} (hi:TyOK P t i) (h:intD i.desc=some k):P.underlying t=some (.int k):=by
 obtain ⟨d,h0,_,h2,_⟩:=hi.und
 rw [h0]
 cases hd:i.desc<;>rw [hd] at h h2<;>simp only [intD,Option.some.injEq,reduceCtorEq] at h
 subst h
 rw [show d=_ from h2]
theorem TyOK.str (hi:TyOK P t i) (h:strD i.desc=true):P.underlying t=some .string:=by
 obtain ⟨d,h0,_,h2,_⟩:=hi.und
 rw [h0]
 cases hd:i.desc<;>rw [hd] at h h2<;>simp only [strD,Bool.false_eq_true] at h
 rw [show d=_ from h2]
theorem TyOK.struct {fs:List (Nat × TypeId)} (hi:TyOK P t i) (h:fieldsD i.desc=some fs):∃l:Array Field,P.underlying t=some (.struct l)∧l.toList.map (fun f=>(f.offset,f.type))=fs∧l.toList.all (fun f=>(P.info? f.type).isSome)=true:=by
 obtain ⟨d,h0,_,h2,_⟩:=hi.und
 rw [h0]
 cases hd:i.desc<;>rw [hd] at h h2<;>simp only [fieldsD,Option.some.injEq,reduceCtorEq] at h
 subst h
 obtain ⟨l,rfl,h3⟩:=h2
 exact ⟨l,rfl,h3⟩
theorem alloc_does {n:Nat} (hi:TyOK P e i) (h:newM (.row e i.zc) s= .ok n s') (hw:WRel ρ s.h w):Does P s s' ρ w (Instr.alloc e true (.tuple #[])) (fun ρ u=>VRel ρ (.ptr n 0) u):=by
 obtain ⟨z,h1,_,h3,_⟩:=hi.zeroValue
 intro hf
 obtain ⟨ρ',w',a,r1,⟨b,r2,rfl⟩,r3,r4⟩:=newRow_does (P:=P) h (h3 ρ) hw hf
 exact ⟨ρ',w',.pointer (some ⟨b,0,none⟩),by simp [Instr.alloc,newVar,h1,r1],⟨_,r2,rfl⟩,r3,r4⟩
theorem box_does {n:Nat} {v:AV} {u:Value} {cs:List AV} (hc:cellsO v=some cs) (h:newM (.row e cs) s= .ok n s') (hv:VRel ρ v u) (hw:WRel ρ s.h w):Does P s s' ρ w (Instr.box e u) (fun ρ u=>VRel ρ (.ptr n 0) u):=by
 intro hf
 obtain ⟨ρ',w',a,r1,⟨b,r2,rfl⟩,r3,r4⟩:=newRow_does (P:=P) h (cellsO_rel hc hv) hw hf
 exact ⟨ρ',w',.pointer (some ⟨b,0,none⟩),by simp [Instr.box,newVar,r1],⟨_,r2,rfl⟩,r3,r4⟩
theorem fields_at {l:Array Field} {fs:List (Nat × TypeId)} {f:Nat} {q:Nat × TypeId} (h:l.toList.map (fun f=>(f.offset,f.type))=fs) (hq:fs[f]?=some q):∃fld,l[f]?=some fld∧fld.offset=q.1∧fld.type=q.2:=by
 subst h
 rw [List.getElem?_map] at hq
 obtain ⟨fld,h1,h2⟩:=Option.map_eq_some_iff.1 hq
 exact ⟨fld,by simpa using h1,by rw [← h2],by rw [← h2]⟩
theorem fieldAddr_does {E:Env} (hE:EnvOK E P) {f:Nat} {x v:AV} {u:Value} (hi:TyOK P t i) (h:fieldAddrM E i f x s= .ok v s') (hx:VRel ρ x u) (hw:WRel ρ s.h w):Does P s s' ρ w (Instr.fieldAt t u f) (fun ρ r=>VRel ρ v r):=by
 unfold fieldAddrM at h
 cases hf:fieldsD i.desc with
 |none=>rw [hf] at h;exact (M.fail_ok.1 h).elim
 |some fs=>
  rw [hf] at h
  simp only at h
  cases hq:fs[f]? with
  |none=>rw [hq] at h;exact (M.fail_ok.1 h).elim
  |some q=>
   rw [hq] at h
   obtain ⟨j,hj,h2⟩:=withTy_ok.1 h
   cases hz:Nat.beq j.size 0 with
   |true=>rw [bif_true _ _ hz] at h2;exact (M.fail_ok.1 h2).elim
   |false=>
    rw [bif_false _ _ hz] at h2
    obtain ⟨p,s1,h3,h4⟩:=M.bind_ok.1 h2
    obtain ⟨hp,rfl⟩:=M.of_ok.1 h3
    obtain ⟨rfl,rfl⟩:=M.pure_ok.1 h4
    obtain ⟨b,hb,rfl⟩:=addrA_rel hp hx
    obtain ⟨l,h5,h6,_⟩:=hi.struct hf
    obtain ⟨fld,h7,h8,h9⟩:=fields_at h6 hq
    have hsz:=(hE.ty _ _ hj).sizeOf
    have hne:j.size≠0:=fun e=>by rw [beq_true.2 e] at hz;cases hz
    refine Does.read (Alike.refl _) hw (u:= .pointer (some ⟨b.1,b.2.1+p.2+q.1,none⟩)) ?_ ?_
    ·simp [Instr.fieldAt,run_underlying h5,h7,Instr.sureAddr,fieldPlace,h9,hsz,hne,h8,add_plain]
    ·rw [forceN_eq]
     exact ⟨b,hb,by rw [Nat.add_assoc];rfl⟩
theorem indexAddr_does {E:Env} (hE:EnvOK E P) {x ix v:AV} {u y:Value} (hi:TyOK P t i) (h:indexAddrM E i x ix s= .ok v s') (hx:VRel ρ x u) (hy:VRel ρ ix y) (hw:WRel ρ s.h w):Does P s s' ρ w (Instr.indexAt t u y) (fun ρ r=>VRel ρ v r):=by
 unfold indexAddrM at h
 replace h:=M.bind_ok.1 h
 obtain ⟨k,s1,h1,h⟩:=h
 obtain ⟨hk,rfl⟩:=M.of_ok.1 h1
 obtain ⟨kk,rfl⟩:=natA_rel hk hy
 cases hd:sliceD i.desc with
 |some e=>
  rw [hd] at h
  obtain ⟨j,hj,h2⟩:=withTy_ok.1 h
  cases hs:slA x with
  |none=>rw [hs] at h2;exact (M.fail_ok.1 h2).elim
  |some sk=>
   rw [hs] at h2
   cases sk with
   |nil=>exact (M.fail_ok.1 h2).elim
   |empty=>exact (M.fail_ok.1 h2).elim
   |some sv=>
    obtain ⟨n,off,len,cap,es⟩:=sv
    simp only at h2
    cases hc:(Nat.blt k len&&Nat.beq j.size es) with
    |false=>rw [bif_false _ _ hc] at h2;exact (M.fail_ok.1 h2).elim
    |true=>
     rw [bif_true _ _ hc] at h2
     obtain ⟨rfl,rfl⟩:=M.pure_ok.1 h2
     rw [Bool.and_eq_true] at hc
     have hlt:=blt_true.1 hc.1
     have hsz:=beq_true.1 hc.2
     obtain ⟨p,c,hp,rfl,hlc,_⟩:=slA_rel hs hx
     refine Does.read (Alike.refl _) hw (u:= .pointer (some ⟨p.1,p.2.1+off+k*es,none⟩)) ?_ ?_
     ·simp [Instr.indexAt,asIntOf,run_underlying (hi.slice hd),(hE.ty _ _ hj).sizeOf,hsz,add_plain,hlt]
     ·rw [forceN_eq]
      exact ⟨p,hp,by rw [Nat.add_assoc];rfl⟩
 |none=>
  rw [hd] at h
  simp only at h
  cases ha:arrD i.desc with
  |none=>rw [ha] at h;exact (M.fail_ok.1 h).elim
  |some q=>
   rw [ha] at h
   obtain ⟨j,hj,h2⟩:=withTy_ok.1 h
   obtain ⟨p,s2,h3,h4⟩:=M.bind_ok.1 h2
   obtain ⟨hp,rfl⟩:=M.of_ok.1 h3
   cases hc:Nat.blt k q.1 with
   |false=>rw [bif_false _ _ hc] at h4;exact (M.fail_ok.1 h4).elim
   |true=>
    rw [bif_true _ _ hc] at h4
    obtain ⟨rfl,rfl⟩:=M.pure_ok.1 h4
    have hlt:=blt_true.1 hc
    obtain ⟨b,hb,rfl⟩:=addrA_rel hp hx
    refine Does.read (Alike.refl _) hw (u:= .pointer (some ⟨b.1,b.2.1+p.2+k*j.size,none⟩)) ?_ ?_
    ·simp [Instr.indexAt,asIntOf,run_underlying (hi.arr ha),Instr.sureAddr,(hE.ty _ _ hj).sizeOf,add_plain,hlt]
    ·rw [forceN_eq]
     exact ⟨b,hb,by rw [Nat.add_assoc];rfl⟩
theorem part_val {cs l:List AV} {off:Nat} {v:AV} {xs:Array Value} (hj:TyOK P t j) (hl:loadC cs off j.size=some l) (hv:partA j.agg l s= .ok v s') (hc:CRel ρ cs xs.toList):
  s'=s∧∃u,(part t xs off).run P w= .ok u w∧VRel ρ v u:=by
 obtain ⟨f1,f2⟩:=loadC_rel hl hc
 have hag:=hj.isAgg w
 have hsz:=hj.sizeOf w
 have he:(xs.extract off (off+j.size)).toList=(xs.toList.drop off).take j.size:=by
  rw [Array.toList_extract,List.extract_eq_take_drop,Nat.add_sub_cancel_left]
 rw [← he] at f1
 cases ha:j.agg with
 |true=>
  rw [ha] at hv hag
  simp only [partA,Rs.ok.injEq] at hv
  obtain ⟨rfl,rfl⟩:=hv
  exact ⟨rfl,_,by simp only [part,Sem.run_bind,hag,hsz,Result.andThen_ok,if_true,Sem.run_pure],_,rfl,f1⟩
 |false=>
  rw [ha] at hv hag
  obtain ⟨h10,rfl⟩:=M.of_ok.1 hv
  obtain ⟨u,h11,hu⟩:=oneA_rel h10 f1
  have hg:xs[off]?=some u:=by
   have:=congrArg (fun l=>l[0]?) h11
   simp only [he,List.getElem?_cons_zero] at this
   rw [List.getElem?_take] at this
   split at this
   ·rwa [List.getElem?_drop,Nat.add_zero,Array.getElem?_toList] at this
   ·cases this
  exact ⟨rfl,u,by simp only [part,Sem.run_bind,hag,Result.andThen_ok,Bool.false_eq_true,if_false,hg,Sem.run_pure],hu⟩
theorem field_does {E:Env} (hE:EnvOK E P) {f:Nat} {x v:AV} {u:Value} (hi:TyOK P t i) (h:fieldM E i f x s= .ok v s') (hx:VRel ρ x u) (hw:WRel ρ s.h w):Does P s s' ρ w (Instr.field t u f) (fun ρ r=>VRel ρ v r):=by
 unfold fieldM at h
 cases hf:fieldsD i.desc with
 |none=>rw [hf] at h;exact (M.fail_ok.1 h).elim
 |some fs=>
  rw [hf] at h
  simp only at h
  cases hq:fs[f]? with
  |none=>rw [hq] at h;exact (M.fail_ok.1 h).elim
  |some q=>
   rw [hq] at h
   obtain ⟨j,hj,h2⟩:=withTy_ok.1 h
   obtain ⟨cs,s1,h3,h4⟩:=M.bind_ok.1 h2
   obtain ⟨hcs,rfl⟩:=M.of_ok.1 h3
   obtain ⟨l,s2,h5,h6⟩:=M.bind_ok.1 h4
   obtain ⟨hl,rfl⟩:=M.of_ok.1 h5
   obtain ⟨xs,rfl,hc⟩:=aggA_rel hcs hx
   obtain ⟨al,a1,a2,_⟩:=hi.struct hf
   obtain ⟨fld,a3,a4,a5⟩:=fields_at a2 hq
   obtain ⟨rfl,r,hr1,hr2⟩:=part_val (w:=w) (hE.ty _ _ hj) hl h6 hc
   refine Does.read (Alike.refl _) hw ?_ hr2
   simp [Instr.field,run_underlying a1,a3,asAgg,a4,a5,hr1]
theorem extract_does {T v:AV} {vs:List AV} {k:Nat} {u:Value} (h:tupA T=some vs) (hv:vs[k]?=some v) (hx:VRel ρ T u) (hw:WRel ρ s.h w):Does P s s ρ w (Instr.extract u k) (fun ρ r=>VRel ρ v r):=by
 obtain ⟨x,rfl,hl⟩:=tupA_rel h hx
 obtain ⟨r,h1,h2⟩:=hl.get hv
 refine Does.read (Alike.refl _) hw ?_ h2
 rw [Array.getElem?_toList] at h1
 simp [Instr.extract,h1]
theorem str_get (b:ByteArray) (k:Nat) (x:UInt8) (h:b.toList[k]?=some x):b[k]?=some x:=by
 rw [ByteArray.toList_eq] at h
 obtain ⟨hk,he⟩:=List.getElem?_eq_some_iff.1 h
 have hs:k<b.size:=by simpa using hk
 rw [getElem?_pos b k hs]
 congr 1
theorem index_does {E:Env} (hE:EnvOK E P) {x ix v:AV} {u y:Value} (hi:TyOK P t i) (h:indexM E i x ix s= .ok v s') (hx:VRel ρ x u) (hy:VRel ρ ix y) (hw:WRel ρ s.h w):Does P s s' ρ w (Instr.index t u y) (fun ρ r=>VRel ρ v r):=by
 unfold indexM at h
 replace h:=M.bind_ok.1 h
 obtain ⟨k,s1,h1,h⟩:=h
 obtain ⟨hk,rfl⟩:=M.of_ok.1 h1
 obtain ⟨kk,rfl⟩:=natA_rel hk hy
 cases ha:arrD i.desc with
 |some q=>
  rw [ha] at h
  obtain ⟨j,hj,h2⟩:=withTy_ok.1 h
  obtain ⟨cs,s2,h3,h4⟩:=M.bind_ok.1 h2
  obtain ⟨hcs,rfl⟩:=M.of_ok.1 h3
  cases hc:Nat.blt k q.1 with
  |false=>rw [bif_false _ _ hc] at h4;exact (M.fail_ok.1 h4).elim
  |true=>
   rw [bif_true _ _ hc] at h4
   obtain ⟨l,s3,h5,h6⟩:=M.bind_ok.1 h4
   obtain ⟨hl,rfl⟩:=M.of_ok.1 h5
   have hlt:=blt_true.1 hc
   obtain ⟨xs,rfl,hr⟩:=aggA_rel hcs hx
   obtain ⟨rfl,r,hr1,hr2⟩:=part_val (w:=w) (hE.ty _ _ hj) hl h6 hr
   refine Does.read (Alike.refl _) hw ?_ hr2
   have hr1':(part q.2 xs (k*j.size)).run P w= .ok r w:=hr1
   simp [Instr.index,asIntOf,run_underlying (hi.arr ha),(hE.ty _ _ hj).sizeOf,hlt,hr1']
 |none=>
  rw [ha] at h
  cases hs:strD i.desc with
  |false=>simp only [hs,cond_false] at h;exact (M.fail_ok.1 h).elim
  |true=>
   simp only [hs,cond_true] at h
   obtain ⟨b,s2,h3,h4⟩:=M.bind_ok.1 h
   obtain ⟨hb,rfl⟩:=M.of_ok.1 h3
   obtain rfl:=strA_rel hb hx
   cases hc:b.toList[k]? with
   |some c=>
    rw [hc] at h4
    obtain ⟨rfl,rfl⟩:=M.pure_ok.1 h4
    refine Does.read (Alike.refl _) hw (u:= .int .u8 (c.toNat:Int)) ?_ rfl
    have:=str_get b k c hc
    simp [Instr.index,asIntOf,run_underlying (hi.str hs),this]
   |none=>rw [hc] at h4;exact (M.fail_ok.1 h4).elim
end
end Go.Proofs.YtnkjkgmohmcobaaGreatDoor.Vm
namespace Go.Proofs.YtnkjkgmohmcobaaGreatDoor.Vm
open Go
section
variable {P:Program} {s s' s1:St} {ρ ρ':Ren} {w w':World} {t e:TypeId} {i j:TyI}
def PRel (ρ:Ren):List (Nat × AV)→List (Nat × Value)→Prop
 |[],l=>l=[]
 |x::r,l=>∃v l',l=(x.1,v)::l'∧VRel ρ x.2 v∧PRel ρ r l'
theorem rdsP_rel {T:Tr AV} {n:Nat} {a:Act} (hT:TRel ρ T n a.tmps):∀{l:List (Nat × Operand)} {vs:List (Nat × AV)} {s s':St},rdsP T (opdsP l) s= .ok vs s'→s'=s∧PRel ρ vs (l.map fun x=>(x.1,a.eval x.2))
 |[],vs,s,s',h=>by
  obtain ⟨rfl,rfl⟩:=M.pure_ok.1 h
  exact ⟨rfl,rfl⟩
 |x::r,vs,s,s',h=>by
  unfold opdsP rdsP at h
  obtain ⟨v,s1,h1,h2⟩:=M.bind_ok.1 h
  obtain ⟨vs',s2,h3,h4⟩:=M.bind_ok.1 h2
  obtain ⟨rfl,rfl⟩:=M.pure_ok.1 h4
  obtain ⟨rfl,g1⟩:=rd_rel h1 hT
  obtain ⟨rfl,g2⟩:=rdsP_rel hT h3
  exact ⟨rfl,_,_,rfl,g1,g2⟩
theorem foldl_set (off:Nat):∀(us:List Value) (k:Nat) (xs:Array Value),off+k+us.length≤xs.size→
  ((us.zipIdx k).foldl (fun cs (c:Value × Nat)=>cs.setIfInBounds (off+c.2) c.1) xs).toList=xs.toList.take (off+k)++(us++xs.toList.drop (off+k+us.length))
 |[],k,xs,h=>by simp
 |v::r,k,xs,h=>by
  rw [List.length_cons] at h
  rw [List.zipIdx_cons,List.foldl_cons,foldl_set off r (k+1) _ (by rw [Array.size_setIfInBounds];omega)]
  simp only [Array.toList_setIfInBounds,List.length_cons]
  have ho:off+k<xs.toList.length:=by simpa using (by omega:off+k<xs.size)
  rw [show off+(k+1)=off+k+1 by omega,List.take_set,List.drop_set_of_lt (by omega),List.take_succ_eq_append_getElem ho,List.set_append_right _ _ (by rw [List.length_take];omega)]
  simp only [List.length_take,Nat.min_eq_left (Nat.le_of_lt ho),Nat.sub_self,List.set_cons_zero,List.append_assoc,List.cons_append,List.nil_append]
  rw [show off+k+1+r.length=off+k+(r.length+1) by omega]
theorem fill_rel {place place':Nat→Option (Nat × Nat)} (hp:∀i p,place i=some p→place' i=some p):∀{parts:List (Nat × AV)} {cs cs':List AV} {xs:Array Value} {ps:List (Nat × Value)},
  fillA place cs parts=some cs'→CRel ρ cs xs.toList→PRel ρ parts ps→∃ys,Instr.fill place' xs ps=some ys∧CRel ρ cs' ys.toList
 |[],cs,cs',xs,ps,h,hc,hr=>by
  simp only [fillA,Option.some.injEq] at h
  subst h
  rw [show ps=[] from hr]
  exact ⟨xs,rfl,hc⟩
 |x::r,cs,cs',xs,ps,h,hc,hr=>by
  obtain ⟨v,l',rfl,h2,h3⟩:=hr
  unfold fillA at h
  cases hpl:place x.1 with
  |none=>rw [hpl] at h;cases h
  |some p=>
   rw [hpl] at h
   simp only at h
   cases hco:cellsO x.2 with
   |none=>rw [hco] at h;cases h
   |some new=>
    rw [hco] at h
    simp only at h
    cases hb:Nat.beq (lenC new) p.2 with
    |false=>rw [bif_false _ _ hb] at h;cases h
    |true=>
     rw [bif_true _ _ hb] at h
     cases hst:storeC cs p.1 p.2 new with
     |none=>rw [hst] at h;cases h
     |some cs2=>
      rw [hst] at h
      simp only at h
      have hcv:=cellsO_rel hco h2
      have hlen:v.cells.size=p.2:=by rw [← Array.length_toList,CRel.length _ hcv,beq_true.1 hb]
      obtain ⟨f1,f2⟩:=storeC_rel hst hc hcv
      rw [Array.length_toList] at f2
      have hfold:=foldl_set p.1 v.cells.toList 0 xs (by rw [Array.length_toList,hlen];omega)
      rw [Nat.add_zero,Array.length_toList,hlen] at hfold
      rw [← hfold] at f1
      obtain ⟨ys,g1,g2⟩:=fill_rel hp h f1 h3
      refine ⟨ys,?_,g2⟩
      rw [Instr.fill,hp _ _ hpl]
      simp only [hlen]
      have e1:(decide (p.2≠p.2) || decide (p.1+p.2>xs.size))=false:=by simp;omega
      rw [if_neg (by rw [e1];exact Bool.false_ne_true)]
      rw [← Array.foldl_toList,Array.toList_zipIdx]
      exact g1
theorem mapM_run {α β:Type} {f:α→Sem β} {g:α→β} (w:World):∀(l:List α),(∀x∈l,(f x).run P w= .ok (g x) w)→(l.mapM f).run P w= .ok (l.map g) w
 |[],_=>by simp
 |x::r,h=>by
  have h1:=h x List.mem_cons_self
  have h2:=mapM_run w r (fun y hy=>h y (List.mem_cons_of_mem _ hy))
  simp [List.mapM_cons,h1,h2]
theorem build_does {E:Env} (hE:EnvOK E P) {parts:List (Nat × AV)} {ps:Array (Nat × Value)} {v:AV} (hi:TyOK P t i) (h:buildM E i parts s= .ok v s') (hr:PRel ρ parts ps.toList) (hw:WRel ρ s.h w):Does P s s' ρ w (Instr.build t ps) (fun ρ r=>VRel ρ v r):=by
 obtain ⟨z,z1,_,z3,z4⟩:=hi.zeroValue
 unfold buildM at h
 cases hf:fieldsD i.desc with
 |some fs=>
  rw [hf] at h
  obtain ⟨cs,s1,h1,h2⟩:=M.bind_ok.1 h
  obtain ⟨hfil,rfl⟩:=M.of_ok.1 h1
  obtain ⟨rfl,rfl⟩:=M.pure_ok.1 h2
  obtain ⟨l,a1,a2,a3⟩:=hi.struct hf
  let sz:Field→Nat × Nat:=fun f=>(f.offset,((P.info? f.type).map (·.size)).getD 0)
  have hm:∀w,(l.mapM fun f:Field=>Prod.mk f.offset<$>Go.sizeOf f.type).run P w= .ok (l.map sz) w:=by
   intro w
   have:=mapM_run (P:=P) (f:=fun f:Field=>Prod.mk f.offset<$>Go.sizeOf f.type) (g:=sz) w l.toList (fun f hf=>by
    have:=List.all_eq_true.1 a3 f hf
    obtain ⟨q,hq⟩:=Option.isSome_iff_exists.1 this
    simp [Go.sizeOf,Go.typeInfo,run_program,hq,sz])
   rw [Array.mapM_eq_mapM_toList,Sem.run_map,this]
   simp only [Result.andThen_ok]
   congr 1
   exact Array.ext' (by simp)
  obtain ⟨ys,g1,g2⟩:=fill_rel (place':=fun k=>Option.map sz l[k]?) (by
   intro k p hp
   unfold placeS at hp
   cases hk:fs[k]? with
   |none=>rw [hk] at hp;cases hp
   |some q=>
    rw [hk] at hp
    simp only at hp
    cases hj:E.ty.get q.2 with
    |none=>rw [hj] at hp;cases hp
    |some j=>
     rw [hj] at hp
     simp only [Option.some.injEq] at hp
     subst hp
     obtain ⟨fld,b1,b2,b3⟩:=fields_at a2 hk
     obtain ⟨inf,d,zz,c1,c2,c3,_⟩:=hE.ty _ _ hj
     simp [b1,sz,b2,b3,c1,c3]) hfil (z3 ρ) hr
  refine Does.read (Alike.refl _) hw (u:= .agg ys) ?_ ⟨ys,rfl,g2⟩
  simp [Instr.build,z1,run_underlying a1,hm,g1]
 |none=>
  rw [hf] at h
  simp only at h
  cases ha:arrD i.desc with
  |none=>rw [ha] at h;exact (M.fail_ok.1 h).elim
  |some q=>
   rw [ha] at h
   obtain ⟨j,hj,h2⟩:=withTy_ok.1 h
   obtain ⟨cs,s1,h3,h4⟩:=M.bind_ok.1 h2
   obtain ⟨hfil,rfl⟩:=M.of_ok.1 h3
   obtain ⟨rfl,rfl⟩:=M.pure_ok.1 h4
   obtain ⟨ys,g1,g2⟩:=fill_rel (place':=fun k=>some (k*j.size,j.size)) (fun k p hp=>hp) hfil (z3 ρ) hr
   refine Does.read (Alike.refl _) hw (u:= .agg ys) ?_ ⟨ys,rfl,g2⟩
   simp [Instr.build,z1,run_underlying (hi.arr ha),(hE.ty _ _ hj).sizeOf,g1]
theorem rep_cells (z:Array Value):∀n:Nat,((Array.range (n*z.size)).map (fun i=>z[i%z.size]!)).toList=(List.replicate n z.toList).flatten
 |0=>by simp
 |n+1=>by
  rw [List.replicate_succ',List.flatten_append, ← rep_cells z n]
  simp only [Array.toList_map,Array.toList_range,List.flatten_cons,List.flatten_nil,List.append_nil]
  rw [Nat.add_mul,Nat.one_mul,List.range_add,List.map_append]
  congr 1
  rw [List.map_map]
  apply List.ext_getElem (by simp)
  intro k h1 h2
  have hk:k<z.size:=by simpa using h2
  simp only [List.getElem_map,List.getElem_range,Function.comp_apply]
  rw [Nat.mul_add_mod_of_lt' hk]
  simp [hk]
where
 Nat.mul_add_mod_of_lt' {n m k:Nat} (h:k<m):(n*m+k)%m=k:=by
  rw [Nat.mul_comm,Nat.mul_add_mod,Nat.mod_eq_of_lt h]
theorem zerosA_rel {z:List AV} {us:List Value} (h:CRel ρ z us):∀n,CRel ρ (zerosA z n) (List.replicate n us).flatten
 |0=>CRel.nil
 |n+1=>by
  rw [List.replicate_succ,List.flatten_cons]
  exact joinC_rel z h (zerosA_rel h n)
theorem buildSlice_does {E:Env} (hE:EnvOK E P) {parts:List (Nat × AV)} {ps:Array (Nat × Value)} {v:AV} {len:Nat} (hi:TyOK P t i) (h:buildSliceM E i len parts s= .ok v s') (hr:PRel ρ parts ps.toList) (hw:WRel ρ s.h w):Does P s s' ρ w (Instr.buildSlice t len ps) (fun ρ r=>VRel ρ v r):=by
 unfold buildSliceM at h
 cases hd:sliceD i.desc with
 |none=>rw [hd] at h;exact (M.fail_ok.1 h).elim
 |some e=>
  rw [hd] at h
  obtain ⟨j,hj,h2⟩:=withTy_ok.1 h
  have hjk:=hE.ty _ _ hj
  obtain ⟨z,z1,_,z3,z4⟩:=hjk.zeroValue
  cases hc:(Nat.ble (Nat.mul len j.size) 100000&& !(Nat.beq j.size 0)) with
  |false=>rw [bif_false _ _ hc] at h2;exact (M.fail_ok.1 h2).elim
  |true=>
   rw [bif_true _ _ hc] at h2
   rw [Bool.and_eq_true] at hc
   have hle:=ble_true.1 hc.1
   have hne:j.size≠0:=fun e=>by rw [beq_true.2 e] at hc;exact absurd hc.2 (by decide)
   obtain ⟨cs,s1,h3,h4⟩:=M.bind_ok.1 h2
   obtain ⟨hfil,rfl⟩:=M.of_ok.1 h3
   obtain ⟨n,s2,h5,h6⟩:=M.bind_ok.1 h4
   obtain ⟨rfl,rfl⟩:=M.pure_ok.1 h6
   have hzs:CRel ρ (zerosA j.zc len) ((Array.range (len*z.cells.size)).map (fun i=>z.cells[i%z.cells.size]!)).toList:=by
    rw [rep_cells]
    exact zerosA_rel (z3 ρ) len
   rw [z4] at hzs
   obtain ⟨ys,g1,g2⟩:=fill_rel (place':=fun k=>some (k*j.size,j.size)) (fun k p hp=>hp) hfil hzs hr
   intro hf
   obtain ⟨ρ',w',a,r1,⟨b,r2,rfl⟩,r3,r4⟩:=newRow_does (P:=P) h5 g2 hw hf
   refine ⟨ρ',w',.slice (some ⟨b,0,none⟩) len len,?_,⟨_,len,r2,rfl,Nat.le_refl _,rfl⟩,r3,r4⟩
   have h24:¬(len*j.size>2^24):=by
    have:len*j.size≤100000:=hle
    omega
   by_cases h0:len*j.size=0
   ·have hl0:len=0:=by
     rcases Nat.mul_eq_zero.1 h0 with h|h
     ·exact h
     ·exact absurd h hne
    subst hl0
    have e0:∀f:Nat→Value,Array.map f (Array.range 0)= #[]:=fun f=>Array.ext' (by simp)
    rw [Nat.zero_mul,e0] at g1
    simp [Instr.buildSlice,run_underlying (hi.slice hd),hjk.sizeOf,e0,g1,r1]
   ·simp [Instr.buildSlice,run_underlying (hi.slice hd),hjk.sizeOf,h24,h0,z1,z4,g1,r1]
end
end Go.Proofs.YtnkjkgmohmcobaaGreatDoor.Vm
namespace Go.Proofs.YtnkjkgmohmcobaaGreatDoor.Vm
open Go
section
variable {P:Program} {s s' s1:St} {ρ ρ':Ren} {w w':World} {t e:TypeId} {i j:TyI}
theorem makeSlice_does {E:Env} (hE:EnvOK E P) {l c v:AV} {u x:Value} (hi:TyOK P t i) (h:makeSliceM E i l c s= .ok v s') (hl:VRel ρ l u) (hc:VRel ρ c x) (hw:WRel ρ s.h w):Does P s s' ρ w (Instr.makeSlice t u x) (fun ρ r=>VRel ρ v r):=by
 unfold makeSliceM at h
 cases hd:sliceD i.desc with
 |none=>rw [hd] at h;exact (M.fail_ok.1 h).elim
 |some e=>
  rw [hd] at h
  obtain ⟨j,hj,h2⟩:=withTy_ok.1 h
  have hjk:=hE.ty _ _ hj
  obtain ⟨a,s1,h3,h4⟩:=M.bind_ok.1 h2
  obtain ⟨ha,rfl⟩:=M.of_ok.1 h3
  obtain ⟨b,s2,h5,h6⟩:=M.bind_ok.1 h4
  obtain ⟨hb,rfl⟩:=M.of_ok.1 h5
  obtain ⟨ka,rfl⟩:=natA_rel ha hl
  obtain ⟨kb,rfl⟩:=natA_rel hb hc
  cases hq:(Nat.ble a b&&Nat.ble b 100000&&Nat.ble (Nat.mul j.bytes b) 100000000&& !(Nat.beq j.size 0)) with
  |false=>rw [bif_false _ _ hq] at h6;exact (M.fail_ok.1 h6).elim
  |true=>
   rw [bif_true _ _ hq] at h6
   rw [Bool.and_eq_true,Bool.and_eq_true,Bool.and_eq_true] at hq
   have q1:=ble_true.1 hq.1.1.1
   have q2:=ble_true.1 hq.1.1.2
   have q3:j.bytes*b≤100000000:=ble_true.1 hq.1.2
   obtain ⟨n,s3,h7,h8⟩:=M.bind_ok.1 h6
   obtain ⟨rfl,rfl⟩:=M.pure_ok.1 h8
   obtain ⟨rfl,hs'⟩:=newM_ok.1 h7
   intro hf
   have hfr:ρ s2.c=none:=hf s2.c (Nat.le_refl _) (by rw [hs'];exact Nat.lt_succ_self _)
   obtain ⟨inf,d,z,i1,i2,i3,i4,i5,i6,i7,i8,i9,i10,i11⟩:=hjk
   have hrun:=run_make_rowN (P:=P) t e inf z (hi.slice hd) i1 i5 ka kb a b q1 (by rw [i4];omega) (by omega) w
   have hz:CRel ρ (zerosA j.zc b) (madeCells z.cells (b*inf.size)).toList:=by
    unfold madeCells
    rw [i3, ← i11,rep_cells]
    exact zerosA_rel (i7 ρ) b
   have hsz:(madeCells z.cells (b*inf.size)).size=b*j.size:=by unfold madeCells;simp [i3]
   have:=new_rel (s':=s') (o:= .row e (zerosA j.zc b)) (ob:= .cells (madeCells z.cells (b*inf.size)) e (0,0)) (κ:=b*j.size) hw hfr (by rw [hs'];rfl) (by rw [hs'];rfl)
    ⟨_,_,[],rfl,by simp [hsz],by simp,CRel.mono (Ren.put_le hfr _) _ _ hz⟩
   exact ⟨_,_,_,hrun,⟨_,b,Ren.put_same _ _ _,rfl,q1,rfl⟩,this.1,this.2⟩
def ORelO (ρ:Ren) (a:Option AV) (v:Option Value):Prop:=
 match a,v with
 |none,none=>True
 |some a,some v=>VRel ρ a v
 |_,_=>False
theorem bound1_rel {a:Option AV} {v:Option Value} {d most n:Nat} (h:bound1 a d most=some n) (hr:ORelO ρ a v):(a=none∧v=none∧n=d)∨∃k,v=some (.int k (n:Int))∧n≤most∧a.isSome=true:=by
 unfold bound1 at h
 cases a with
 |none=>
  cases v with
  |none=>simp only [Option.some.injEq] at h;exact .inl ⟨rfl,rfl,h.symm⟩
  |some v=>exact hr.elim
 |some a=>
  cases v with
  |none=>exact hr.elim
  |some v=>
   simp only at h
   cases hn:natA a with
   |none=>rw [hn] at h;cases h
   |some m=>
    rw [hn] at h
    simp only at h
    cases hb:Nat.ble m most with
    |false=>rw [bif_false _ _ hb] at h;cases h
    |true=>
     rw [bif_true _ _ hb] at h
     simp only [Option.some.injEq] at h
     subst h
     obtain ⟨k,rfl⟩:=natA_rel hn hr
     exact .inr ⟨k,rfl,ble_true.1 hb,rfl⟩
theorem bounds_run {len cap c l h m:Nat} {lo hi mx:Option AV} {lo' hi' mx':Option Value} (b:Bool) (hc:cap≤c) (hb:boundsA len cap lo hi mx=some (l,h,m)) (r1:ORelO ρ lo lo') (r2:ORelO ρ hi hi') (r3:ORelO ρ mx mx'):
  (Instr.sliceBounds b len c lo' hi' mx').run P w= .ok (l,h,if mx.isSome=true then m else c) w∧l≤h∧h≤m∧m≤cap∧(mx=none→m=cap):=by
 unfold boundsA at hb
 cases hq:(mx.isSome&&hi.isNone) with
 |true=>rw [bif_true _ _ hq] at hb;cases hb
 |false=>
  rw [bif_false _ _ hq] at hb
  cases e1:bound1 mx cap cap with
  |none=>rw [e1] at hb;cases hb
  |some m1=>
   rw [e1] at hb
   simp only at hb
   cases e2:bound1 hi len m1 with
   |none=>rw [e2] at hb;cases hb
   |some h1=>
    rw [e2] at hb
    simp only at hb
    cases e3:bound1 lo 0 h1 with
    |none=>rw [e3] at hb;cases hb
    |some l1=>
     rw [e3] at hb
     simp only at hb
     cases e4:(Nat.ble h1 m1&&Nat.ble l1 h1) with
     |false=>rw [bif_false _ _ e4] at hb;cases hb
     |true=>
      rw [bif_true _ _ e4] at hb
      simp only [Option.some.injEq,Prod.mk.injEq] at hb
      obtain ⟨rfl,rfl,rfl⟩:=hb
      rw [Bool.and_eq_true] at e4
      have k1:=ble_true.1 e4.1
      have k2:=ble_true.1 e4.2
      have km:m1≤cap:=by rcases bound1_rel e1 r3 with ⟨_,_,h⟩|⟨_,_,h,_⟩<;>omega
      refine ⟨?_,k2,k1,km,fun hn=>?_⟩
      ·rcases bound1_rel e1 r3 with ⟨rfl,rfl,rfl⟩|⟨k3,rfl,g3,g3'⟩<;>rcases bound1_rel e2 r2 with ⟨rfl,rfl,rfl⟩|⟨k4,rfl,g4,g4'⟩<;>rcases bound1_rel e3 r1 with ⟨rfl,rfl,rfl⟩|⟨k5,rfl,g5,g5'⟩
       all_goals first
        |(rw [g3'] at hq;cases hq;done)
        |(have hh:(h1:Int)≤(c:Int):=by omega
          have hm:(m1:Int)≤(c:Int):=by omega
          try have hl:(l1:Int)≤(h1:Int):=by omega
          have hhm:(h1:Int)≤(m1:Int):=by omega
          simp_all [Instr.sliceBounds,run_sliceBound])
      ·rcases bound1_rel e1 r3 with ⟨_,_,h⟩|⟨_,_,_,h⟩
       ·exact h
       ·rw [hn] at h;cases h
theorem slice_does {E:Env} (hE:EnvOK E P) {x v:AV} {lo hi mx:Option AV} {u:Value} {lo' hi' mx':Option Value} (hi0:TyOK P t i) (h:sliceM E i x lo hi mx s= .ok v s') (hx:VRel ρ x u) (r1:ORelO ρ lo lo') (r2:ORelO ρ hi hi') (r3:ORelO ρ mx mx') (hw:WRel ρ s.h w):
  Does P s s' ρ w (Instr.sliceAt t u lo' hi' mx') (fun ρ r=>VRel ρ v r):=by
 unfold sliceM at h
 cases hd:sliceD i.desc with
 |some e=>
  rw [hd] at h
  obtain ⟨j,hj,h2⟩:=withTy_ok.1 h
  have hjk:=hE.ty _ _ hj
  have hu:=hi0.slice hd
  cases hs:slA x with
  |none=>rw [hs] at h2;exact (M.fail_ok.1 h2).elim
  |some sk=>
   rw [hs] at h2
   cases sk with
   |nil=>
    obtain ⟨q,s1,h3,h4⟩:=M.bind_ok.1 h2
    obtain ⟨hb,rfl⟩:=M.of_ok.1 h3
    obtain ⟨rfl,rfl⟩:=M.pure_ok.1 h4
    obtain ⟨l,hh,m⟩:=q
    obtain ⟨b1,b2,b3,b4,b5⟩:=bounds_run (P:=P) (w:=w) true (Nat.le_refl 0) hb r1 r2 r3
    obtain rfl:u= .slice none 0 0:=slA_rel hs hx
    refine Does.read (Alike.refl _) hw (u:= .slice none 0 0) ?_ rfl
    have e1:l=0:=by omega
    have e2:hh=0:=by omega
    have e3:m=0:=by omega
    subst e1 e2 e3
    have b1':(Instr.sliceBounds true 0 0 lo' hi' mx').run P w= .ok (0,0,0) w:=by rw [b1];split<;>rfl
    simp [Instr.sliceAt,Instr.slice,run_underlying hu,b1',hjk.sizeOf]
   |empty=>exact (M.fail_ok.1 h2).elim
   |some sv=>
    obtain ⟨n,off,len,cap,es⟩:=sv
    obtain ⟨p,c,hp,rfl,hlc,hcap⟩:=slA_rel hs hx
    cases cap with
    |some c0=>
     have hcc:c=c0:=hcap
     subst hcc
     simp only at h2
     cases hes:Nat.beq es j.size with
     |false=>rw [bif_false _ _ hes] at h2;exact (M.fail_ok.1 h2).elim
     |true=>
      rw [bif_true _ _ hes] at h2
      have hse:=beq_true.1 hes
      obtain ⟨q,s1,h3,h4⟩:=M.bind_ok.1 h2
      obtain ⟨hb,rfl⟩:=M.of_ok.1 h3
      obtain ⟨rfl,rfl⟩:=M.pure_ok.1 h4
      obtain ⟨l,hh,m⟩:=q
      obtain ⟨b1,b2,b3,b4,b5⟩:=bounds_run (P:=P) (w:=w) true (Nat.le_refl c) hb r1 r2 r3
      have b1':(Instr.sliceBounds true len c lo' hi' mx').run P w= .ok (l,hh,m) w:=by
       rw [b1]
       split
       ·rfl
       ·rename_i hn
        have:mx=none:=by cases mx<;>simp_all
        rw [b5 this]
      refine Does.read (Alike.refl _) hw (u:= .slice (some (if m=l then ⟨p.1,p.2.1+off,none⟩ else ⟨p.1,p.2.1+off+l*es,none⟩)) (hh-l) (m-l)) ?_ ?_
      ·simp only [Instr.sliceAt,Instr.slice,Sem.run_bind,run_underlying hu,Result.andThen_ok,b1',hjk.sizeOf, ← hse,Sem.run_pure]
       by_cases hml:m=l
       ·simp [hml]
       ·simp [hml,add_plain]
      ·refine ⟨p,m-l,hp,?_,Nat.sub_le_sub_right (by omega) l,rfl⟩
       by_cases hml:m=l
       ·rw [if_pos hml]
        simp [hml,Nat.beq_refl]
       ·have:Nat.beq m l=false:=by cases hq:Nat.beq m l with|false=>rfl|true=>exact absurd (beq_true.1 hq) hml
        rw [if_neg hml]
        simp only [this,cond_false]
        rw [Nat.add_assoc]
        rfl
    |none=>
     have hcc:off+c*es=p.2.2:=hcap
     simp only at h2
     obtain ⟨r,s1,h3,h4⟩:=M.bind_ok.1 h2
     obtain ⟨g1,_,ha2⟩:=rowM_ok h3
     cases hes:(Nat.beq es 0 || !(Nat.beq es j.size)) with
     |true=>rw [bif_true _ _ hes] at h4;exact (M.fail_ok.1 h4).elim
     |false=>
      rw [bif_false _ _ hes] at h4
      have he0:es≠0:=fun e=>by rw [beq_true.2 e] at hes;cases hes
      have hse:es=j.size:=by
       cases hq:Nat.beq es j.size with
       |true=>exact beq_true.1 hq
       |false=>rw [hq] at hes;simp at hes
      obtain ⟨q,s2,h5,h6⟩:=M.bind_ok.1 h4
      obtain ⟨hb,rfl⟩:=M.of_ok.1 h5
      obtain ⟨l,hh,m⟩:=q
      obtain ⟨ob,hob,vs,known,junk,rfl,k2,k3,k4⟩:=hw.row g1 hp
      have hkn:lenC r.2≤p.2.2:=by
       rw [← CRel.length _ k4]
       have:=congrArg List.length k3
       rw [List.length_drop,List.length_append,Array.length_toList,k2] at this
       omega
      have hcap0:(lenC r.2-off)/es≤c:=by
       rw [Nat.div_le_iff_le_mul_add_pred (by omega)]
       rw [Nat.mul_comm] at hcc
       omega
      obtain ⟨b1,b2,b3,b4,b5⟩:=bounds_run (P:=P) (w:=w) true hcap0 hb r1 r2 r3
      cases mx with
      |some mv=>
       simp only at h6
       obtain ⟨rfl,rfl⟩:=M.pure_ok.1 h6
       have b1':(Instr.sliceBounds true len c lo' hi' mx').run P w= .ok (l,hh,m) w:=by rw [b1];rfl
       refine Does.read ha2 hw (u:= .slice (some (if m=l then ⟨p.1,p.2.1+off,none⟩ else ⟨p.1,p.2.1+off+l*es,none⟩)) (hh-l) (m-l)) ?_ ?_
       ·simp only [Instr.sliceAt,Instr.slice,Sem.run_bind,run_underlying hu,Result.andThen_ok,b1',hjk.sizeOf, ← hse,Sem.run_pure]
        by_cases hml:m=l
        ·simp [hml]
        ·simp [hml,add_plain]
       ·refine ⟨p,m-l,hp,?_,Nat.sub_le_sub_right (by omega) l,rfl⟩
        by_cases hml:m=l
        ·rw [if_pos hml]
         simp [hml,Nat.beq_refl]
        ·have:Nat.beq m l=false:=by cases hq:Nat.beq m l with|false=>rfl|true=>exact absurd (beq_true.1 hq) hml
         rw [if_neg hml]
         simp only [this,cond_false]
         rw [Nat.add_assoc]
         rfl
      |none=>
       simp only at h6
       have hm:=b5 rfl
       have b1':(Instr.sliceBounds true len c lo' hi' mx').run P w= .ok (l,hh,c) w:=by rw [b1];rfl
       have hrun:(Instr.sliceAt t (.slice (some ⟨p.1,p.2.1+off,none⟩) len c) lo' hi' mx').run P w= .ok (.slice (some (if c=l then ⟨p.1,p.2.1+off,none⟩ else ⟨p.1,p.2.1+off+l*es,none⟩)) (hh-l) (c-l)) w:=by
        simp only [Instr.sliceAt,Instr.slice,Sem.run_bind,run_underlying hu,Result.andThen_ok,b1',hjk.sizeOf, ← hse,Sem.run_pure]
        by_cases hml:c=l
        ·simp [hml]
        ·simp [hml,add_plain]
       cases hlt:Nat.blt l m with
       |true=>
        rw [bif_true _ _ hlt] at h6
        obtain ⟨rfl,rfl⟩:=M.pure_ok.1 h6
        have hl:=blt_true.1 hlt
        rw [if_neg (by omega)] at hrun
        refine Does.read ha2 hw hrun ⟨p,c-l,hp,?_,Nat.sub_le_sub_right (by omega) l,?_⟩
        ·rw [Nat.add_assoc]
         rfl
        ·show off+l*es+(c-l)*es=p.2.2
         rw [← hcc,Nat.add_assoc, ← Nat.add_mul]
         congr 2
         omega
       |false=>
        rw [bif_false _ _ hlt] at h6
        obtain ⟨rfl,rfl⟩:=M.pure_ok.1 h6
        have hl:¬l<m:=fun e=>by rw [blt_true.2 e] at hlt;cases hlt
        rw [show hh-l=0 by omega] at hrun
        exact Does.read ha2 hw hrun ⟨_,_,rfl⟩
 |none=>
  rw [hd] at h
  simp only at h
  cases ha:arrD i.desc with
  |some q=>
   rw [ha] at h
   obtain ⟨j,hj,h2⟩:=withTy_ok.1 h
   have hjk:=hE.ty _ _ hj
   obtain ⟨a,s1,h3,h4⟩:=M.bind_ok.1 h2
   obtain ⟨hp,rfl⟩:=M.of_ok.1 h3
   obtain ⟨b,s2,h5,h6⟩:=M.bind_ok.1 h4
   obtain ⟨hb,rfl⟩:=M.of_ok.1 h5
   obtain ⟨rfl,rfl⟩:=M.pure_ok.1 h6
   obtain ⟨l,hh,m⟩:=b
   obtain ⟨p,hpp,rfl⟩:=addrA_rel hp hx
   obtain ⟨b1,b2,b3,b4,b5⟩:=bounds_run (P:=P) (w:=w) false (Nat.le_refl q.1) hb r1 r2 r3
   have b1':(Instr.sliceBounds false q.1 q.1 lo' hi' mx').run P w= .ok (l,hh,m) w:=by
    rw [b1]
    split
    ·rfl
    ·rename_i hn
     have:mx=none:=by cases mx<;>simp_all
     rw [b5 this]
   refine Does.read (Alike.refl _) hw (u:= .slice (some (if m=l then ⟨p.1,p.2.1+a.2,none⟩ else ⟨p.1,p.2.1+a.2+l*j.size,none⟩)) (hh-l) (m-l)) ?_ ?_
   ·simp only [Instr.sliceAt,Sem.run_bind,run_underlying (hi0.arr ha),Result.andThen_ok,Instr.sureAddr,b1',hjk.sizeOf,Sem.run_pure]
    by_cases hml:m=l
    ·simp [hml]
    ·simp [hml,add_plain]
   ·refine ⟨p,m-l,hpp,?_,Nat.sub_le_sub_right (by omega) l,rfl⟩
    by_cases hml:m=l
    ·rw [if_pos hml]
     simp [hml,Nat.beq_refl]
    ·have:Nat.beq m l=false:=by cases hq:Nat.beq m l with|false=>rfl|true=>exact absurd (beq_true.1 hq) hml
     rw [if_neg hml]
     simp only [this,cond_false]
     rw [Nat.add_assoc]
     rfl
  |none=>
   rw [ha] at h
   cases hs:strD i.desc with
   |false=>simp only [hs,cond_false] at h;exact (M.fail_ok.1 h).elim
   |true=>
    simp only [hs,cond_true] at h
    obtain ⟨b,s2,h3,h4⟩:=M.bind_ok.1 h
    obtain ⟨hb,rfl⟩:=M.of_ok.1 h3
    obtain rfl:=strA_rel hb hx
    cases mx with
    |some mv=>exact (M.fail_ok.1 h4).elim
    |none=>
     cases mx' with
     |some _=>exact r3.elim
     |none=>
      obtain ⟨q,s3,h5,h6⟩:=M.bind_ok.1 h4
      obtain ⟨hbb,rfl⟩:=M.of_ok.1 h5
      obtain ⟨rfl,rfl⟩:=M.pure_ok.1 h6
      obtain ⟨l,hh,m⟩:=q
      have hsz:b.toList.length=b.size:=by rw [ByteArray.toList_eq];simp
      rw [hsz] at hbb
      obtain ⟨b1,b2,b3,b4,b5⟩:=bounds_run (P:=P) (w:=w) false (Nat.le_refl b.size) hbb r1 r2 (mx':=none) (ρ:=ρ) trivial
      have b1':(Instr.sliceBounds false b.size b.size lo' hi' none).run P w= .ok (l,hh,b.size) w:=by rw [b1];rfl
      refine Does.read (Alike.refl _) hw (u:= .string (b.extract l hh)) ?_ rfl
      simp [Instr.sliceAt,Instr.slice,run_underlying (hi0.str hs),b1']
end
end Go.Proofs.YtnkjkgmohmcobaaGreatDoor.Vm
