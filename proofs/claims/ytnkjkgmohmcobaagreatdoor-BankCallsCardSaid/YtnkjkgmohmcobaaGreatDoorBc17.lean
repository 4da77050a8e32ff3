/-
  Texts of this claim, joined: VZ, YA, YB, YC, YD, YE, YF, YG, YH.
-/
import Derived.Scope
import Derived.Below
import Derived.Test.YtnkjkgmohmcobaaGreatDoorBc16
set_option maxHeartbeats 6400000
set_option maxRecDepth 100000
namespace Go.Proofs.YtnkjkgmohmcobaaGreatDoor.Vm
open Go
section
variable {α:Type}
open Classical in
noncomputable def gval (f:Nat→α) (S Tch:Nat→Prop):Nat→α
 |0=>f 0
 |k+1=>if S k∧Tch k then f (k+1) else gval f S Tch k
variable {f:Nat→α} {S S' Tch:Nat→Prop}
theorem gval_low:∀(K:Nat),(∀i,i<K→Tch i→S i)→(∀i,i<K→¬Tch i→f (i+1)=f i)→gval f S Tch K=f K
 |0,_,_=>rfl
 |k+1,h1,h2=>by
  unfold gval
  by_cases ht:Tch k
  ·rw [if_pos ⟨h1 k (Nat.lt_succ_self _) ht,ht⟩]
  ·rw [if_neg (fun e=>ht e.2),gval_low k (fun i hi=>h1 i (by omega)) (fun i hi=>h2 i (by omega)),h2 k (Nat.lt_succ_self _) ht]
theorem gval_high (K:Nat):∀(L:Nat),K≤L→(∀j,K≤j→j<L→¬(S j∧Tch j))→gval f S Tch L=gval f S Tch K
 |0,h,_=>by rw [Nat.le_zero.1 h]
 |l+1,h,h1=>by
  rcases Nat.lt_or_ge K (l+1) with g|g
  ·rw [show gval f S Tch (l+1)=gval f S Tch l by
    conv=>lhs;unfold gval
    exact if_neg (h1 l (by omega) (Nat.lt_succ_self _))]
   exact gval_high K l (by omega) (fun j a b=>h1 j a (by omega))
  ·rw [Nat.le_antisymm h g]
theorem gval_congr (h:∀j,S' j∧Tch j↔S j∧Tch j):∀(L:Nat),gval f S' Tch L=gval f S Tch L
 |0=>rfl
 |l+1=>by
  unfold gval
  by_cases hc:S l∧Tch l
  ·rw [if_pos hc,if_pos ((h l).2 hc)]
  ·rw [if_neg hc,if_neg (fun e=>hc ((h l).1 e)),gval_congr h l]
theorem gval_add {k L:Nat} (hk:k<L) (hS:∀j,S' j↔S j∨j=k) (ht:Tch k) (hj:∀j,k<j→j<L→¬(S j∧Tch j)):gval f S' Tch L=f (k+1):=by
 rw [gval_high (k+1) L hk (fun j h1 h2 e=>hj j h1 h2 ⟨((hS j).1 e.1).resolve_right (by omega),e.2⟩)]
 unfold gval
 exact if_pos ⟨(hS k).2 (.inr rfl),ht⟩
end
section
variable {E:Env} {ev:Ev} {rnd:Option Nat} {ops:List Oper} {x0:AAct × Tr AObj × Nat}
noncomputable def stepS (E:Env) (ev:Ev) (rnd:Option Nat) (ops:List Oper) (k:Nat) (x:AAct × Tr AObj × Nat):(AAct × Tr AObj × Nat) × TS × TS:=
 match ops[k]? with
 |none=>(x,[],[])
 |some o=>
  match operM E ev rnd ops o x.1 (.mk x.2.1 x.2.2 [] []) with
  | .ok a (.mk h c r w)=>((a,h,c),r,w)
  | .err _=>(x,[],[])
noncomputable def seqS (E:Env) (ev:Ev) (rnd:Option Nat) (ops:List Oper) (x0:AAct × Tr AObj × Nat):Nat→AAct × Tr AObj × Nat
 |0=>x0
 |k+1=>(stepS E ev rnd ops k (seqS E ev rnd ops x0 k)).1
noncomputable def rS (E:Env) (ev:Ev) (rnd:Option Nat) (ops:List Oper) (x0:AAct × Tr AObj × Nat) (k:Nat):TS:=(stepS E ev rnd ops k (seqS E ev rnd ops x0 k)).2.1
noncomputable def wS (E:Env) (ev:Ev) (rnd:Option Nat) (ops:List Oper) (x0:AAct × Tr AObj × Nat) (k:Nat):TS:=(stepS E ev rnd ops k (seqS E ev rnd ops x0 k)).2.2
def RunAt (E:Env) (ev:Ev) (rnd:Option Nat) (ops:List Oper) (x0:AAct × Tr AObj × Nat) (k:Nat):Prop:=
 ∃o,ops[k]?=some o∧operM E ev rnd ops o (seqS E ev rnd ops x0 k).1 (.mk (seqS E ev rnd ops x0 k).2.1 (seqS E ev rnd ops x0 k).2.2 [] [])=
  .ok (seqS E ev rnd ops x0 (k+1)).1 (.mk (seqS E ev rnd ops x0 (k+1)).2.1 (seqS E ev rnd ops x0 (k+1)).2.2 (rS E ev rnd ops x0 k) (wS E ev rnd ops x0 k))
theorem seqS_step {k:Nat} {o:Oper} {a:AAct} {h:Tr AObj} {c:Nat} {r w:TS} (ho:ops[k]?=some o) (hr:operM E ev rnd ops o (seqS E ev rnd ops x0 k).1 (.mk (seqS E ev rnd ops x0 k).2.1 (seqS E ev rnd ops x0 k).2.2 [] [])= .ok a (.mk h c r w)):
  seqS E ev rnd ops x0 (k+1)=(a,h,c)∧rS E ev rnd ops x0 k=r∧wS E ev rnd ops x0 k=w:=by
 have:stepS E ev rnd ops k (seqS E ev rnd ops x0 k)=((a,h,c),r,w):=by
  unfold stepS
  rw [ho]
  simp only [hr]
 refine ⟨?_,?_,?_⟩
 ·rw [seqS,this]
 ·rw [rS,this]
 ·rw [wS,this]
def Apart (ri wi rj wj:TS):Prop:=(∀n,wi.has n→¬rj.has n∧¬wj.has n)∧∀n,wj.has n→¬ri.has n
theorem apartF_ok:∀{fp:FP} {bef:Nat} {r w:TS} {x:Nat × TS × TS},apartF bef r w fp=true→x∈fp→bef.testBit x.1=true∨Apart r w x.2.1 x.2.2
 |[],_,_,_,_,_,h=>by cases h
 |y::l,bef,r,w,x,h,hx=>by
  unfold apartF at h
  rw [Bool.and_eq_true] at h
  rcases List.mem_cons.1 hx with e|e
  ·subst e
   have h1:=h.1
   rw [Bool.or_eq_true] at h1
   rcases h1 with h1|h1
   ·exact .inl h1
   ·rw [Bool.not_eq_true',Bool.or_eq_false_iff,Bool.or_eq_false_iff] at h1
    exact .inr ⟨fun n hn=>⟨fun e=>meets_no h1.1.1 hn e,fun e=>meets_no h1.1.2 hn e⟩,fun n hn e=>meets_no h1.2 hn e⟩
  ·exact apartF_ok h.2 e
theorem has_nil (n:Nat):¬TS.has [] n:=fun ⟨_,h,_⟩=>by cases h
theorem addF_mem {k:Nat} {r w:TS} {fp:FP} {x:Nat × TS × TS} (h:x∈fp):x∈addF k r w fp:=by
 unfold addF
 cases r with
 |nil=>cases w with
  |nil=>exact h
  |cons _ _=>exact List.mem_cons_of_mem _ h
 |cons _ _=>exact List.mem_cons_of_mem _ h
theorem addF_new {k:Nat} {r w:TS} {fp:FP} :(k,r,w)∈addF k r w fp∨(r=[]∧w=[]):=by
 unfold addF
 cases r with
 |nil=>cases w with
  |nil=>exact .inr ⟨rfl,rfl⟩
  |cons _ _=>exact .inl List.mem_cons_self
 |cons _ _=>exact .inl List.mem_cons_self
theorem draw_run {bs0:List Nat} :∀(l:List Oper) (bs:List Nat) (k:Nat) (fp:FP) (r w:TS) (a':AAct) (s':St),l=ops.drop k→bs=bs0.drop k→
  drawM E ev rnd ops l bs k fp (seqS E ev rnd ops x0 k).1 (.mk (seqS E ev rnd ops x0 k).2.1 (seqS E ev rnd ops x0 k).2.2 r w)= .ok a' s'→
  (∀j,j<k→(j,rS E ev rnd ops x0 j,wS E ev rnd ops x0 j)∈fp∨(rS E ev rnd ops x0 j=[]∧wS E ev rnd ops x0 j=[]))→k≤ops.length→
  (∀i,k≤i→i<ops.length→RunAt E ev rnd ops x0 i∧∀j,j<i→((bs0[i]?).getD 0).testBit j=true∨Apart (rS E ev rnd ops x0 i) (wS E ev rnd ops x0 i) (rS E ev rnd ops x0 j) (wS E ev rnd ops x0 j))∧
  a'=(seqS E ev rnd ops x0 ops.length).1∧s'.h=(seqS E ev rnd ops x0 ops.length).2.1∧s'.c=(seqS E ev rnd ops x0 ops.length).2.2
 |[],bs,k,fp,r,w,a',s',hl,hb,h,hfp,hk=>by
  have hkn:ops.length=k:=by
   have:=congrArg List.length hl
   rw [List.length_drop,List.length_nil] at this
   omega
  unfold drawM at h
  obtain ⟨rfl,rfl⟩:=M.pure_ok.1 h
  refine ⟨fun i h1 h2=>by omega,by rw [hkn],by rw [hkn];rfl,by rw [hkn];rfl⟩
 |o::l,[],k,fp,r,w,a',s',hl,hb,h,hfp,hk=>by
  unfold drawM at h
  exact (M.fail_ok.1 h).elim
 |o::l,b::bs,k,fp,r,w,a',s',hl,hb,h,hfp,hk=>by
  have hok:ops[k]?=some o:=by
   have:=congrArg (fun l=>l[0]?) hl
   simpa using this.symm
  have hl':l=ops.drop (k+1):=by
   have:=congrArg List.tail hl
   simpa using this
  have hbk:bs0[k]?=some b:=by
   have:=congrArg (fun l=>l[0]?) hb
   simpa using this.symm
  have hb':bs=bs0.drop (k+1):=by
   have:=congrArg List.tail hb
   simpa using this
  unfold drawM at h
  obtain ⟨q,s1,h1,h2⟩:=M.bind_ok.1 h
  obtain ⟨h1',c1,r1,w1⟩:=s1
  obtain ⟨g1,g2,g3⟩:=touched_ok h1
  obtain ⟨e1,e2,e3⟩:=seqS_step (x0:=x0) hok g1
  have hrun:RunAt E ev rnd ops x0 k:=⟨o,hok,by rw [e1,e2,e3];exact g1⟩
  cases hap:apartF b q.2.1 q.2.2 fp with
  |false=>rw [bif_false _ _ hap] at h2;exact (M.fail_ok.1 h2).elim
  |true=>
   rw [bif_true _ _ hap] at h2
   have hlt:k<ops.length:=(List.getElem?_eq_some_iff.1 hok).1
   have hq:q.1=(seqS E ev rnd ops x0 (k+1)).1:=by rw [e1]
   have hh:h1'=(seqS E ev rnd ops x0 (k+1)).2.1:=by rw [e1]
   have hc:c1=(seqS E ev rnd ops x0 (k+1)).2.2:=by rw [e1]
   rw [hq,hh,hc, ← e2, ← e3] at h2
   obtain ⟨f1,f2⟩:=draw_run l bs (k+1) _ r1 w1 a' s' hl' hb' h2 (fun j hj=>by
    rcases Nat.lt_or_ge j k with g|g
    ·exact (hfp j g).imp addF_mem id
    ·obtain rfl:j=k:=by omega
     exact addF_new) hlt
   refine ⟨fun i h3 h4=>?_,f2⟩
   rcases Nat.lt_or_ge k i with g|g
   ·exact f1 i g h4
   ·obtain rfl:i=k:=by omega
    refine ⟨hrun,fun j hj=>?_⟩
    rw [hbk,e2,e3]
    rcases hfp j hj with g|⟨g4,g5⟩
    ·exact apartF_ok hap g
    ·rw [g4,g5]
     exact .inr ⟨fun n _=>⟨has_nil n,has_nil n⟩,fun n hn=>absurd hn (has_nil n)⟩
end
end Go.Proofs.YtnkjkgmohmcobaaGreatDoor.Vm
namespace Go.Proofs.YtnkjkgmohmcobaaGreatDoor.Vm
open Go
section
variable {E:Env} {ev:Ev} {rnd:Option Nat} {ops:List Oper} {s s':St}
noncomputable def putT (T:Tr AV) (n:Nat) (ds:List ADef) (dst:Option Tmp) (v:AV):AAct:=
 match dst with
 |none=> .mk T n ds
 |some d=> .mk (T.put d (some v)) n ds
theorem shift_bit (k j:Nat):(Nat.shiftLeft 1 k).testBit j=true↔j=k:=bit_one k j
theorem dstBit_iff {o:Oper} {x:Nat} :(dstBit o).testBit x=true↔o.dst=some x:=by
 unfold dstBit
 cases o.dst with
 |none=>simp
 |some d=>rw [shift_bit];exact ⟨fun e=>by rw [e],fun e=>by injection e with e;exact e.symm⟩
theorem slotsOf_bit:∀{l:List Operand} {t:Tmp},Operand.tmp t∈l→(slotsOf l).testBit t=true
 |[],_,h=>by cases h
 |x::r,t,h=>by
  unfold slotsOf
  rw [show Nat.lor (slotBit x) (slotsOf r)=slotBit x |||slotsOf r from rfl,Nat.testBit_or,Bool.or_eq_true]
  rcases List.mem_cons.1 h with e|e
  ·subst e
   exact .inl ((shift_bit t t).2 rfl)
  ·exact .inr (slotsOf_bit e)
theorem used_operand {o:Oper} {t:Tmp} (h:Operand.tmp t∈o.op.operands):(usedBits ops o).testBit t=true:=by
 unfold usedBits
 rw [show Nat.lor (slotsOf o.op.operands.toList) (guardBit ops o)=slotsOf o.op.operands.toList |||guardBit ops o from rfl,Nat.testBit_or,slotsOf_bit (by simpa using h),Bool.true_or]
theorem used_guard {o p:Oper} {g:Nat × Bool} {d:Tmp} (hg:o.guard=some g) (hp:ops[g.1]?=some p) (hd:p.dst=some d):(usedBits ops o).testBit d=true:=by
 unfold usedBits guardBit
 rw [show ∀a b,Nat.lor a b=a |||b from fun _ _=>rfl,Nat.testBit_or,hg]
 simp only [hp]
 rw [dstBit_iff.2 hd,Bool.or_true]
theorem land_zero {a b x:Nat} (h:Nat.beq (Nat.land a b) 0=true) (ha:a.testBit x=true) (hb:b.testBit x=true):False:=by
 have h1:=beq_true.1 h
 have h2:(Nat.land a b).testBit x=true:=by
  rw [show Nat.land a b=a&&& b from rfl,Nat.testBit_and,ha,hb]
  rfl
 rw [h1,Nat.zero_testBit] at h2
 cases h2
theorem wanted_sees {T T2:Tr AV} {o:Oper} (h:∀t,(usedBits ops o).testBit t=true→slotA T t=slotA T2 t):wantedA (guardC ops o) T=wantedA (guardC ops o) T2:=by
 unfold guardC
 cases hg:o.guard with
 |none=>rfl
 |some g=>
  simp only
  cases hp:ops[g.1]? with
  |none=>rfl
  |some p=>
   simp only
   cases hd:p.dst with
   |none=>rfl
   |some d=>
    simp only [wantedA]
    rw [h d (used_guard hg hp hd)]
theorem putA_put {T:Tr AV} {n:Nat} {ds:List ADef} {dst:Option Tmp} {v:AV} {a':AAct} (h:putA (.mk T n ds) dst v s= .ok a' s'):s'=s∧a'=putT T n ds dst v∧∀T2 ds2 s2,putA (.mk T2 n ds2) dst v s2= .ok (putT T2 n ds2 dst v) s2:=by
 unfold putA at h ⊢
 cases dst with
 |none=>
  obtain ⟨rfl,rfl⟩:=M.pure_ok.1 h
  exact ⟨rfl,rfl,fun _ _ _=>rfl⟩
 |some d=>
  simp only at h ⊢
  cases hb:Nat.blt d n with
  |false=>rw [bif_false _ _ hb] at h;exact (M.fail_ok.1 h).elim
  |true=>
   rw [bif_true _ _ hb] at h
   obtain ⟨rfl,rfl⟩:=M.pure_ok.1 h
   exact ⟨rfl,rfl,fun _ _ _=>rfl⟩
theorem oper_sees {o:Oper} {T:Tr AV} {n:Nat} {ds:List ADef} {a':AAct} (h:operM E ev rnd ops o (.mk T n ds) s= .ok a' s'):
  ∃v D,(isDefer o.op=false→D=[])∧a'=putT T n (D++ds) o.dst v∧∀T2 ds2,(∀t,(usedBits ops o).testBit t=true→slotA T t=slotA T2 t)→operM E ev rnd ops o (.mk T2 n ds2) s= .ok (putT T2 n (D++ds2) o.dst v) s':=by
 unfold operM at h ⊢
 simp only [AAct.t] at h ⊢
 obtain ⟨wt,s1,h1,h2⟩:=M.bind_ok.1 h
 cases wt with
 |false=>
  rw [bif_false _ _ rfl] at h2
  obtain ⟨rfl,rfl,g⟩:=putA_put h2
  refine ⟨_,[],fun _=>rfl,rfl,fun T2 ds2 hs=>M.bind_ok.2 ⟨false,_,by rw [← wanted_sees hs];exact h1,?_⟩⟩
  rw [bif_false _ _ rfl]
  exact g T2 ds2 _
 |true=>
  rw [bif_true _ _ rfl] at h2
  obtain ⟨x,s2,h3,h4⟩:=M.bind_ok.1 h2
  have hnd:=fun hd=>not_defer hd h3
  have hrun:∀T2,(∀t,(usedBits ops o).testBit t=true→slotA T t=slotA T2 t)→runC E ev T2 (opC E o.op) s1= .ok x s2:=fun T2 hs=>by
   rw [← runC_sees (T:=T) (fun y hy t ht=>hs t (used_operand (by rw [← ht];exact hy)))]
   exact h3
  cases x with
  |value v=>
   obtain ⟨rfl,rfl,g⟩:=putA_put h4
   refine ⟨v,[],fun _=>rfl,rfl,fun T2 ds2 hs=>M.bind_ok.2 ⟨true,_,by rw [← wanted_sees hs];exact h1,?_⟩⟩
   rw [bif_true _ _ rfl]
   exact M.bind_ok.2 ⟨_,_,hrun T2 hs,g T2 ds2 _⟩
  |skip=>
   obtain ⟨rfl,rfl,g⟩:=putA_put h4
   refine ⟨undefA,[],fun _=>rfl,rfl,fun T2 ds2 hs=>M.bind_ok.2 ⟨true,_,by rw [← wanted_sees hs];exact h1,?_⟩⟩
   rw [bif_true _ _ rfl]
   exact M.bind_ok.2 ⟨_,_,hrun T2 hs,g T2 ds2 _⟩
  |defer d=>
   obtain ⟨a2,s3,h5,h6⟩:=M.bind_ok.1 h4
   cases rnd with
   |some l=>exact ((M.fail_ok (s:=s2)).1 h5).elim
   |none=>
    obtain ⟨rfl,rfl⟩:=M.pure_ok.1 h5
    obtain ⟨rfl,rfl,g⟩:=putA_put h6
    refine ⟨undefA,[d],fun hd=>absurd rfl (hnd hd d),rfl,fun T2 ds2 hs=>M.bind_ok.2 ⟨true,_,by rw [← wanted_sees hs];exact h1,?_⟩⟩
    rw [bif_true _ _ rfl]
    exact M.bind_ok.2 ⟨_,_,hrun T2 hs,M.bind_ok.2 ⟨_,_,rfl,g T2 _ _⟩⟩
theorem befs_len:∀(l:List Oper) (acc:List Nat),(befs l acc).length=acc.length+l.length
 |[],acc=>rfl
 |o::r,acc=>by
  unfold befs
  rw [befs_len r,List.length_append,List.length_cons,List.length_cons,List.length_nil]
  omega
theorem befs_old:∀(l:List Oper) (acc:List Nat) (j:Nat),j<acc.length→(befs l acc)[j]?=acc[j]?
 |[],acc,j,_=>rfl
 |o::r,acc,j,h=>by
  unfold befs
  rw [befs_old r _ j (by rw [List.length_append];omega),List.getElem?_append_left h]
theorem befs_at:∀(l:List Oper) (acc:List Nat) (i:Nat) (o:Oper),l[i]?=some o→(befs l acc)[acc.length+i]?=some (befOf ((befs l acc).take (acc.length+i)) o.after.toList)
 |[],acc,i,o,h=>by simp at h
 |p::r,acc,0,o,h=>by
  obtain rfl:p=o:=by simpa using h
  unfold befs
  rw [Nat.add_zero,befs_old r _ _ (by simp),List.getElem?_append_right (Nat.le_refl _),Nat.sub_self]
  have:(befs r (acc++[befOf acc p.after.toList])).take acc.length=acc:=by
   apply List.ext_getElem?
   intro j
   rw [List.getElem?_take]
   split
   ·rename_i hj
    rw [befs_old r _ j (by rw [List.length_append];omega),List.getElem?_append_left hj]
   ·rename_i hj
    rw [List.getElem?_eq_none (by omega)]
  rw [this]
  rfl
 |p::r,acc,i+1,o,h=>by
  unfold befs
  have:=befs_at r (acc++[befOf acc p.after.toList]) i o (by simpa using h)
  rw [List.length_append,List.length_cons,List.length_nil] at this
  rw [show acc.length+(i+1)=acc.length+(0+1)+i by omega]
  exact this
theorem befOf_bit:∀{l:List Edge} {acc:List Nat} {i:Nat},(befOf acc l).testBit i=true→∃e∈l,Region.binds .any e=true∧(i=e.on∨((acc[e.on]?).getD 0).testBit i=true)
 |[],acc,i,h=>by
  unfold befOf at h
  rw [Nat.zero_testBit] at h
  cases h
 |e::l,acc,i,h=>by
  unfold befOf at h
  rw [show ∀a b,Nat.lor a b=a |||b from fun _ _=>rfl,Nat.testBit_or,Bool.or_eq_true] at h
  rcases h with h|h
  ·cases hb:Region.binds .any e with
   |false=>rw [bif_false _ _ hb,Nat.zero_testBit] at h;cases h
   |true=>
    rw [bif_true _ _ hb,show ∀a b,Nat.lor a b=a |||b from fun _ _=>rfl,Nat.testBit_or,Bool.or_eq_true] at h
    exact ⟨e,List.mem_cons_self,hb,h.imp (fun g=>(shift_bit _ _).1 g) id⟩
  ·obtain ⟨e',h1,h2⟩:=befOf_bit h
   exact ⟨e',List.mem_cons_of_mem _ h1,h2⟩
theorem edges_ok {k:Nat} :∀{l:List Edge} {e:Edge},edgesBelow k l=true→e∈l→Region.binds .any e=true→e.on<k
 |[],_,_,h,_=>by cases h
 |x::r,e,h,he,hb=>by
  unfold edgesBelow at h
  rw [Bool.and_eq_true] at h
  rcases List.mem_cons.1 he with e1|e1
  ·subst e1
   have:=h.1
   rw [hb,Bool.not_true,Bool.false_or] at this
   exact blt_true.1 this
  ·exact edges_ok h.2 e1 hb
theorem slotApart_ok {bef u d k:Nat} :∀(l:List Oper) (j i:Nat) (p:Oper),slotApart ops bef u d l j k=true→l[i]?=some p→j+i<k→
  bef.testBit (j+i)=true∨(Nat.beq (Nat.land u (dstBit p)) 0=true∧Nat.beq (Nat.land d (Nat.lor (dstBit p) (usedBits ops p))) 0=true)
 |[],_,_,_,_,h,_=>by simp at h
 |o::r,j,i,p,h,hp,hlt=>by
  unfold slotApart at h
  have hkj:Nat.ble k j=false:=by
   cases hb:Nat.ble k j with
   |false=>rfl
   |true=>have:=ble_true.1 hb;omega
  rw [hkj,Bool.false_or,Bool.and_eq_true] at h
  cases i with
  |zero=>
   obtain rfl:o=p:=by simpa using hp
   have h1:=h.1
   rw [Bool.or_eq_true,Bool.and_eq_true] at h1
   exact h1
  |succ i=>
   have:=slotApart_ok r (j+1) i p h.2 (by simpa using hp) (by omega)
   rwa [show j+1+i=j+(i+1) by omega] at this
theorem slotsOk_at:∀(l:List Oper) (bs:List Nat) (k i:Nat) (o:Oper),slotsOk ops l bs k=true→l[i]?=some o→
  (isDefer o.op=true→k+i=defAt ops 0)∧edgesBelow (k+i) o.after.toList=true∧∃b,bs[i]?=some b∧slotApart ops b (usedBits ops o) (dstBit o) ops 0 (k+i)=true
 |[],_,_,_,_,_,h=>by simp at h
 |p::r,[],_,_,_,h,_=>by cases h
 |p::r,b::bs,k,i,o,h,ho=>by
  unfold slotsOk at h
  rw [Bool.and_eq_true,Bool.and_eq_true,Bool.and_eq_true] at h
  cases i with
  |zero=>
   obtain rfl:p=o:=by simpa using ho
   have hd:isDefer p.op=true→k+0=defAt ops 0:=fun hd=>by
    have:=h.1.1.1
    rw [hd] at this
    exact beq_true.1 this
   exact ⟨hd,h.1.1.2,b,rfl,h.1.2⟩
  |succ i=>
   have:=slotsOk_at r bs (k+1) i o h.2 (by simpa using ho)
   rw [show k+1+i=k+(i+1) by omega] at this
   obtain ⟨g1,g2,b',g3,g4⟩:=this
   exact ⟨g1,g2,b',by simpa using g3,g4⟩
end
end Go.Proofs.YtnkjkgmohmcobaaGreatDoor.Vm
namespace Go.Proofs.YtnkjkgmohmcobaaGreatDoor.Vm
open Go
section
variable {P:Program} {E:Env} {ev:Ev} {rnd:Option Nat} {ρ ρ' ρ0:Ren} {w w' w0:World} {F:Fence} {n:Nat} {s s' s0:St}
theorem WRel.ext {h h':Tr AObj} (hw:WRel ρ h w) (he:∀m,h'.get m=h.get m):WRel ρ h' w:=
 ⟨fun m o ho=>hw.at_ m o (by rw [← he];exact ho),fun a b p q h1 h2=>hw.inj a b p q (by rw [← he];exact h1) (by rw [← he];exact h2)⟩
theorem Own.ext {h h':Tr AObj} (he:∀m,h'.get m=h.get m) {q:Nat} (ho:Own h' ρ q):Own h ρ q:=by
 obtain ⟨m,p,h1,h2,h3⟩:=ho
 exact ⟨m,p,by rw [← he];exact h1,h2,h3⟩
theorem Stp.within {sA sB sC sD:St} (h:Stp s0 sA ρ0 ρ w0 w) (h':Stp sB sC ρ ρ' w w') (hAB:sB.h=sA.h) (hD:sD.h=sC.h) (hDc:sD.c=sA.c) (h1:s0.c≤sB.c) (h2:sC.c≤sA.c):Stp s0 sD ρ0 ρ' w0 w':=by
 refine ⟨fun m hm=>?_,Ren.le_trans h.le h'.le,h'.os.trans h.os,h'.tape.trans h.tape,h'.output.trans h.output,Nat.le_trans h.size h'.size,fun q hq ho=>?_,fun q hq=>?_⟩
 ·rw [h'.ext m (by omega),h.ext m (by omega)]
 ·rw [h'.block q (Nat.lt_of_lt_of_le hq h.size) (fun e=>?_),h.block q hq ho]
  rw [hAB] at e
  rcases h.own q e with e|e
  ·exact ho e
  ·omega
 ·rw [hD] at hq
  rcases h'.own q hq with e|e
  ·rw [hAB] at e
   exact h.own q e
  ·exact .inr (Nat.le_trans h.size e)
structure Seq (E:Env) (ev:Ev) (rnd:Option Nat) (ops:Array Oper) (T0:Tr AV) (nt:Nat) (ds:List ADef) (A:Nat→Tr AV) (H:Nat→Tr AObj) (C:Nat→Nat) (R W:Nat→TS) (B:Nat→Nat) (V:Nat→AV) (DS:Nat→List ADef) (kd:Nat) (D:List ADef):Prop where
 run:∀(i:Nat) (o:Oper),ops[i]?=some o→operM E ev rnd ops.toList o (.mk (A i) nt (DS i)) (.mk (H i) (C i) [] [])= .ok (putT (A i) nt (DS (i+1)) o.dst (V i)) (.mk (H (i+1)) (C (i+1)) (R i) (W i))∧ .mk (A (i+1)) nt (DS (i+1))=putT (A i) nt (DS (i+1)) o.dst (V i)
 dn:∀i,i<ops.size→i≠kd→DS (i+1)=DS i
 dk:kd<ops.size→DS (kd+1)=D++DS kd
 d0:DS 0=ds
 apart:∀i,i<ops.size→∀j,j<i→(B i).testBit j=true∨Apart (R i) (W i) (R j) (W j)
 slots:∀(i:Nat) (o:Oper) (j:Nat) (p:Oper),ops[i]?=some o→ops[j]?=some p→j<i→(B i).testBit j=true∨(Nat.beq (Nat.land (usedBits ops.toList o) (dstBit p)) 0=true∧Nat.beq (Nat.land (dstBit o) (Nat.lor (dstBit p) (usedBits ops.toList p))) 0=true)
 bef:∀(i:Nat) (o:Oper),ops[i]?=some o→∀j,(B i).testBit j=true→∃e∈o.after,Region.binds .any e=true∧(j=e.on∨(B e.on).testBit j=true)
 edge:∀(i:Nat) (o:Oper),ops[i]?=some o→∀e∈o.after,Region.binds .any e=true→e.on<i
variable {ops:Array Oper} {T0:Tr AV} {nt:Nat} {ds:List ADef} {A:Nat→Tr AV} {H:Nat→Tr AObj} {C:Nat→Nat} {R W:Nat→TS} {B:Nat→Nat} {V:Nat→AV} {DS:Nat→List ADef} {kd:Nat} {D:List ADef}
def dstAt (ops:Array Oper) (i x:Nat):Prop:=∃o,ops[i]?=some o∧o.dst=some x
structure Inv (ops:Array Oper) (nt:Nat) (ds:List ADef) (A:Nat→Tr AV) (H:Nat→Tr AObj) (C:Nat→Nat) (W:Nat→TS) (kd:Nat) (D:List ADef) (s0:St) (ρ0:Ren) (w0:World) (S:Nat→Prop) (act:Act) (w:World):Prop where
 ex:∃(hS:Tr AObj) (TS:Tr AV) (ρ:Ren) (dS:List ADef),((S kd→dS=D++ds)∧(¬S kd→dS=ds))∧(∀m,hS.get m=gval (fun i=>(H i).get m) S (fun i=>(W i).has m) ops.size)∧(∀x,slotA TS x=gval (fun i=>slotA (A i) x) S (fun i=>dstAt ops i x) ops.size)∧
  ActR ρ (.mk TS nt dS) act∧WRel ρ hS w∧Stp s0 (.mk hS (C ops.size) [] []) ρ0 ρ w0 w∧∀k,k<ops.size→¬S k→∀m,C k≤m→m<C (k+1)→ρ m=none
theorem slot_put (T:Tr AV) (dst:Option Tmp) (v:AV) (x:Nat):slotA (putT T nt ds dst v).t x=if dst=some x then v else slotA T x:=by
 cases dst with
 |none=>simp [putT,AAct.t]
 |some d=>
  simp only [putT,AAct.t,slotA_put,Option.some.injEq]
  by_cases h:x=d
  ·rw [if_pos h,if_pos h.symm]
  ·rw [if_neg h,if_neg (fun e=>h e.symm)]
theorem putT_mk (T:Tr AV) (dst:Option Tmp) (v:AV):putT T nt ds dst v= .mk (putT T nt ds dst v).t nt ds:=by cases dst<;>rfl
theorem putT_d (T:Tr AV) (dst:Option Tmp) (v:AV):(putT T nt ds dst v).d=ds:=by cases dst<;>rfl
theorem Seq.mono (hs:Seq E ev rnd ops T0 nt ds A H C R W B V DS kd D) (hl:LocEv ev):∀{i j:Nat},i≤j→j≤ops.size→C i≤C j:=by
 intro i j hij
 induction hij with
 |refl=>exact fun _=>Nat.le_refl _
 |step h ih=>
  rename_i m
  intro hj
  refine Nat.le_trans (ih (by omega)) ?_
  obtain ⟨o,ho⟩:∃o,ops[m]?=some o:=⟨_,Array.getElem?_eq_getElem (by omega)⟩
  exact (Loc.operM hl _ _ _ _ _ _ _ _ _ _ _ _ _ (hs.run m o ho).1).grow
theorem inv_step (hE:EnvAll E P) (hev:EvOK P ev) (hl:LocEv ev) (hs:Seq E ev rnd ops T0 nt ds A H C R W B V DS kd D) (hF:FOf ρ0 rnd F) (h0:s0.c=C 0) {S:Nat→Prop} {i:Nat} {o:Oper} (hi:ops[i]?=some o) (hnS:¬S i)
  (hB:∀j,(B i).testBit j=true→S j) (hcl:∀j,S j→∀k,(B j).testBit k=true→S k) (hSN:∀j,S j→j<ops.size) {act:Act} (hI:Inv ops nt ds A H C W kd D s0 ρ0 w0 S act w) {K:Act→World→Prop} {Q:Exit→Act→World→Prop}
  (hK:∀act' w',Inv ops nt ds A H C W kd D s0 ρ0 w0 (fun j=>S j∨j=i) act' w'→K act' w'):wpOpIn F n P ops Q i K act w:=by
 have hiN:i<ops.size:=(Array.getElem?_eq_some_iff.1 hi).1
 obtain ⟨hS,TS,ρ,dS,i0,i1,i2,i3,i4,i5,i6⟩:=hI.ex
 obtain ⟨r1,r2⟩:=hs.run i o hi
 have at_:∀j,j<ops.size→∃p,ops[j]?=some p:=fun j hj=>⟨_,Array.getElem?_eq_getElem hj⟩
 have keepH:∀j,j<ops.size→∀m,¬(W j).has m→(H (j+1)).get m=(H j).get m:=fun j hj m hm=>by
  obtain ⟨p,hp⟩:=at_ j hj
  exact (Loc.operM hl _ _ _ _ _ _ _ _ _ _ _ _ _ (hs.run j p hp).1).keep m hm
 have keepT:∀j,j<ops.size→∀x,¬dstAt ops j x→slotA (A (j+1)) x=slotA (A j) x:=fun j hj x hx=>by
  obtain ⟨p,hp⟩:=at_ j hj
  have h1:=(hs.run j p hp).2
  have:A (j+1)=(putT (A j) nt (DS (j+1)) p.dst (V j)).t:=by rw [← h1];rfl
  rw [this,slot_put,if_neg (fun e=>hx ⟨p,hp,e⟩)]
 have later:∀j,i<j→S j→∀m,(R i).has m∨(W i).has m→¬(W j).has m:=fun j hj hSj m hm hw=>by
  rcases hs.apart j (hSN j hSj) i hj with g|g
  ·exact hnS (hcl j hSj i g)
  ·obtain ⟨g1,g2⟩:=g.1 m hw
   rcases hm with hm|hm
   ·exact g1 hm
   ·exact g2 hm
 have laterT:∀j,i<j→S j→∀x,(usedBits ops.toList o).testBit x=true∨o.dst=some x→¬dstAt ops j x:=fun j hj hSj x hx ⟨p,hp,hd⟩=>by
  rcases hs.slots j p i o hp hi hj with g|⟨_,g⟩
  ·exact hnS (hcl j hSj i g)
  ·refine land_zero g (dstBit_iff.2 hd) ?_
   rw [show ∀a b,Nat.lor a b=a |||b from fun _ _=>rfl,Nat.testBit_or,Bool.or_eq_true]
   rcases hx with hx|hx
   ·exact .inr hx
   ·exact .inl (dstBit_iff.2 hx)
 have agree:∀m,m<C i→(R i).has m∨(W i).has m→hS.get m=(H i).get m:=fun m _ hm=>by
  rw [i1,gval_high i ops.size (Nat.le_of_lt hiN) (fun j h1 h2 h3=>?_),gval_low i (fun j hj hw=>?_) (fun j hj hw=>keepH j (by omega) m hw)]
  ·rcases hs.apart i hiN j hj with g|g
   ·exact hB j g
   ·rcases hm with hm|hm
    ·exact absurd hm (g.2 m hw)
    ·exact absurd hw (g.1 m hm).2
  ·rcases Nat.lt_or_ge i j with g|g
   ·exact later j g h3.1 m hm h3.2
   ·rw [Nat.le_antisymm g h1] at h3
    exact hnS h3.1
 have agreeT:∀x,(usedBits ops.toList o).testBit x=true→slotA (A i) x=slotA TS x:=fun x hx=>by
  rw [i2,gval_high i ops.size (Nat.le_of_lt hiN) (fun j h1 h2 h3=>?_),gval_low i (fun j hj hw=>?_) (fun j hj hw=>keepT j (by omega) x hw)]
  ·obtain ⟨p,hp,hd⟩:=hw
   rcases hs.slots i o j p hi hp hj with g|⟨g,_⟩
   ·exact hB j g
   ·exact (land_zero g hx (dstBit_iff.2 hd)).elim
  ·rcases Nat.lt_or_ge i j with g|g
   ·exact laterT j g h3.1 x (.inl hx) h3.2
   ·rw [Nat.le_antisymm g h1] at h3
    exact hnS h3.1
 have lc:=Loc.operM hl _ _ _ _ _ _ _ _ _ _ _ _ _ r1
 obtain ⟨h2',r2',w2',k1,_,k3,k4⟩:=lc.again hS [] [] agree
 obtain ⟨v,D',_,e1,e2⟩:=oper_sees k1
 have hrun:=e2 TS dS agreeT
 have hD1:DS (i+1)=D'++DS i:=by have:=congrArg AAct.d e1;rwa [putT_d,putT_d] at this
 have hDi:(i=kd→D'=D)∧(i≠kd→D'=[]):=by
  refine ⟨fun e=>?_,fun e=>?_⟩
  ·subst e
   rw [hs.dk hiN] at hD1
   exact (List.append_cancel_right hD1).symm
  ·rw [hs.dn i hiN e] at hD1
   exact List.append_cancel_right (hD1.symm.trans (List.nil_append _).symm)
 have hmono:=fun {a b} h1 h2=>hs.mono (i:=a) (j:=b) hl h1 h2
 have hv:∀x,o.dst=some x→slotA (A (i+1)) x=v:=fun x hx=>by
  have:A (i+1)=(putT (A i) nt (DS (i+1)) o.dst (V i)).t:=by rw [← r2];rfl
  rw [this,e1,slot_put,if_pos hx]
 refine oper_ok hE hev hl hi hrun (hF.mono i5.le) i4 (fun m h1 h2=>i6 i hiN hnS m h1 h2) i3 (fun ρ' act' w' ha hw hst=>hK act' w' ⟨h2',(putT TS nt (D'++dS) o.dst v).t,ρ',D'++dS,⟨fun hkd=>?_,fun hkd=>?_⟩,fun m=>?_,fun x=>?_,by rw [← putT_mk];exact ha,hw,?_,fun k hk hnk m h1 h2=>?_⟩)
 ·by_cases e:i=kd
  ·subst e
   rw [hDi.1 rfl,i0.2 hnS]
  ·rw [hDi.2 e,List.nil_append]
   exact i0.1 (hkd.resolve_right (fun h=>e h.symm))
 ·have e:i≠kd:=fun h=>hkd (.inr h.symm)
  rw [hDi.2 e,List.nil_append]
  exact i0.2 (fun h=>hkd (.inl h))
 ·by_cases hm:(W i).has m
  ·rw [gval_add hiN (fun j=>Iff.rfl) hm (fun j h1 h2 h3=>later j h1 h3.1 m (.inr hm) h3.2)]
   exact k3 m (by rcases lc.wlt m hm with g|g<;>first|exact absurd g (has_nil m)|exact g) hm
  ·rw [k4 m hm,i1]
   refine (gval_congr (fun j=>?_) _).symm
   constructor
   ·rintro ⟨g1|rfl,g2⟩
    ·exact ⟨g1,g2⟩
    ·exact absurd g2 hm
   ·rintro ⟨g1,g2⟩
    exact ⟨.inl g1,g2⟩
 ·rw [slot_put]
  by_cases hx:o.dst=some x
  ·rw [if_pos hx,gval_add hiN (fun j=>Iff.rfl) ⟨o,hi,hx⟩ (fun j h1 h2 h3=>laterT j h1 h3.1 x (.inr hx) h3.2)]
   exact (hv x hx).symm
  ·rw [if_neg hx,i2]
   refine (gval_congr (fun j=>?_) _).symm
   constructor
   ·rintro ⟨g1|rfl,g2⟩
    ·exact ⟨g1,g2⟩
    ·obtain ⟨p,hp,hd⟩:=g2
     rw [hi] at hp
     injection hp with hp
     subst hp
     exact absurd hd hx
   ·rintro ⟨g1,g2⟩
    exact ⟨.inl g1,g2⟩
 ·exact Stp.within i5 hst rfl rfl rfl (by rw [h0];exact hmono (Nat.zero_le _) (Nat.le_of_lt hiN)) (hmono hiN (Nat.le_refl _))
 ·have hki:k≠i:=fun e=>hnk (.inr e)
  rw [hst.ext m (fun hh=>?_)]
  ·exact i6 k hk (fun e=>hnk (.inl e)) m h1 h2
  ·have hh1:C i≤m:=hh.1
   have hh2:m<C (i+1):=hh.2
   rcases Nat.lt_or_ge k i with g|g
   ·have:=hmono (a:=k+1) (b:=i) g (Nat.le_of_lt hiN)
    omega
   ·have:=hmono (a:=i+1) (b:=k) (by omega) (Nat.le_of_lt hk)
    omega
end
end Go.Proofs.YtnkjkgmohmcobaaGreatDoor.Vm
namespace Go.Proofs.YtnkjkgmohmcobaaGreatDoor.Vm
open Go
section
variable {P:Program} {E:Env} {ev:Ev} {rnd:Option Nat} {ρ ρ' ρ0:Ren} {w w' w0:World} {F:Fence} {n:Nat} {s s' s0:St}
variable {ops:Array Oper} {T0:Tr AV} {nt:Nat} {ds:List ADef} {A:Nat→Tr AV} {H:Nat→Tr AObj} {C:Nat→Nat} {R W:Nat→TS} {B:Nat→Nat} {V:Nat→AV} {DS:Nat→List ADef} {kd:Nat} {D:List ADef}
theorem any_ok (hE:EnvAll E P) (hev:EvOK P ev) (hl:LocEv ev) (hs:Seq E ev rnd ops T0 nt ds A H C R W B V DS kd D) (hF:FOf ρ0 rnd F) (h0:s0.c=C 0) {Q:Exit→Act→World→Prop}
  (hQ:∀act w S,(∀i,i<ops.size→S i)→(∀i,S i→i<ops.size)→Inv ops nt ds A H C W kd D s0 ρ0 w0 S act w→Q .normal act w):
  ∀(fuel:Nat) (listed:Array Bool) (act:Act) (w:World) (u:List Nat) (S:Nat→Prop),listed.size=ops.size→u.Nodup→u.length=fuel→(∀i,i∈u↔(i<ops.size∧listed.getD i true=false))→
   (∀i,S i↔(i<ops.size∧listed.getD i true=true))→(∀j,S j→∀k,(B j).testBit k=true→S k)→Inv ops nt ds A H C W kd D s0 ρ0 w0 S act w→wpAnyIn F n P .any ops Q fuel listed act w:=by
 have conv:∀{listed:Array Bool} {i:Nat},i<listed.size→listed.getD i false=listed.getD i true:=fun {listed i} h=>by simp [Array.getD,h]
 intro fuel
 induction fuel with
 |zero=>
  intro listed act w u S hz hn hl' hu hSl hcl hI
  obtain rfl:=List.eq_nil_of_length_eq_zero hl'
  refine ⟨?_,hQ act w S (fun i hi=>(hSl i).2 ⟨hi,?_⟩) (fun i hi=>((hSl i).1 hi).1) hI⟩
  ·rw [List.eq_nil_iff_forall_not_mem]
   intro i hi
   obtain ⟨h1,o,ho,_⟩:=mem_ready.1 hi
   have:=(hu i).2 ⟨(Array.getElem?_eq_some_iff.1 ho).1,h1⟩
   cases this
  ·cases hb':listed.getD i true with
   |true=>rfl
   |false=>exact absurd ((hu i).2 ⟨hi,hb'⟩) (by simp)
 |succ fuel ih=>
  intro listed act w u S hz hn hl' hu hSl hcl hI
  refine ⟨fun hnil=>?_,fun i hi=>?_⟩
  ·exfalso
   have hex:∃i,i<ops.size∧listed.getD i true=false:=by
    cases u with
    |nil=>simp at hl'
    |cons x r=>exact ⟨x,(hu x).1 List.mem_cons_self⟩
   have key:∀m,∀i,i<m→i<ops.size→listed.getD i true=false→False:=by
    intro m
    induction m with
    |zero=>intro i hi;omega
    |succ m ihm=>
     intro i hi hil hun
     obtain ⟨o,ho⟩:∃o,ops[i]?=some o:=⟨_,Array.getElem?_eq_getElem hil⟩
     have:i∈Region.ready .any ops listed:=by
      refine mem_ready.2 ⟨hun,o,ho,fun e he hb=>?_⟩
      have hlt:=hs.edge i o ho e he hb
      cases hb':listed.getD e.on false with
      |true=>rfl
      |false=>
       exfalso
       exact ihm e.on (by omega) (by omega) (by rw [← conv (by omega)];exact hb')
     rw [hnil] at this
     cases this
   obtain ⟨i,h1,h2⟩:=hex
   exact key (i+1) i (by omega) h1 h2
  ·obtain ⟨hun,o,ho,hall⟩:=mem_ready.1 hi
   have hil:i<ops.size:=(Array.getElem?_eq_some_iff.1 ho).1
   have hnS:¬S i:=fun e=>by rw [((hSl i).1 e).2] at hun;cases hun
   have hon:∀e∈o.after,Region.binds .any e=true→S e.on:=fun e he hb=>by
    have hlt:=hs.edge i o ho e he hb
    have:=hall e he hb
    rw [conv (by omega)] at this
    exact (hSl e.on).2 ⟨by omega,this⟩
   have hB:∀j,(B i).testBit j=true→S j:=fun j hj=>by
    obtain ⟨e,he,hb,rfl|hj⟩:=hs.bef i o ho j hj
    ·exact hon e he hb
    ·exact hcl e.on (hon e he hb) j hj
   refine inv_step hE hev hl hs hF h0 ho hnS hB hcl (fun j hj=>((hSl j).1 hj).1) hI (fun act' w' hI'=>?_)
   refine ih _ _ _ (u.erase i) _ (by simpa using hz) (hn.erase _) (by rw [List.length_erase_of_mem ((hu i).2 ⟨hil,hun⟩)];omega) (fun j=>?_) (fun j=>?_) (fun j hj k hk=>?_) hI'
   ·rw [hn.mem_erase_iff,hu j]
    constructor
    ·rintro ⟨h1,h2,h3⟩
     exact ⟨h2,by rw [getD_set_ne true (Ne.symm h1)];exact h3⟩
    ·rintro ⟨h2,h3⟩
     have hne:j≠i:=by
      rintro rfl
      have hin:j<listed.size:=by omega
      simp [Array.getD,hin] at h3
     exact ⟨hne,h2,by rwa [getD_set_ne true (Ne.symm hne)] at h3⟩
   ·by_cases hji:j=i
    ·subst hji
     have hin:j<listed.size:=by omega
     exact ⟨fun _=>⟨hil,by simp [Array.getD,hin]⟩,fun _=> .inr rfl⟩
    ·rw [getD_set_ne true (Ne.symm hji), ← hSl j]
     exact ⟨fun h=>h.resolve_right hji,.inl⟩
   ·rcases hj with hj|rfl
    ·exact .inl (hcl j hj k hk)
    ·exact .inl (hB k hk)
theorem draw_ok (hE:EnvAll E P) (hev:EvOK P ev) (hl:LocEv ev) {a a':AAct} {act:Act} {r w1:TS} {h1:Tr AObj} {c1:Nat} (hso:slotsOk ops.toList ops.toList (befs ops.toList []) 0=true)
  (h:drawM E ev rnd ops.toList ops.toList (befs ops.toList []) 0 [] a (.mk h1 c1 r w1)= .ok a' s') (hF:FOf ρ rnd F) (hw:WRel ρ h1 w) (hf:FreshN ρ c1 s'.c) (ha:ActR ρ a act):
  wpAnyIn F n P .any ops (Left (.mk h1 c1 r w1) s' ρ w (.normal,a')) ops.size (Array.replicate ops.size false) act w.drew:=by
 obtain ⟨T0,nt,ds⟩:=a
 obtain ⟨d1,d2,d3,d4⟩:=draw_run (E:=E) (ev:=ev) (rnd:=rnd) (ops:=ops.toList) (x0:=(.mk T0 nt ds,h1,c1)) (bs0:=befs ops.toList []) ops.toList (befs ops.toList []) 0 [] r w1 a' s' rfl rfl h (fun j hj=>by omega) (Nat.zero_le _)
 generalize hX:seqS E ev rnd ops.toList (.mk T0 nt ds,h1,c1)=X at*
 generalize hR:rS E ev rnd ops.toList (.mk T0 nt ds,h1,c1)=R at*
 generalize hW:wS E ev rnd ops.toList (.mk T0 nt ds,h1,c1)=W at*
 have hX0:X 0=(.mk T0 nt ds,h1,c1):=by rw [← hX];rfl
 have hsl:∀i o,ops[i]?=some o→ops.toList[i]?=some o:=fun i o h=>by rw [Array.getElem?_toList];exact h
 have hrun:∀i o,ops[i]?=some o→operM E ev rnd ops.toList o (X i).1 (.mk (X i).2.1 (X i).2.2 [] [])= .ok (X (i+1)).1 (.mk (X (i+1)).2.1 (X (i+1)).2.2 (R i) (W i)):=fun i o ho=>by
  obtain ⟨o',e1,e2⟩:=(d1 i (Nat.zero_le _) (by rw [Array.length_toList];exact (Array.getElem?_eq_some_iff.1 ho).1)).1
  rw [hsl i o ho] at e1
  injection e1 with e1
  subst e1
  rw [hX,hR,hW] at e2
  exact e2
 have hok:=fun i o (ho:ops[i]?=some o)=>slotsOk_at (ops:=ops.toList) ops.toList (befs ops.toList []) 0 i o hso (hsl i o ho)
 have hform:∀k,k≤ops.size→(X k).1= .mk (X k).1.t nt (X k).1.d:=by
  intro k
  induction k with
  |zero=>intro _;rw [hX0];rfl
  |succ k ih=>
   intro hk
   obtain ⟨o,ho⟩:∃o,ops[k]?=some o:=⟨_,Array.getElem?_eq_getElem (by omega)⟩
   have h2:=hrun k o ho
   rw [ih (by omega)] at h2
   obtain ⟨v,D',_,e1,_⟩:=oper_sees h2
   rw [e1,putT_d]
   exact putT_mk _ _ _
 have hstep:∀k o,ops[k]?=some o→∃D',(isDefer o.op=false→D'=[])∧(X (k+1)).1.d=D'++(X k).1.d:=fun k o ho=>by
  have h2:=hrun k o ho
  rw [hform k (Nat.le_of_lt (Array.getElem?_eq_some_iff.1 ho).1)] at h2
  obtain ⟨v,D',h4,e1,_⟩:=oper_sees h2
  exact ⟨D',h4,by rw [e1,putT_d]⟩
 obtain ⟨D,hD⟩:∃D,defAt ops.toList 0<ops.size→(X (defAt ops.toList 0+1)).1.d=D++(X (defAt ops.toList 0)).1.d:=by
  by_cases hlt:defAt ops.toList 0<ops.size
  ·obtain ⟨D',_,e⟩:=hstep _ _ (Array.getElem?_eq_getElem hlt)
   exact ⟨D',fun _=>e⟩
  ·exact ⟨[],fun h=>absurd h hlt⟩
 have hDn:∀k,k<ops.size→k≠defAt ops.toList 0→(X (k+1)).1.d=(X k).1.d:=fun k hk hne=>by
  obtain ⟨o,ho⟩:∃o,ops[k]?=some o:=⟨_,Array.getElem?_eq_getElem hk⟩
  obtain ⟨D',h4,e⟩:=hstep k o ho
  have hnd:isDefer o.op=false:=by
   cases hd:isDefer o.op with
   |false=>rfl
   |true=>have:=(hok k o ho).1 hd;omega
  rw [e,h4 hnd,List.nil_append]
 have hDall:(X ops.size).1.d=if defAt ops.toList 0<ops.size then D++ds else ds:=by
  have low:∀k,k≤ops.size→k≤defAt ops.toList 0→(X k).1.d=ds:=by
   intro k
   induction k with
   |zero=>intro _ _;rw [hX0];rfl
   |succ k ih=>intro h3 h4;rw [hDn k (by omega) (by omega)];exact ih (by omega) (by omega)
  by_cases hlt:defAt ops.toList 0<ops.size
  ·rw [if_pos hlt]
   have high:∀j,defAt ops.toList 0+1+j≤ops.size→(X (defAt ops.toList 0+1+j)).1.d=D++ds:=by
    intro j
    induction j with
    |zero=>intro _;rw [Nat.add_zero,hD hlt,low _ (Nat.le_of_lt hlt) (Nat.le_refl _)]
    |succ j ih=>intro h3;rw [← Nat.add_assoc,hDn _ (by omega) (by omega)];exact ih (by omega)
   have:=high (ops.size-(defAt ops.toList 0+1)) (by omega)
   rwa [show defAt ops.toList 0+1+(ops.size-(defAt ops.toList 0+1))=ops.size by omega] at this
  ·rw [if_neg hlt]
   exact low _ (Nat.le_refl _) (by omega)
 have hV:∀k,∃v,∀o,ops[k]?=some o→(X (k+1)).1=putT (X k).1.t nt (X (k+1)).1.d o.dst v:=by
  intro k
  cases ho:ops[k]? with
  |none=>exact ⟨undefA,fun o h=>by cases h⟩
  |some o=>
   have hk:=(Array.getElem?_eq_some_iff.1 ho).1
   have h2:=hrun k o ho
   rw [hform k (by omega)] at h2
   obtain ⟨v,D',_,e1,_⟩:=oper_sees h2
   exact ⟨v,fun o' h'=>by injection h' with h';subst h';rw [e1,putT_d]⟩
 have hlen:(befs ops.toList []).length=ops.size:=by rw [befs_len];simp
 have hs:Seq E ev rnd ops T0 nt ds (fun k=>(X k).1.t) (fun k=>(X k).2.1) (fun k=>(X k).2.2) R W (fun k=>((befs ops.toList [])[k]?).getD 0) (fun k=>(hV k).choose) (fun k=>(X k).1.d) (defAt ops.toList 0) D:=by
  refine ⟨fun i o ho=>?_,hDn,hD,by simp only [hX0];rfl,fun i hi j hj=>?_,fun i o j p ho hp hj=>?_,fun i o ho j hj=>?_,fun i o ho e he hb=>?_⟩
  ·have hk:=(Array.getElem?_eq_some_iff.1 ho).1
   have h2:=hrun i o ho
   have h3:=(hV i).choose_spec o ho
   rw [← h3]
   rw [hform i (by omega)] at h2
   exact ⟨h2,(hform (i+1) hk).symm⟩
  ·have:=(d1 i (Nat.zero_le _) (by rw [Array.length_toList];exact hi)).2 j hj
   exact this
  ·obtain ⟨_,_,b,e1,e2⟩:=hok i o ho
   rw [Nat.zero_add] at e2
   have:=slotApart_ok ops.toList 0 j p e2 (hsl j p hp) (by omega)
   rw [Nat.zero_add] at this
   simp only [e1,Option.getD_some]
   exact this
  ·have h3:=befs_at ops.toList [] i o (hsl i o ho)
   rw [List.length_nil,Nat.zero_add] at h3
   simp only [h3,Option.getD_some] at hj
   obtain ⟨e,he,hb,hh⟩:=befOf_bit hj
   refine ⟨e,by simpa using he,hb,hh.imp id (fun g=>?_)⟩
   have hlt:=edges_ok (hok i o ho).2.1 he hb
   rw [List.getElem?_take,if_pos (by omega)] at g
   exact g
  ·have:=edges_ok (hok i o ho).2.1 (by simpa using he) hb
   omega
 have hN:ops.toList.length=ops.size:=by simp
 rw [hN] at d2 d3 d4
 refine any_ok (w0:=w) (ρ0:=ρ) (s0:= .mk h1 c1 r w1) hE hev hl hs hF (by simp only [hX0];rfl) ?_ ops.size _ act w.drew (List.range ops.size) (fun _=>False) (by simp) List.nodup_range (by simp) (fun i=>?_) (fun i=>?_) (fun j hj=>hj.elim) ?_
 ·intro act2 w2 S hS hlt2 hI
  obtain ⟨hS2,TS,ρ2,dS,i0,i1,i2,i3,i4,i5,_⟩:=hI.ex
  have e1:∀m,s'.h.get m=hS2.get m:=fun m=>by
   rw [i1,gval_low ops.size (fun i hi _=>hS i hi) (fun j hj hm=>?_),d3]
   obtain ⟨p,hp⟩:∃p,ops[j]?=some p:=⟨_,Array.getElem?_eq_getElem hj⟩
   exact (Loc.operM hl _ _ _ _ _ _ _ _ _ _ _ _ _ (hs.run j p hp).1).keep m hm
  have e2:∀x,slotA a'.t x=slotA TS x:=fun x=>by
   rw [i2,gval_low ops.size (fun i hi _=>hS i hi) (fun j hj hx=>?_),d2]
   obtain ⟨p,hp⟩:∃p,ops[j]?=some p:=⟨_,Array.getElem?_eq_getElem hj⟩
   have h1:=(hs.run j p hp).2
   have:(X (j+1)).1.t=(putT (X j).1.t nt (X (j+1)).1.d p.dst (hV j).choose).t:=by rw [← h1];rfl
   rw [this,slot_put,if_neg (fun e=>hx ⟨p,hp,e⟩)]
  have e3:a'= .mk a'.t nt a'.d:=by rw [d2];exact hform _ (Nat.le_refl _)
  have e4:a'.d=dS:=by
   rw [d2,hDall]
   by_cases hlt:defAt ops.toList 0<ops.size
   ·rw [if_pos hlt]
    exact (i0.1 (hS _ hlt)).symm
   ·rw [if_neg hlt]
    exact (i0.2 (fun h=>hlt (hlt2 _ h))).symm
  refine ⟨ρ2,.normal,?_,i4.ext e1,?_⟩
  ·rw [e3,e4]
   exact ⟨⟨i3.t.1,fun x=>by show VRel ρ2 (slotA a'.t x) _;rw [e2];exact i3.t.2 x⟩,i3.d⟩
  ·refine ⟨fun m hm=>i5.ext m (fun hh=>hm ⟨hh.1,by rw [d4];exact hh.2⟩),i5.le,i5.os,i5.tape,i5.output,i5.size,i5.block,fun q hq=>i5.own q (Own.ext (h:=hS2) e1 hq)⟩
 ·rw [List.mem_range]
  constructor
  ·intro h
   exact ⟨h,by simp [Array.getD,h]⟩
  ·exact fun h=>h.1
 ·constructor
  ·exact fun h=>h.elim
  ·rintro ⟨h1,h2⟩
   simp [Array.getD,h1] at h2
 ·refine ⟨h1,T0,ρ,ds,⟨fun h=>h.elim,fun _=>rfl⟩,fun m=>?_,fun x=>?_,ha,hw.heap (s:= .mk h1 c1 r w1) rfl,?_,fun k hk _ m g1 g2=>?_⟩
  ·rw [gval_high 0 ops.size (Nat.zero_le _) (fun j _ _ hh=>hh.1)]
   show h1.get m=(X 0).2.1.get m
   rw [hX0]
  ·rw [gval_high 0 ops.size (Nat.zero_le _) (fun j _ _ hh=>hh.1)]
   show slotA T0 x=slotA (X 0).1.t x
   rw [hX0]
   rfl
  ·exact ⟨fun _ _=>rfl,Ren.le_refl _,rfl,rfl,rfl,Nat.le_refl _,fun _ _ _=>rfl,fun q hq=> .inl hq⟩
  ·have m1:=hs.mono hl (Nat.zero_le k) (Nat.le_of_lt hk)
   have m2:=hs.mono hl (show k+1≤ops.size from hk) (Nat.le_refl _)
   simp only [hX0] at m1
   refine hf m (Nat.le_trans m1 g1) ?_
   rw [d4]
   exact Nat.lt_of_lt_of_le g2 m2
end
end Go.Proofs.YtnkjkgmohmcobaaGreatDoor.Vm
namespace Go.Proofs.YtnkjkgmohmcobaaGreatDoor.Vm
open Go
section
variable {P:Program} {E:Env} {ev:Ev} {rnd:Option Nat} {ρ ρ' ρ0:Ren} {w w' w0:World} {F:Fence} {n:Nat} {s s' s0:St}
theorem stepR_scope {b:Frame} {a:Act} {k:List Item} {cs:List Frame} {c:Code} :step P (lone (b.atR a (.code (.scope c)::k)) cs w)= .next (lone (b.atR a (.code c:: .inScope c::k)) cs w):=
 step_lone_go (by simp [stepG,stepG.exec,Frame.atR])
theorem stepR_inScope {b:Frame} {a:Act} {k:List Item} {cs:List Frame} {c:Code} :step P (lone (b.atR a (.inScope c::k)) cs w)= .next (lone (b.atR a k) cs w):=
 step_lone_go (by simp [stepG,stepG.exec,Frame.atR])
theorem wpIn_scope {c:Code} {Q:Exit→Act→World→Prop} {a:Act} (h:c.wpIn F n P (Exit.noGoto Q) a w):(Code.scope c).wpIn F n P Q a w:=by
 intro b k cs hro hb hr
 have h0:(lone (b.atR a (.code (.scope c)::k)) cs w).fenced P F:=fenced_calm hb hr rfl
 obtain ⟨e,a₁,w₁,hq,harr⟩:=h b (.inScope c::k) cs hro hb hr
 have hx:∀id,exitTo id (.inScope c::k)=exitTo id k:=fun id=>by simp [exitTo]
 cases e with
 |normal=>exact ⟨.normal,a₁,w₁,hq,.head h0 stepR_scope (StepsIn.trans harr (.one (fenced_calm hb hr rfl) stepR_inScope))⟩
 |exit id=>exact ⟨.exit id,a₁,w₁,hq,fun k' hk=> .head h0 stepR_scope (harr.1 k' (by rw [hx];exact hk)),
   fun hr' hk=>let ⟨k₁,h1,h2⟩:=harr.2 hr' (by rw [hx];exact hk);⟨k₁,h1,.head h0 stepR_scope h2⟩⟩
 |goto l=>exact hq.elim
 |ret=>exact ⟨_,a₁,w₁,hq,.of_steps (.one h0 stepR_scope) harr⟩
 |panic ch=>exact ⟨_,a₁,w₁,hq,.of_steps (.one h0 stepR_scope) harr⟩
 |outgrown=>exact ⟨_,a₁,w₁,hq,.of_steps (.one h0 stepR_scope) harr⟩
theorem ops_ok (hE:EnvAll E P) (hev:EvOK P ev) (hl:LocEv ev) {ops:Array Oper} {Q:Exit→Act→World→Prop} {a':AAct} :
  ∀(l:List Oper) (k:Nat) (a:AAct) (s:St) (ρ:Ren) (act:Act) (w:World),l=ops.toList.drop k→opsM E ev rnd ops.toList l a s= .ok a' s'→FOf ρ rnd F→WRel ρ s.h w→FreshN ρ s.c s'.c→ActR ρ a act→Stp s0 s ρ0 ρ w0 w→s0.c≤s.c→
   (∀ρ' act' w',ActR ρ' a' act'→WRel ρ' s'.h w'→Stp s0 s' ρ0 ρ' w0 w'→Q .normal act' w')→wpOpsIn F n P ops Q (List.range' k l.length) act w
 |[],k,a,s,ρ,act,w,hlk,h,hF,hw,hf,ha,hst,hc,hQ=>by
  obtain ⟨rfl,rfl⟩:=M.pure_ok.1 h
  exact hQ ρ act w ha hw hst
 |o::l,k,a,s,ρ,act,w,hlk,h,hF,hw,hf,ha,hst,hc,hQ=>by
  have hok:ops[k]?=some o:=by
   have:=congrArg (fun l=>l[0]?) hlk
   simpa using this.symm
  have hl':l=ops.toList.drop (k+1):=by
   have:=congrArg List.tail hlk
   simpa using this
  obtain ⟨a1,s1,h1,h2⟩:=M.bind_ok.1 h
  have c1:=(Loc.operM hl _ _ _ _).le h1
  have c2:=(Loc.opsM hl _ _ _ _).le h2
  rw [List.length_cons,List.range'_succ,wpOpsIn_cons]
  refine oper_ok hE hev hl hok h1 hF hw (hf.sub (Nat.le_refl _) c2) ha (fun ρ' act' w' g1 g2 g3=>?_)
  exact ops_ok hE hev hl l (k+1) a1 s1 ρ' act' w' hl' h2 (hF.mono g3.le) g2 (hf.step g3 c1) g1 (Stp.trans hst g3 hc c1) (Nat.le_trans hc c1) hQ
theorem ExR.normal_of {e:Exit} (h:ExR .normal e):e= .normal:=by cases h;rfl
theorem ExR.other {ae:AExit} {e:Exit} (h:ExR ae e) (hn:isNormal ae=false) {N:Act→World→Prop} {Q:Exit→Act→World→Prop} {act:Act} (hq:Q e act w):Exit.then N Q e act w:=by
 cases h with
 |normal=>cases hn
 |exit i=>exact hq
 |ret=>exact hq
theorem Left.noGoto {q:AExit × AAct} {e:Exit} {act:Act} (h:Left s s' ρ w q e act w'):Exit.noGoto (Left s s' ρ w q) e act w':=by
 obtain ⟨ρ',h1,h2⟩:=h
 cases hq:q.1<;>rw [hq] at h1<;>cases h1<;>exact ⟨ρ',by rw [hq];constructor,h2⟩
theorem Left.inBlock {q:AExit × AAct} {e:Exit} {act:Act} {id:Nat} (h:Left s s' ρ w q e act w'):Exit.inBlock id (Left s s' ρ w (outOf id q.1,q.2)) e act w':=by
 obtain ⟨ρ',h1,h2⟩:=h
 obtain ⟨qe,qa⟩:=q
 cases h1 with
 |normal=>exact ⟨ρ',.normal,h2⟩
 |ret=>exact ⟨ρ',.ret,h2⟩
 |exit i=>
  simp only [Exit.inBlock,outOf]
  by_cases hi:i=id
  ·rw [if_pos hi,bif_true _ _ (beq_true.2 hi)]
   exact ⟨ρ',.normal,h2⟩
  ·rw [if_neg hi,bif_false _ _ (by cases hb:Nat.beq i id with|false=>rfl|true=>exact absurd (beq_true.1 hb) hi)]
   exact ⟨ρ',.exit i,h2⟩
end
end Go.Proofs.YtnkjkgmohmcobaaGreatDoor.Vm
namespace Go.Proofs.YtnkjkgmohmcobaaGreatDoor.Vm
open Go
section
variable {P:Program} {E:Env} {ev:Ev} {rnd:Option Nat} {ρ ρ' ρ0:Ren} {w w' w0:World} {F:Fence} {n:Nat} {s s' s0:St}
theorem FOf.round (h:FOf ρ rnd F):(rnd=none∧F.round=none)∨∃l p,rnd=some l∧ρ l=some p∧F.round=some p.1:=by
 unfold FOf at h
 cases rnd with
 |none=>exact .inl ⟨rfl,by rw [h];rfl⟩
 |some l=>obtain ⟨p,h1,rfl⟩:=h;exact .inr ⟨l,p,rfl,h1,rfl⟩
theorem pend_ok {pe:Option Code} {e:AExit} (h:pendA pe=some e) {Q:Exit→Act→World→Prop} {act:Act} (hQ:∀e',ExR e e'→Q e' act w):
  (match pe with|none=>Q .normal act w|some c=>c.wpIn F n P Q act w):=by
 unfold pendA at h
 cases pe with
 |none=>
  simp only [Option.some.injEq] at h
  subst h
  exact hQ _ .normal
 |some c=>
  cases c<;>simp only [Option.some.injEq,reduceCtorEq] at h<;>subst h
  ·exact wpIn_exit (hQ _ (.exit _))
  ·exact wpIn_ret (hQ _ .ret)
theorem mark_ok {T:Tr AV} {nt:Nat} {ps:Array Tmp} {az bd:Code} {mk:Nat × List ADef} {l:Nat} {s1 s2:St} (h1:markM rnd s= .ok mk s1) (h2:newM (.loop .ready none T nt ps.toList az bd mk.1) s1= .ok l s2)
  (hF:FOf ρ rnd F) (hw:WRel ρ s.h w) (hf:FreshN ρ s.c s2.c) {tmps:Array Value} (hT:TRel ρ T nt tmps) (fn:FuncId):
  ∃ρ2 w2 p mks,(Instr.enterLoop fn tmps ps az bd F.round).run P w= .ok (p,mks) w2∧(∃k,ρ2 l=some (p,k))∧DRel ρ2 mk.2 mks∧WRel ρ2 s2.h w2∧Stp s s2 ρ ρ2 w w2∧s.c≤s2.c:=by
 obtain ⟨rfl,hs2⟩:=newM_ok.1 h2
 have hc2:s2.c=s1.c+1:=by rw [hs2];rfl
 rcases hF.round with ⟨rfl,hr⟩|⟨l0,p0,rfl,hp0,hr⟩
 ·unfold markM at h1
  obtain ⟨r,s3,h3,h4⟩:=M.bind_ok.1 h1
  obtain ⟨rfl,rfl⟩:=M.pure_ok.1 h4
  obtain ⟨rfl,hs3⟩:=newM_ok.1 h3
  have hc1:s1.c=s.c+1:=by rw [hs3];rfl
  have n1:=new_rel (s':=s1) (o:= .defs (some [])) (ob:= .deferred (some [])) (κ:=0) hw (hf.at (by omega)) (by rw [hs3];rfl) (by rw [hs3];rfl) ⟨some [],rfl,[],rfl,rfl⟩
  have hfr:(ρ.put s.c (w.heap.size,0,0)) s1.c=none:=by
   unfold Ren.put
   rw [if_neg (by omega)]
   exact hf s1.c (by omega) (by omega)
  have hT1:TRel ((ρ.put s.c (w.heap.size,0,0)).put s1.c ((w.alloc (.deferred (some []))).heap.size,0,0)) T nt tmps:=(hT.mono (Ren.put_le (hf.at (by omega)) _)).mono (Ren.put_le hfr _)
  have n2:=new_rel (s':=s2) (o:= .loop .ready none T nt ps.toList az bd s.c) (ob:= .loop {state:= .ready,pending:=none,fn,tmps,params:=ps,assign:=az,body:=bd,defers:=w.heap.size}) (κ:=0) n1.1 hfr (by rw [hs2];rfl) (by rw [hs2];rfl)
   ⟨_,rfl,rfl,rfl,hT1,rfl,rfl,rfl,_,Ren.put_le hfr _ _ _ (Ren.put_same _ _ _),rfl⟩
  refine ⟨_,_,(w.alloc (.deferred (some []))).heap.size,[{target:= .collected w.heap.size,args:=#[]}],?_,⟨_,Ren.put_same _ _ _⟩,⟨_,[],rfl,⟨_,Ren.put_le hfr _ _ _ (Ren.put_same _ _ _),rfl⟩,rfl⟩,n2.1,Stp.trans n1.2 n2.2 (by omega) (by omega),by omega⟩
  rw [hr]
  rfl
 ·unfold markM at h1
  obtain ⟨rr,s3,h3,h4⟩:=M.bind_ok.1 h1
  obtain ⟨st,pe,t,m,qs,as0,bd0,dn⟩:=rr
  obtain ⟨rfl,rfl⟩:=M.pure_ok.1 h4
  obtain ⟨g1,g2⟩:=loopM_ok h3
  have hc1:s1.c=s.c:=g2.2
  obtain ⟨r0,k1,k2,k3⟩:=hw.loop (P:=P) g1 hp0
  obtain ⟨_,_,_,_,_,_,dq,k4,k5⟩:=k2
  have hfr:ρ s1.c=none:=hf s1.c (by omega) (by omega)
  have n2:=new_rel (s':=s2) (o:= .loop .ready none T nt ps.toList az bd dn) (ob:= .loop {state:= .ready,pending:=none,fn,tmps,params:=ps,assign:=az,body:=bd,defers:=r0.defers}) (κ:=0) (hw.alike g2) hfr (by rw [hs2];rfl) (by rw [hs2];rfl)
   ⟨_,rfl,rfl,rfl,hT.mono (Ren.put_le hfr _),rfl,rfl,rfl,dq,Ren.put_le hfr _ _ _ k4,k5⟩
  refine ⟨_,_,w.heap.size,[],?_,⟨_,Ren.put_same _ _ _⟩,rfl,n2.1,g2.stp n2.2,by omega⟩
  rw [hr]
  simp only [Instr.enterLoop,Sem.run_bind,k3,Result.andThen_ok,Sem.run_pure]
  rfl
theorem range_ok (hev:EvOK P ev) (hl:LocEv ev) {f:Operand} {ps:Array Tmp} {az bd:Code} {a:AAct} {q:AExit × AAct} (h:rangeC (opd f) ps.toList az bd ev rnd a s= .ok q s'):CodeOK P rnd (.rangeFunc f ps az bd) a s q s':=by
 intro ρ w act F n hF hw hf ha
 obtain ⟨T,nt,ds⟩:=a
 unfold rangeC at h
 simp only at h
 obtain ⟨mk,s1,h1,h2⟩:=M.bind_ok.1 h
 obtain ⟨l,s2,h3,h4⟩:=M.bind_ok.1 h2
 obtain ⟨fv,s3,h5,h6⟩:=M.bind_ok.1 h4
 obtain ⟨fq,s4,h7,h8⟩:=M.bind_ok.1 h6
 obtain ⟨hfq,rfl⟩:=M.of_ok.1 h7
 obtain ⟨v,s5,h9,h10⟩:=M.bind_ok.1 h8
 obtain ⟨e,s6,h11,h12⟩:=M.bind_ok.1 h10
 obtain ⟨rfl,rfl⟩:=M.pure_ok.1 h12
 have c1:=(Loc.markM rnd).le h1
 have c2:=(Loc.newM _).le h3
 have c5:=(hl.call _ _).le h9
 have c6:=(Loc.overM l).le h11
 obtain ⟨rfl,_⟩:=rd_rel (ρ:=ρ) h5 ha.t
 refine wpIn_rangeFunc (fun fn _=>?_)
 obtain ⟨ρ2,w2,p,mks,g1,⟨k,g2⟩,g3,g4,g5,g6⟩:=mark_ok (P:=P) h1 h3 hF hw (hf.sub (Nat.le_refl _) (by omega)) ha.t fn
 obtain ⟨_,hfr⟩:=rd_rel h5 (ha.mono g5.le).t
 obtain ⟨x,y,e1,e2,e3⟩:=fnOnly_rel hfq hfr
 obtain ⟨en,hc⟩:=hev.call _ _ _ _ _ h9
 have hy:VRel ρ2 (.yield l) (.func (.yield p) #[] #[]):=⟨_,g2,rfl⟩
 have hargs:LRel ρ2 (fq.2.1++[.yield l]++fq.2.2) ((x++ #[Value.func (.yield p) #[] #[]])++y).toList:=by
  rw [Array.toList_append,Array.toList_append]
  exact LRel.append (LRel.append e2 (LRel.cons_iff.2 ⟨_,[],rfl,hy,LRel.nil_iff.2 rfl⟩)) e3
 refine ⟨p,mks,w2, {target:= .fn (.func fq.1) y,args:=x++ #[Value.func (.yield p) #[] #[]]},w2,fq.1,(x++ #[Value.func (.yield p) #[] #[]])++y,w2,g1,?_,fun f' _=>hF.fn f',en _ _,hF.depth,CallsIn.mono (hF.wide (hc ρ2 w2 _ _ g4 (hf.step g5 g6 |>.sub (Nat.le_refl _) (by omega)) hargs)) ?_⟩
 ·have hres:resolve act.eval (rangeCall f p) 0=Deferred.ofValue (act.eval f) #[Value.func (.yield p) #[] #[]]:=by
   simp only [resolve]
   congr 1
   exact Array.ext' (by simp [Act.eval])
  rw [hres,e1]
  rfl
 ·rintro e' w3 ⟨ρ3,u,rfl,hv,hw3,hs3⟩
  unfold overM at h11
  obtain ⟨rr,s7,y1,y2⟩:=M.bind_ok.1 h11
  obtain ⟨st,pe,t,m,qs,as0,bd0,dn⟩:=rr
  obtain ⟨y3,y4⟩:=loopM_ok y1
  simp only at y2
  cases hb:isBusy st with
  |true=>rw [bif_true _ _ hb] at y2;exact (M.fail_ok.1 y2).elim
  |false=>
   rw [bif_false _ _ hb] at y2
   obtain ⟨_,s8,y5,y6⟩:=M.bind_ok.1 y2
   obtain ⟨hpe,rfl⟩:=M.of_ok.1 y6
   have hp3:=hs3.le _ _ g2
   obtain ⟨r,z1,z2,z3⟩:=hw3.loop (P:=P) y3 hp3
   obtain ⟨b1,b2,b3,b4,b5,b6,bq,b7,b8⟩:=z2
   obtain ⟨d1,d2,d3,d4⟩:=loopset_rel (P:=P) (r:= {r with state:= .exhausted}) (hw3.alike y4) (by rw [y4.1];exact y3) hp3 z1 ⟨rfl,b2,b3,b4,b5,b6,bq,b7,b8⟩ y5
   have hnb:(r.state== .busy)=false:=by rw [b1];cases st<;>first|rfl|cases hb
   refine ⟨pe, {w3 with heap:=w3.heap.setIfInBounds p (.loop {r with state:= .exhausted})},?_,?_⟩
   ·simp only [Instr.endLoop,Sem.run_bind,z3,Result.andThen_ok,hnb,Bool.false_eq_true,if_false,d1,Sem.run_pure]
    rw [b2]
   ·have hst:Stp s s' ρ ρ3 w {w3 with heap:=w3.heap.setIfInBounds p (.loop {r with state:= .exhausted})} :=Stp.trans (Stp.trans g5 hs3 g6 (by omega)) (y4.stp d3) (by omega) (by omega)
    have hpend:=pend_ok (P:=P) (F:=F) (n:=n) (Q:=Left s s' ρ w (e,.mk T nt (mk.2++ds))) (act:= {act with defers:=mks++act.defers}) hpe (fun e' he'=>⟨ρ3,he',⟨(ha.mono hst.le).t,DRel.append (g3.mono hs3.le) (ha.mono hst.le).d⟩,d2,hst⟩)
    cases pe with
    |none=>exact hpend
    |some c=>exact hpend
theorem draws_ok (hE:EnvAll E P) (hev:EvOK P ev) (hl:LocEv ev) {id:Nat} {ops:Array Oper} {a:AAct} {q:AExit × AAct} (h:drawC E ops.toList ev rnd a s= .ok q s'):CodeOK P rnd (.region id ops true) a s q s':=by
 intro ρ w act F n hF hw hf ha
 unfold drawC at h
 cases hso:slotsOk ops.toList ops.toList (befs ops.toList []) 0 with
 |false=>rw [bif_false _ _ hso] at h;exact (M.fail_ok.1 h).elim
 |true=>
  rw [bif_true _ _ hso] at h
  obtain ⟨a',s1,h1,h2⟩:=M.bind_ok.1 h
  obtain ⟨rfl,rfl⟩:=M.pure_ok.1 h2
  obtain ⟨h0,c0,r0,w0⟩:=s
  exact wpIn_region_any hE.mixed (draw_ok hE hev hl hso h1 hF hw hf ha)
theorem loop_ok (hl:LocEv ev) {x:CodeC} {c:Code} (hlx:∀a,Loc (x ev rnd a)) (hx:∀a s q s',x ev rnd a s= .ok q s'→CodeOK P rnd c a s q s') {Q:Exit→Act→World→Prop} {q:AExit × AAct} (hF0:FOf ρ0 rnd F)
  (hQ:∀e act' w',Left s0 s' ρ0 w0 q e act' w'→Q e act' w'):
  ∀(m:Nat) (a:AAct) (s:St) (ρ:Ren) (act:Act) (w:World),loopN x ev rnd m a s= .ok q s'→WRel ρ s.h w→FreshN ρ s.c s'.c→ActR ρ a act→Stp s0 s ρ0 ρ w0 w→s0.c≤s.c→Code.roundsIn F n P c Q m act w
 |0,a,s,ρ,act,w,h,_,_,_,_,_=>((M.fail_ok (s:=s)).1 h).elim
 |m+1,a,s,ρ,act,w,h,hw,hf,ha,hst,hc=>by
  obtain ⟨q1,s1,h1,h2⟩:=M.bind_ok.1 h
  have c1:=(hlx a).le h1
  have c2:s1.c≤s'.c:=by
   refine Loc.le (m:=bif isNormal q1.1 then loopN x ev rnd m q1.2 else M.pure q1) (Loc.cond (Loc.loopN hlx m _) (Loc.pure _)) h2
  rw [roundsIn_succ]
  refine wpIn_mono (hx a s q1 s1 h1 ρ w act F n (hF0.mono hst.le) hw (hf.sub (Nat.le_refl _) c2) ha) (fun e act1 w1 hleft=>?_)
  obtain ⟨ρ1,g1,g2,g3,g4⟩:=hleft
  have hst1:=Stp.trans hst g4 hc c1
  cases hn:isNormal q1.1 with
  |true=>
   rw [bif_true _ _ hn] at h2
   rw [isNormal_iff.1 hn] at g1
   rw [g1.normal_of]
   exact loop_ok hl hlx hx hF0 hQ m q1.2 s1 ρ1 act1 w1 h2 g3 (hf.step g4 c1) g2 hst1 (Nat.le_trans hc c1)
  |false=>
   rw [bif_false _ _ hn] at h2
   obtain ⟨rfl,rfl⟩:=M.pure_ok.1 h2
   exact g1.other hn (hQ e act1 w1 ⟨ρ1,g1,g2,g3,hst1⟩)
theorem code_ok (hE:EnvAll E P) (hev:EvOK P ev) (hl:LocEv ev) (c:Code):∀(rnd:Option Nat) (a:AAct) (s:St) (q:AExit × AAct) (s':St),codeC E c ev rnd a s= .ok q s'→CodeOK P rnd c a s q s':=by
 induction c with
 |region id ops draw=>
  intro rnd a s q s' h
  cases draw with
  |true=>exact draws_ok hE hev hl h
  |false=>
   intro ρ w act F n hF hw hf ha
   obtain ⟨a',s1,h1,h2⟩:=M.bind_ok.1 h
   obtain ⟨rfl,rfl⟩:=M.pure_ok.1 h2
   refine wpIn_region ?_
   rw [List.range_eq_range', ← Array.length_toList]
   exact ops_ok (s0:=s) (ρ0:=ρ) (w0:=w) hE hev hl ops.toList 0 a s ρ act w rfl h1 hF hw hf ha (Stp.alike (Alike.refl _)) (Nat.le_refl _) (fun ρ' act' w' g1 g2 g3=>⟨ρ',.normal,g1,g2,g3⟩)
 |seq x y hx hy=>
  intro rnd a s q s' h ρ w act F n hF hw hf ha
  obtain ⟨q1,s1,h1,h2⟩:=M.bind_ok.1 h
  have c1:=(Loc.codeC hl x rnd a).le h1
  have c2:s1.c≤s'.c:=Loc.le (m:=bif isNormal q1.1 then codeC E y ev rnd q1.2 else M.pure q1) (Loc.cond (Loc.codeC hl y rnd _) (Loc.pure _)) h2
  refine wpIn_seq (wpIn_mono (hx rnd a s q1 s1 h1 ρ w act F n hF hw (hf.sub (Nat.le_refl _) c2) ha) (fun e act1 w1 hleft=>?_))
  obtain ⟨ρ1,g1,g2,g3,g4⟩:=hleft
  cases hn:isNormal q1.1 with
  |true=>
   rw [bif_true _ _ hn] at h2
   rw [isNormal_iff.1 hn] at g1
   rw [g1.normal_of]
   exact wpIn_mono (hy rnd q1.2 s1 q s' h2 ρ1 w1 act1 F n (hF.mono g4.le) g3 (hf.step g4 c1) g2) (fun e act2 w2 hl2=>hl2.pre g4 c1 c2)
  |false=>
   rw [bif_false _ _ hn] at h2
   obtain ⟨rfl,rfl⟩:=M.pure_ok.1 h2
   exact g1.other hn ⟨ρ1,g1,g2,g3,g4⟩
 |cond c x y hx hy=>
  intro rnd a s q s' h ρ w act F n hF hw hf ha
  obtain ⟨v,s1,h1,h2⟩:=M.bind_ok.1 h
  obtain ⟨rfl,g1⟩:=rd_rel h1 ha.t
  obtain ⟨b,s2,h3,h4⟩:=M.bind_ok.1 h2
  obtain ⟨hb,rfl⟩:=M.of_ok.1 h3
  refine wpIn_cond (boolA_rel hb g1) ?_
  cases b with
  |true=>exact hx rnd a _ q s' h4 ρ w act F n hF hw hf ha
  |false=>exact hy rnd a _ q s' h4 ρ w act F n hF hw hf ha
 |block id x hx=>
  intro rnd a s q s' h ρ w act F n hF hw hf ha
  obtain ⟨q1,s1,h1,h2⟩:=M.bind_ok.1 h
  obtain ⟨rfl,rfl⟩:=M.pure_ok.1 h2
  exact wpIn_block (wpIn_mono (hx rnd a s q1 _ h1 ρ w act F n hF hw hf ha) (fun e act1 w1 hleft=>hleft.inBlock))
 |loop x hx=>
  intro rnd a s q s' h ρ w act F n hF hw hf ha
  exact wpIn_loop_rounds ev.fuel (loop_ok (s0:=s) (ρ0:=ρ) (w0:=w) hl (fun a=>Loc.codeC hl x rnd a) (fun a s q s'=>hx rnd a s q s') hF (fun _ _ _ h=>h) ev.fuel a s ρ act w h hw hf ha (Stp.alike (Alike.refl _)) (Nat.le_refl _))
 |scope x hx=>
  intro rnd a s q s' h ρ w act F n hF hw hf ha
  exact wpIn_scope (wpIn_mono (hx rnd a s q s' h ρ w act F n hF hw hf ha) (fun e act1 w1 hleft=>hleft.noGoto))
 |rangeFunc f ps az bd _ _=>exact fun rnd a s q s' h=>range_ok hev hl h
 |exit id=>
  intro rnd a s q s' h ρ w act F n hF hw hf ha
  obtain ⟨rfl,rfl⟩:=M.pure_ok.1 h
  exact wpIn_exit ⟨ρ,.exit id,ha,hw,Stp.alike (Alike.refl _)⟩
 |ret=>
  intro rnd a s q s' h ρ w act F n hF hw hf ha
  obtain ⟨rfl,rfl⟩:=M.pure_ok.1 h
  exact wpIn_ret ⟨ρ,.ret,ha,hw,Stp.alike (Alike.refl _)⟩
 |skip=>
  intro rnd a s q s' h ρ w act F n hF hw hf ha
  obtain ⟨rfl,rfl⟩:=M.pure_ok.1 h
  exact wpIn_skip ⟨ρ,.normal,ha,hw,Stp.alike (Alike.refl _)⟩
 |label l=>
  intro rnd a s q s' h ρ w act F n hF hw hf ha
  obtain ⟨rfl,rfl⟩:=M.pure_ok.1 h
  exact wpIn_label ⟨ρ,.normal,ha,hw,Stp.alike (Alike.refl _)⟩
 |goto l=>exact fun rnd a s q s' h=>((M.fail_ok (s:=s)).1 h).elim
 |refuse w=>exact fun rnd a s q s' h=>((M.fail_ok (s:=s)).1 h).elim
end
end Go.Proofs.YtnkjkgmohmcobaaGreatDoor.Vm
namespace Go.Proofs.YtnkjkgmohmcobaaGreatDoor.Vm
open Go
section
variable {P:Program} {E:Env} {ev:Ev} {rnd:Option Nat} {ρ ρ' ρ0:Ren} {w w' w0:World} {F:Fence} {n:Nat} {s s' s0:St}
theorem slotA_nil (k:Nat):slotA .nil k=undefA:=rfl
theorem args0_slot:∀(l:List AV) (t:Tr AV) (j k:Nat),slotA (args0 t j l) k=if j≤k∧k<j+l.length then (l[k-j]?).getD undefA else slotA t k
 |[],t,j,k=>by
  rw [if_neg (by rw [List.length_nil];omega)]
  rfl
 |v::r,t,j,k=>by
  unfold args0
  rw [show Nat.succ j=j+1 from rfl,args0_slot r _ (j+1) k,slotA_put,List.length_cons]
  by_cases h1:k=j
  ·subst h1
   rw [if_neg (by omega),if_pos rfl,if_pos (by omega),Nat.sub_self]
   rfl
  ·rw [if_neg h1]
   by_cases h2:j+1≤k∧k<j+1+r.length
   ·rw [if_pos h2,if_pos (by omega),show k-j=(k-(j+1))+1 by omega,List.getElem?_cons_succ]
   ·rw [if_neg h2,if_neg (by omega)]
theorem args_rel {args:List AV} {us:Array Value} {m:Nat} (h:LRel ρ args us.toList) (hle:args.length≤m):TRel ρ (args0 .nil 0 args) m (us++Array.replicate (m-us.size) undef):=by
 have hl:us.size=args.length:=by rw [← Array.length_toList,LRel.length _ h]
 refine ⟨by rw [Array.size_append,Array.size_replicate];omega,fun k=>?_⟩
 rw [args0_slot,Array.getD_eq_getD_getElem?,Array.getElem?_append]
 by_cases hk:k<us.size
 ·rw [if_pos (by omega),if_pos hk,Nat.sub_zero]
  obtain ⟨a,ha⟩:∃a,args[k]?=some a:=⟨_,List.getElem?_eq_getElem (by omega)⟩
  obtain ⟨v,hv,hr⟩:=LRel.get h ha
  rw [Array.getElem?_toList] at hv
  rw [ha,hv]
  exact hr
 ·rw [if_neg (by omega),if_neg hk,slotA_nil]
  have:((Array.replicate (m-us.size) undef)[k-us.size]?).getD undef=undef:=by
   rw [Array.getElem?_replicate]
   split<;>rfl
  rw [this]
  exact undef_rel
theorem loadM_run {i:TyI} {t:TypeId} {a v:AV} {u:Value} (hi:TyOK P t i) (h:loadM i a s= .ok v s') (ha:VRel ρ a u) (hw:WRel ρ s.h w):Alike s s'∧∃ad r,u= .pointer (some ad)∧(loadVar t ad).run P w= .ok r w∧VRel ρ v r:=by
 unfold loadM loadI at h
 obtain ⟨p,s1,h1,h2⟩:=M.bind_ok.1 h
 obtain ⟨hp,rfl⟩:=M.of_ok.1 h1
 obtain ⟨q,s2,h3,h4⟩:=M.bind_ok.1 h2
 obtain ⟨g1,_,ha2⟩:=rowM_ok h3
 obtain ⟨l,s3,h5,h6⟩:=M.bind_ok.1 h4
 obtain ⟨hl,rfl⟩:=M.of_ok.1 h5
 obtain ⟨x,hx,rfl⟩:=addrA_rel hp ha
 obtain ⟨ob,hb,hr⟩:=hw.row g1 hx
 obtain ⟨rfl,r,hr1,hr2⟩:=part_load hi hb hr hl h6
 exact ⟨ha2,_,r,rfl,hr1,hr2⟩
def resF (tmps:Array Value):ResultVar→Sem Value
 | .tmp t=>pure (tmps.getD t undef)
 | .cell a t=>do loadVar t (← asAddr (tmps.getD a undef))
theorem results_eq (fn:Func) (tmps:Array Value):results fn tmps=(do
  let vs ← fn.results.mapM (resF tmps)
  pure (if h:vs.size=1 then vs[0] else .tuple vs)):=by
 unfold results
 congr 1
theorem resM_rel (hE:EnvOK E P) {T:Tr AV} {m:Nat} {tmps:Array Value} :∀{l:List ResultVar} {vs:List AV} {s s':St},resM E T l s= .ok vs s'→TRel ρ T m tmps→WRel ρ s.h w→
  Alike s s'∧∃us:List Value,(l.mapM (resF tmps)).run P w= .ok us w∧LRel ρ vs us
 |[],vs,s,s',h,_,_=>by
  obtain ⟨rfl,rfl⟩:=M.pure_ok.1 h
  exact ⟨Alike.refl _,[],rfl,LRel.nil_iff.2 rfl⟩
 |x::r,vs,s,s',h,hT,hw=>by
  unfold resM at h
  cases x with
  |tmp t=>
   obtain ⟨vs',s1,h1,h2⟩:=M.bind_ok.1 h
   obtain ⟨rfl,rfl⟩:=M.pure_ok.1 h2
   obtain ⟨g1,us,g2,g3⟩:=resM_rel hE h1 hT hw
   refine ⟨g1,tmps.getD t undef::us,?_,LRel.cons_iff.2 ⟨_,_,rfl,hT.2 t,g3⟩⟩
   rw [List.mapM_cons,Sem.run_bind,resF,Sem.run_pure,Result.andThen_ok,Sem.run_bind,g2,Result.andThen_ok,Sem.run_pure]
  |cell p t=>
   obtain ⟨i,hi,h1⟩:=withTy_ok.1 h
   obtain ⟨v,s1,h2,h3⟩:=M.bind_ok.1 h1
   obtain ⟨vs',s2,h4,h5⟩:=M.bind_ok.1 h3
   obtain ⟨rfl,rfl⟩:=M.pure_ok.1 h5
   obtain ⟨f1,ad,u,f2,f3,f4⟩:=loadM_run (hE.ty _ _ hi) h2 (hT.2 p) hw
   obtain ⟨g1,us,g2,g3⟩:=resM_rel hE h4 hT (hw.alike f1)
   refine ⟨f1.trans g1,u::us,?_,LRel.cons_iff.2 ⟨_,_,rfl,f4,g3⟩⟩
   rw [List.mapM_cons,Sem.run_bind]
   have e1:(do loadVar t (← asAddr (tmps.getD p undef)):Sem Value).run P w= .ok u w:=by
    rw [f2]
    simp only [asAddr,Sem.run_bind,Sem.run_pure,Result.andThen_ok,f3]
   show Result.andThen ((do loadVar t (← asAddr (tmps.getD p undef)):Sem Value).run P w) _=_
   rw [e1,Result.andThen_ok,Sem.run_bind,g2,Result.andThen_ok,Sem.run_pure]
theorem results_rel (hE:EnvOK E P) {T:Tr AV} {m:Nat} {tmps:Array Value} {fn:Func} {vs:List AV} (h:resM E T fn.results.toList s= .ok vs s') (hT:TRel ρ T m tmps) (hw:WRel ρ s.h w):
  Alike s s'∧∃u,(results fn tmps).run P w= .ok u w∧VRel ρ (tupOf vs) u:=by
 obtain ⟨g1,us,g2,g3⟩:=resM_rel (P:=P) hE h hT hw
 refine ⟨g1,(if h:us.toArray.size=1 then us.toArray[0] else .tuple us.toArray),?_,?_⟩
 ·rw [results_eq,Sem.run_bind,Array.mapM_eq_mapM_toList,Sem.run_map,g2]
  rfl
 ·rcases vs with _|⟨v,_|⟨v2,r⟩⟩
  ·rw [LRel.nil_iff.1 g3]
   exact ⟨#[],rfl,LRel.nil_iff.2 rfl⟩
  ·obtain ⟨u,l,h1,h2,h3⟩:=LRel.cons_iff.1 g3
   rw [LRel.nil_iff.1 h3] at h1
   subst h1
   exact h2
  ·have hl:=LRel.length _ g3
   rw [dif_neg (by simp only [List.size_toArray];rw [hl];simp)]
   exact ⟨us.toArray,rfl,by simpa using g3⟩
theorem leave_ok (hE:EnvAll E P) (hev:EvOK P ev) (hl:LocEv ev) {fn:Func} {tmps:Array Value} {R:Ending→World→Prop} :∀(ds:List ADef) (defers:List Deferred) (s:St) (ρ:Ren) (w:World),leaveM E ev ds s= .ok () s'→DRel ρ ds defers→WRel ρ s.h w→FreshN ρ s.c s'.c→
  Stp s0 s ρ0 ρ w0 w→s0.c≤s.c→(∀ρ' w',ρ.le ρ'→WRel ρ' s'.h w'→Stp s0 s' ρ0 ρ' w0 w'→∃v,(results fn tmps).run P w'= .ok v w'∧R (.returned v) w')→LeavesInM Fence.wide n P fn tmps R defers .returning w
 |[],defers,s,ρ,w,h,hd,hw,hf,hst,hc,hR=>by
  obtain ⟨_,rfl⟩:=M.pure_ok.1 h
  rw [show defers=[] from hd]
  exact hR ρ w (Ren.le_refl _) hw hst
 |d::ds,defers,s,ρ,w,h,hd,hw,hf,hst,hc,hR=>by
  obtain ⟨q,defers',rfl,hq,hds⟩:=hd
  unfold leaveM at h
  refine ⟨by simp,?_⟩
  cases d with
  |mark r=>
   obtain ⟨p,hp,rfl⟩:=hq
   simp only at h
   obtain ⟨x,s1,h1,h2⟩:=M.bind_ok.1 h
   unfold defsM at h1
   obtain ⟨o,s2,h3,h4⟩:=M.bind_ok.1 h1
   obtain ⟨g1,g2⟩:=getM_alike h3
   obtain ⟨od,s3,h5,h6⟩:=M.bind_ok.1 h4
   obtain ⟨ho,rfl⟩:=M.of_ok.1 h5
   obtain ⟨hx,rfl⟩:=M.of_ok.1 h6
   cases x with
   |cons _ _=>exact ((M.fail_ok (s:=s1)).1 h2).elim
   |nil=>
    obtain ⟨_,s4,h7,h8⟩:=M.bind_ok.1 h2
    have ho':o= .defs (some []):=by
     cases o<;>simp only [defsO,Option.some.injEq,reduceCtorEq] at ho
     rw [ho,hx]
    subst ho'
    obtain ⟨p',ob,e1,e2,dd,rfl,e4⟩:=hw.at_ r _ g1
    rw [hp] at e1
    injection e1 with e1
    subst e1
    obtain ⟨l0,rfl,e5⟩:=e4
    obtain rfl:l0=[]:=e5
    obtain ⟨_,hs'⟩:=setM_ok.1 h7
    have hc4:s4.c=s1.c:=by rw [hs'];rfl
    have hc3:s1.c=s.c:=g2.2
    have hlt:=(Array.getElem?_eq_some_iff.1 e2).1
    have hon:Only p.1 w {w with heap:=w.heap.setIfInBounds p.1 (.deferred none)} :=⟨rfl,rfl,rfl,by simp,fun q hq=>by simp [Ne.symm hq]⟩
    have hset:=set_rel (s:=s1) (s':=s4) (o:= .defs none) (hw.alike g2) (by rw [g2.1,g1];rfl) hp (by rw [hs'];rfl) hon (ob:= .deferred none) (by simp [hlt]) ⟨none,rfl,rfl⟩
    refine .inl ⟨p.1,_,rfl,?_,leave_ok hE hev hl ds defers' s4 ρ _ h8 hds hset.1 (hf.sub (by omega) (Nat.le_refl _)) (Stp.trans hst (g2.stp hset.2) hc (by omega)) (by omega) hR⟩
    simp [Instr.takeDeferred,getObj,setObj,Sem.run,e2]
  |fn g args cap=>
   obtain ⟨c,az,rfl,ha,hcap⟩:=hq
   simp only at h
   cases hcm:isCalm g E.calm with
   |true=>
    rw [bif_true _ _ hcm] at h
    obtain ⟨en,hcalm⟩:=hE.calm g hcm
    refine .inr ⟨fun e=>(by cases e),.func g,c,g,az++c,rfl,en _ _,fun _ _=>trivial,CallsDIn.mono (hcalm (az++c) w _) ?_⟩
    rintro e u' w2 ⟨⟨v,rfl⟩,rfl,q1,q2,q3,q4⟩
    refine leave_ok hE hev hl ds defers' s ρ w2 h hds (hw.heap q1) hf ?_ hc hR
    exact ⟨hst.ext,hst.le,q2.trans hst.os,q3.trans hst.tape,q4.trans hst.output,by rw [q1];exact hst.size,fun q h1 h2=>by rw [q1];exact hst.block q h1 h2,hst.own⟩
   |false=>
    rw [bif_false _ _ hcm] at h
    obtain ⟨v,s1,h1,h2⟩:=M.bind_ok.1 h
    have c1:=(hl.callD _ _).le h1
    have c2:=(Loc.leaveM hl ds).le h2
    obtain ⟨en,hcd⟩:=hev.callD _ _ _ _ _ h1
    refine .inr ⟨fun e=>(by cases e),.func g,c,g,az++c,rfl,en _ _,fun _ _=>trivial,CallsDIn.mono (hcd ρ w (az++c) _ hw (hf.sub (Nat.le_refl _) c2) (by rw [Array.toList_append];exact LRel.append ha hcap)) ?_⟩
    rintro e u' w2 ⟨rfl,ρ2,u,rfl,hv,hw2,hs2⟩
    exact leave_ok hE hev hl ds defers' s1 ρ2 w2 h2 (hds.mono hs2.le) hw2 (hf.step hs2 c1) (Stp.trans hst hs2 hc c1) (Nat.le_trans hc c1) (fun ρ' w' hle=>hR ρ' w' (Ren.le_trans hs2.le hle))
end
end Go.Proofs.YtnkjkgmohmcobaaGreatDoor.Vm
namespace Go.Proofs.YtnkjkgmohmcobaaGreatDoor.Vm
open Go Go.RowKit
section
variable {P:Program} {E:Env} {ev:Ev} {ρ ρ' ρ0:Ren} {w w' w0:World} {n:Nat} {s s' s0:St}
theorem bodyC_ok {fn:Func} {c:CodeC} {args:List AV} {q:Tr AV × List ADef} (h:bodyC fn c ev args s= .ok q s'):args.length≤fn.ntmps∧∃e m,isExit e=false∧c ev none (.mk (args0 .nil 0 args) fn.ntmps []) s= .ok (e,.mk q.1 m q.2) s':=by
 unfold bodyC at h
 cases hb:Nat.ble args.length fn.ntmps with
 |false=>rw [bif_false _ _ hb] at h;exact (M.fail_ok.1 h).elim
 |true=>
  rw [bif_true _ _ hb] at h
  obtain ⟨⟨e,a⟩,s1,h1,h2⟩:=M.bind_ok.1 h
  simp only at h2
  cases he:isExit e with
  |true=>rw [bif_true _ _ he] at h2;exact (M.fail_ok.1 h2).elim
  |false=>
   rw [bif_false _ _ he] at h2
   obtain ⟨T,m,ds⟩:=a
   obtain ⟨rfl,rfl⟩:=M.pure_ok.1 h2
   exact ⟨ble_true.1 hb,e,m,he,h1⟩
theorem ent_ok (hE:EnvAll E P) (hev:EvOK P ev) (hl:LocEv ev) {f:FuncId} {fn:Func} {c:Code} {args:List AV} {v:AV} (hf:P.funcs[f]?=some fn) (hb:fn.body=some c) (h:entC E fn (codeC E c) ev args s= .ok v s'):CallOK P f args s v s':=by
 intro ρ w us n hw hfr hu
 obtain ⟨q,s1,h1,h2⟩:=M.bind_ok.1 h
 obtain ⟨_,s2,h3,h4⟩:=M.bind_ok.1 h2
 obtain ⟨vs,s3,h5,h6⟩:=M.bind_ok.1 h4
 obtain ⟨rfl,rfl⟩:=M.pure_ok.1 h6
 obtain ⟨hle,e,m,he,hc⟩:=bodyC_ok h1
 have c1:=(Loc.codeC hl c none _).le hc
 have c2:=(Loc.leaveM hl _).le h3
 have c3:=(Loc.resM E _ _).le h5
 refine callsIn_of_wp_marks hf hb trivial (wpIn_mono (code_ok hE hev hl c none _ s _ s1 hc ρ w _ Fence.wide n rfl hw (hfr.sub (Nat.le_refl _) (by omega)) ⟨args_rel hu hle,rfl⟩) ?_)
 rintro x act w1 ⟨ρ1,g1,g2,g3,g4⟩
 have hleave:LeavesInM Fence.wide n P fn act.tmps (Ret s s' ρ w (tupOf vs)) act.defers .returning w1:=by
  refine leave_ok (s0:=s) (ρ0:=ρ) (w0:=w) hE hev hl q.2 act.defers s1 ρ1 w1 h3 g2.d g3 ((hfr.step g4 c1).sub (Nat.le_refl _) (by omega)) g4 c1 (fun ρ' w' hle' hw' hst'=>?_)
  obtain ⟨al,u,e1,e2⟩:=results_rel (P:=P) hE.toEnvOK h5 (g2.t.mono hle') hw'
  exact ⟨u,e1,ρ',u,rfl,e2,hw'.alike al,hst'.thenAlike al⟩
 cases g1 with
 |normal=>exact hleave
 |ret=>exact hleave
 |exit i=>cases he
theorem entD_ok (hE:EnvAll E P) (hev:EvOK P ev) (hl:LocEv ev) {f:FuncId} {fn:Func} {c:Code} {args:List AV} {v:AV} (hf:P.funcs[f]?=some fn) (hb:fn.body=some c) (h:entD E fn (codeC E c) ev args s= .ok v s'):CallDOK P f args s v s':=by
 intro ρ w us n hw hfr hu
 obtain ⟨⟨T,ds⟩,s1,h1,h2⟩:=M.bind_ok.1 h
 cases ds with
 |cons _ _=>exact ((M.fail_ok (s:=s1)).1 h2).elim
 |nil=>
  obtain ⟨vs,s3,h5,h6⟩:=M.bind_ok.1 h2
  obtain ⟨rfl,rfl⟩:=M.pure_ok.1 h6
  obtain ⟨hle,e,m,he,hc⟩:=bodyC_ok h1
  have c1:=(Loc.codeC hl c none _).le hc
  have c3:=(Loc.resM E _ _).le h5
  refine callsDIn_of_wp hf hb trivial (wpIn_mono (code_ok hE hev hl c none _ s _ s1 hc ρ w _ Fence.wide n rfl hw (hfr.sub (Nat.le_refl _) (by omega)) ⟨args_rel hu hle,rfl⟩) ?_)
  rintro x act w1 ⟨ρ1,g1,g2,g3,g4⟩
  have hend:act.defers=[]∧∃v,(results fn act.tmps).run P w1= .ok v w1∧Ret s s' ρ w (tupOf vs) (.returned v) w1:=by
   obtain ⟨al,u,e1,e2⟩:=results_rel (P:=P) hE.toEnvOK h5 g2.t g3
   exact ⟨g2.d,u,e1,ρ1,u,rfl,e2,g3.alike al,g4.thenAlike al⟩
  cases g1 with
  |normal=>exact hend
  |ret=>exact hend
  |exit i=>cases he
theorem evN_ok (hE:EnvAll E P):∀m,EvOK P (evN E m)
 |0=>⟨fun f args s v s' h=>((M.fail_ok (s:=s)).1 h).elim,fun f args s v s' h=>((M.fail_ok (s:=s)).1 h).elim,fun rnd c a s q s' h=>((M.fail_ok (s:=s)).1 h).elim⟩
 |m+1=>by
  have hev:=evN_ok hE m
  have hl:=locEv hE.orcLoc m
  refine ⟨fun f args s v s' h=>?_,fun f args s v s' h=>?_,fun rnd c a s q s' h=>code_ok hE hev hl c rnd a s q s' h⟩
  ·have h':fnC E f (evN E m) args s= .ok v s':=h
   unfold fnC at h'
   cases ho:E.orc.get f with
   |some o=>
    rw [ho] at h'
    obtain ⟨g1,g2⟩:=hE.orc f o ho
    exact ⟨g1,g2 args s v s' h'⟩
   |none=>
    rw [ho] at h'
    cases hfn:E.fn.get f with
    |none=>rw [hfn] at h';exact ((M.fail_ok (s:=s)).1 h').elim
    |some fn=>
     rw [hfn] at h'
     simp only at h'
     obtain ⟨g1,g2⟩:=hE.fn f fn hfn
     cases hb:fn.body with
     |none=>rw [hb] at h';exact ((M.fail_ok (s:=s)).1 h').elim
     |some c=>
      rw [hb] at h'
      exact ⟨g2,ent_ok hE hev hl g1 hb h'⟩
  ·have h':fnD E f (evN E m) args s= .ok v s':=h
   unfold fnD at h'
   cases hfn:E.fn.get f with
   |none=>rw [hfn] at h';exact ((M.fail_ok (s:=s)).1 h').elim
   |some fn=>
    rw [hfn] at h'
    simp only at h'
    obtain ⟨g1,g2⟩:=hE.fn f fn hfn
    cases hb:fn.body with
    |none=>rw [hb] at h';exact ((M.fail_ok (s:=s)).1 h').elim
    |some c=>
     rw [hb] at h'
     exact ⟨g2,entD_ok hE hev hl g1 hb h'⟩
end
end Go.Proofs.YtnkjkgmohmcobaaGreatDoor.Vm
namespace Go.Proofs.YtnkjkgmohmcobaaGreatDoor.Vm
open Go
mutual
noncomputable def conV:AV→Value
 | .int k n=> .int k n
 | .bool b=> .bool b
 | .str s=> .string s
 | .nilp=> .pointer none
 | .nilslice=> .slice none 0 0
 | .nilmap=> .map none
 | .nilfunc=> .nilFunc
 | .niliface=> .nilIface
 | .agg cs=> .agg (conC cs).toArray
 |_=> .tuple #[]
noncomputable def conC:List AV→List Value
 |[]=>[]
 |a::r=>(match isB a with|some p=>bytesV p.1 p.2|none=>[conV a])++conC r
end
mutual
def okV:AV→Bool
 | .int _ _=>true
 | .bool _=>true
 | .str _=>true
 | .nilp=>true
 | .nilslice=>true
 | .nilmap=>true
 | .nilfunc=>true
 | .niliface=>true
 | .agg cs=>okC cs
 |_=>false
def okC:List AV→Bool
 |[]=>true
 |a::r=>(match isB a with|some p=>Nat.blt p.2 (Nat.pow 2 (Nat.mul 8 p.1))|none=>isOne a&&okV a)&&okC r
end
mutual
theorem conV_rel (ρ:Ren):∀(a:AV),okV a=true→VRel ρ a (conV a)
 | .int _ _,_=>by simp [VRel,conV]
 | .bool _,_=>by simp [VRel,conV]
 | .str _,_=>by simp [VRel,conV]
 | .nilp,_=>by simp [VRel,conV]
 | .nilslice,_=>by simp [VRel,conV]
 | .nilmap,_=>by simp [VRel,conV]
 | .nilfunc,_=>by simp [VRel,conV]
 | .niliface,_=>by simp [VRel,conV]
 | .agg cs,h=>by
  rw [okV] at h
  rw [VRel,conV]
  exact ⟨_,rfl,by simpa using conC_rel ρ cs h⟩
 | .ptr _ _,h=>by simp [okV] at h
 | .slice _ _ _ _ _,h=>by simp [okV] at h
 | .empty,h=>by simp [okV] at h
 | .map _,h=>by simp [okV] at h
 | .func _ _ _,h=>by simp [okV] at h
 | .yield _,h=>by simp [okV] at h
 | .iface _ _,h=>by simp [okV] at h
 | .tuple _,h=>by simp [okV] at h
 | .bytes _ _,h=>by simp [okV] at h
 | .any,h=>by simp [okV] at h
 | .but _ _,h=>by simp [okV] at h
theorem conC_rel (ρ:Ren):∀(l:List AV),okC l=true→CRel ρ l (conC l)
 |[],_=>by simp [CRel,conC]
 |a::r,h=>by
  rw [okC,Bool.and_eq_true] at h
  refine CRel.cons_iff.2 ⟨_,conC r,by rw [conC],?_,conC_rel ρ r h.2⟩
  have h1:=h.1
  cases hb:isB a with
  |some p=>
   rw [hb] at h1
   exact ⟨rfl,blt_true.1 h1⟩
  |none=>
   rw [hb] at h1
   simp only [Bool.and_eq_true] at h1
   exact ⟨h1.1,_,rfl,conV_rel ρ a h1.2⟩
end
section
variable {P:Program} {E:Env}
theorem tyOK_of {t:TypeId} {i:TyI} {inf:TypeInfo} {d:TypeDesc} (h1:P.info? t=some inf) (h2:P.underlying t=some d) (hs:inf.size=i.size) (hb:inf.bytes=i.bytes) (hz:inf.zero=some (conV i.zero)) (hzc:(conV i.zero).cells.toList=conC i.zc)
  (ho:(okV i.zero&&okC i.zc)=true) (hd:DescR P i.desc d) (ha:i.agg=d.isRow) (hf:i.flat=true→FlatOK P t (isArrD i.desc) i.size i.zc) (hn:(conV i.zero).cells.size=i.size):TyOK P t i:=by
 rw [Bool.and_eq_true] at ho
 exact ⟨inf,d,conV i.zero,h1,h2,hs,hb,hz,fun ρ=>conV_rel ρ _ ho.1,fun ρ=>by rw [hzc];exact conC_rel ρ _ ho.2,hd,ha,hf,hn⟩
def AllT {α:Type} (Q:Nat→α→Prop):Tr α→Nat→Nat→Prop
 | .nil,_,_=>True
 | .node l v r,a,b=>AllT Q l (a+b) (2*b)∧(match v with|some x=>Q a x|none=>True)∧AllT Q r (a+2*b) (2*b)
theorem allT_get {α:Type} {Q:Nat→α→Prop} {x:α} :∀(t:Tr α) (a b n:Nat),AllT Q t a b→t.get n=some x→Q (a+b*n) x
 | .nil,_,_,_,_,h=>by cases h
 | .node l v r,a,b,n,⟨h1,h2,h3⟩,h=>by
  rw [Tr.get_node] at h
  by_cases h0:n=0
  ·rw [if_pos h0] at h
   subst h0
   rw [h] at h2
   exact h2
  ·rw [if_neg h0] at h
   by_cases h4:n%2=1
   ·rw [if_pos h4] at h
    have:=allT_get l _ _ _ h1 h
    have e:a+b+2*b*(n/2)=a+b*n:=by
     have:n=2*(n/2)+1:=by omega
     conv=>rhs;rw [this]
     rw [Nat.mul_add,Nat.mul_one, ← Nat.mul_assoc,Nat.mul_comm b 2]
     omega
    rwa [e] at this
   ·rw [if_neg h4] at h
    have:=allT_get r _ _ _ h3 h
    have e:a+2*b+2*b*(n/2-1)=a+b*n:=by
     have:n=2*(n/2-1)+2:=by omega
     conv=>rhs;rw [this]
     rw [Nat.mul_add, ← Nat.mul_assoc,Nat.mul_comm b 2]
     omega
    rwa [e] at this
theorem envOK_of (hT:AllT (TyOK P) E.ty 0 1) (hF:AllT (fun f fn=>P.funcs[f]?=some fn∧∀(args:Array Value) (w:World),(callFunc f args).run P w= .ok (.enter f args) w) E.fn 0 1) (hm:P.follows .mixedOrders=true):EnvOK E P:=
 ⟨fun t i h=>by have:=allT_get E.ty 0 1 t hT h;rwa [Nat.one_mul,Nat.zero_add] at this,fun f fn h=>by have:=allT_get E.fn 0 1 f hF h;rwa [Nat.one_mul,Nat.zero_add] at this,hm⟩
theorem findMeth_mem:∀{l:List (TypeId × String × FuncId)} {t:TypeId} {m:String} {g:FuncId},findMeth l t m=some g→(t,m,g)∈l
 |[],_,_,_,h=>by cases h
 |x::r,t,m,g,h=>by
  unfold findMeth at h
  cases hb:(Nat.beq x.1 t&&x.2.1==m) with
  |true=>
   rw [bif_true _ _ hb] at h
   rw [Bool.and_eq_true] at hb
   simp only [Option.some.injEq] at h
   have e1:=beq_true.1 hb.1
   have e2:=eq_of_beq hb.2
   obtain ⟨x1,x2,x3⟩:=x
   simp only at e1 e2 h
   rw [e1,e2,h]
   exact List.mem_cons_self
  |false=>
   rw [bif_false _ _ hb] at h
   exact List.mem_cons_of_mem _ (findMeth_mem h)
end
end Go.Proofs.YtnkjkgmohmcobaaGreatDoor.Vm
