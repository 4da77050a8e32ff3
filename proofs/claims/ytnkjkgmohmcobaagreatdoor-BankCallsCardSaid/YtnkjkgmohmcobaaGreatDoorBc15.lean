/-
  Texts of this claim, joined: VP, VQ, VR, VS.
-/
import Derived.Laws.BytesString
import Derived.Test.YtnkjkgmohmcobaaGreatDoorBc14
set_option maxHeartbeats 6400000
set_option maxRecDepth 100000
namespace Go.Proofs.YtnkjkgmohmcobaaGreatDoor.Vm
open Go
section
variable {P:Program} {s s' s1:St} {ρ ρ':Ren} {w w':World} {t e:TypeId} {i j:TyI}
theorem wrapF_eq (k:IntKind) (n:Int):wrapF k n= .int k (k.wrap n):=by unfold wrapF mkInt;rw [forceI_eq]
theorem mkInt_eq (k:IntKind) (n:Int):mkInt k n= .int k n:=by unfold mkInt;rw [forceI_eq]
theorem int2_ok {f:IntKind→Int→Int→Option AV} {x y v:AV} {a b:Value} (h:int2 f x y s= .ok v s') (hx:VRel ρ x a) (hy:VRel ρ y b):∃k m n,a= .int k m∧b= .int k n∧f k m n=some v∧s'=s:=by
 unfold int2 at h
 cases ha:intA x with
 |none=>rw [ha] at h;exact (M.fail_ok.1 h).elim
 |some p=>
  cases hb:intA y with
  |none=>rw [ha,hb] at h;exact (M.fail_ok.1 h).elim
  |some q=>
   rw [ha,hb] at h
   simp only at h
   by_cases hpq:p.1=q.1
   ·rw [if_pos hpq] at h
    obtain ⟨h1,rfl⟩:=M.of_ok.1 h
    exact ⟨p.1,p.2,q.2,intA_rel ha hx,by rw [hpq];exact intA_rel hb hy,h1,rfl⟩
   ·rw [if_neg hpq] at h
    exact (M.fail_ok.1 h).elim
theorem sh2_ok {f:IntKind→Int→Nat→AV} {x y v:AV} {a b:Value} (h:sh2 f x y s= .ok v s') (hx:VRel ρ x a) (hy:VRel ρ y b):∃k kk m n,a= .int k m∧b= .int kk (n:Nat)∧v=f k m (min n k.bits)∧s'=s:=by
 unfold sh2 at h
 cases ha:intA x with
 |none=>rw [ha] at h;exact (M.fail_ok.1 h).elim
 |some p=>
  cases hb:natA y with
  |none=>rw [ha,hb] at h;exact (M.fail_ok.1 h).elim
  |some n=>
   rw [ha,hb] at h
   obtain ⟨rfl,rfl⟩:=M.pure_ok.1 h
   obtain ⟨kk,rfl⟩:=natA_rel hb hy
   exact ⟨p.1,kk,p.2,n,intA_rel ha hx,rfl,rfl,rfl⟩
theorem cmp2_ok {f:Int→Int→Bool} {g:ByteArray→ByteArray→Bool} {x y v:AV} {a b:Value} (h:cmp2 f g x y s= .ok v s') (hx:VRel ρ x a) (hy:VRel ρ y b):
  s'=s∧((∃k m n,a= .int k m∧b= .int k n∧v= .bool (f m n))∨∃m n,a= .string m∧b= .string n∧v= .bool (g m n)):=by
 unfold cmp2 at h
 split at h
 ·rename_i p q ha hb
  by_cases hpq:p.1=q.1
  ·rw [if_pos hpq] at h
   injection h with h1 h2
   exact ⟨h2.symm,.inl ⟨p.1,p.2,q.2,intA_rel ha hx,by rw [hpq];exact intA_rel hb hy,h1.symm⟩⟩
  ·rw [if_neg hpq] at h
   cases h
 ·split at h
  ·rename_i p q ha hb
   injection h with h1 h2
   exact ⟨h2.symm,.inr ⟨p,q,strA_rel ha hx,strA_rel hb hy,h1.symm⟩⟩
  ·cases h
theorem addA_ok {x y v:AV} {a b:Value} (h:addA x y s= .ok v s') (hx:VRel ρ x a) (hy:VRel ρ y b):
  s'=s∧((∃k m n,a= .int k m∧b= .int k n∧v=wrapF k (m+n))∨∃m n,a= .string m∧b= .string n∧v= .str (m++n)∧m.size+n.size≤1000000):=by
 unfold addA at h
 split at h
 ·rename_i p q ha hb
  cases hc:Nat.ble (Nat.add p.data.size q.data.size) 1000000 with
  |false=>rw [bif_false _ _ hc] at h;cases h
  |true=>
   rw [bif_true _ _ hc] at h
   injection h with h1 h2
   exact ⟨h2.symm,.inr ⟨p,q,strA_rel ha hx,strA_rel hb hy,h1.symm,ble_true.1 hc⟩⟩
 ·obtain ⟨k,m,n,h1,h2,h3,h4⟩:=int2_ok h hx hy
  simp only [Option.some.injEq] at h3
  exact ⟨h4,.inl ⟨k,m,n,h1,h2,h3.symm⟩⟩
def EqRun (P:Program) (w:World) (t:TypeId) (ox oy:Operand) (a b:Value) (r:Bool):Prop:=
 (∀op,(eqGuard op t ox oy a b).run P w= .ok () w)∧(binOp .eql t a b).run P w= .ok (.bool r) w∧(binOp .neq t a b).run P w= .ok (.bool !r) w
theorem eqIS_rel {x y:AV} {a b:Value} {r:Bool} (h:eqIS x y=some r) (hx:VRel ρ x a) (hy:VRel ρ y b):(∃k m n,a= .int k m∧b= .int k n∧r=(m==n))∨∃m n,a= .string m∧b= .string n∧r=(m==n):=by
 unfold eqIS at h
 split at h
 ·rename_i p q ha hb
  by_cases hpq:p.1=q.1
  ·rw [if_pos hpq] at h
   simp only [Option.some.injEq] at h
   exact .inl ⟨p.1,p.2,q.2,intA_rel ha hx,by rw [hpq];exact intA_rel hb hy,h.symm⟩
  ·rw [if_neg hpq] at h;cases h
 ·split at h
  ·rename_i p q ha hb
   simp only [Option.some.injEq] at h
   exact .inr ⟨p,q,strA_rel ha hx,strA_rel hb hy,h.symm⟩
  ·obtain ⟨rfl,k,m,n,h1,h2,h3⟩:=neI_rel h hx hy
   exact .inl ⟨k,m,n,h1,h2,h3.symm⟩
theorem eqNil_ok {f:AV→Option Bool} {x y:AV} {r:Bool} (h:eqNil f x y s= .ok r s'):s'=s∧((f x=some true∧f y=some r)∨(f x=some false∧f y=some true∧r=false)):=by
 unfold eqNil at h
 split at h
 ·rename_i b h1 h2
  injection h with h3 h4
  subst h3
  exact ⟨h4.symm,.inl ⟨h1,h2⟩⟩
 ·rename_i h1 h2
  injection h with h3 h4
  exact ⟨h4.symm,.inr ⟨h1,h2,h3.symm⟩⟩
 ·cases h
theorem nilP_rel {x:AV} {a:Value} {b:Bool} (h:nilP x=some b) (hx:VRel ρ x a):∃p:Option Addr,a= .pointer p∧b=p.isNone:=by
 cases x<;>simp only [nilP,Option.some.injEq,reduceCtorEq] at h<;>subst h
 ·exact ⟨none,hx,rfl⟩
 ·obtain ⟨p,_,rfl⟩:=hx;exact ⟨_,rfl,rfl⟩
theorem nilS_rel {x:AV} {a:Value} {b:Bool} (h:nilS x=some b) (hx:VRel ρ x a):∃(p:Option Addr) (l c:Nat),a= .slice p l c∧b=p.isNone:=by
 cases x<;>simp only [nilS,Option.some.injEq,reduceCtorEq] at h<;>subst h
 ·exact ⟨none,0,0,hx,rfl⟩
 ·obtain ⟨p,c,_,rfl,_⟩:=hx;exact ⟨_,_,_,rfl,rfl⟩
 ·obtain ⟨p,c,rfl⟩:=hx;exact ⟨_,_,_,rfl,rfl⟩
theorem nilM_rel {x:AV} {a:Value} {b:Bool} (h:nilM x=some b) (hx:VRel ρ x a):∃p:Option Nat,a= .map p∧b=p.isNone:=by
 cases x<;>simp only [nilM,Option.some.injEq,reduceCtorEq] at h<;>subst h
 ·exact ⟨none,hx,rfl⟩
 ·obtain ⟨p,_,rfl⟩:=hx;exact ⟨_,rfl,rfl⟩
theorem nilF_rel {x:AV} {a:Value} {b:Bool} (h:nilF x=some b) (hx:VRel ρ x a):(b=true∧a= .nilFunc)∨(b=false∧∃f x y,a= .func f x y):=by
 cases x<;>simp only [nilF,Option.some.injEq,reduceCtorEq] at h<;>subst h
 ·exact .inl ⟨rfl,hx⟩
 ·obtain ⟨_,_,rfl,_⟩:=hx;exact .inr ⟨rfl,_,_,_,rfl⟩
 ·obtain ⟨_,_,rfl⟩:=hx;exact .inr ⟨rfl,_,_,_,rfl⟩
theorem nilI_rel {x:AV} {a:Value} {b:Bool} (h:nilI x=some b) (hx:VRel ρ x a):(b=true∧a= .nilIface)∨(b=false∧∃t y,a= .iface t y):=by
 cases x<;>simp only [nilI,Option.some.injEq,reduceCtorEq] at h<;>subst h
 ·exact .inl ⟨rfl,hx⟩
 ·obtain ⟨_,rfl,_⟩:=hx;exact .inr ⟨rfl,_,_,rfl⟩
theorem TyOK.desc (hi:TyOK P t i):∃d,P.underlying t=some d∧DescR P i.desc d:=by
 obtain ⟨d,h1,_,h2,_⟩:=hi.und
 exact ⟨d,h1,h2⟩
theorem eqT_run {E:Env} (hE:EnvOK E P) {lit:Bool} {ox oy:Operand} {x y:AV} {a b:Value} {r:Bool} (hi:TyOK P t i) (hlit:lit=(isConst ox || isConst oy)) (h:eqT E i lit x y s= .ok r s') (hx:VRel ρ x a) (hy:VRel ρ y b) (hw:WRel ρ s.h w):
  Alike s s'∧EqRun P w t ox oy a b r:=by
 obtain ⟨d,hd,hdr⟩:=hi.desc
 have h9:∀{a b:Value} {r:Bool},(∀n,(Op.equalIn (n+1) t a b).run P w= .ok r w)→(Op.equalIn 10000 t a b).run P w= .ok r w:=fun h=>h 9999
 have fin:∀{a b:Value} {r:Bool},(∀k n,a≠ .int k n)→(∀m,a≠ .string m)→(∀op,(eqGuard op t ox oy a b).run P w= .ok () w)→(Op.equalIn 10000 t a b).run P w= .ok r w→
   (∀k n,a≠ .float k n)→(∀k n m,a≠ .complex k n m)→EqRun P w t ox oy a b r:=by
  intro a b r h1 h2 h3 h4 h5 h6
  refine ⟨h3,?_,?_⟩<;>
  ·cases a<;>first
    |exact absurd rfl (h1 _ _)
    |exact absurd rfl (h2 _)
    |exact absurd rfl (h5 _ _)
    |exact absurd rfl (h6 _ _ _)
    |(simp only [binOp];simp [Op.equal,Op.maxDepth,h4])
 have g0:∀{a b:Value},(a≠ .nilIface∨b≠ .nilIface)→(∀c,a≠ .agg c)→∀op,(eqGuard op t ox oy a b).run P w= .ok () w:=by
  intro a b h1 h2 op
  cases op<;>simp only [eqGuard]<;>first|rfl|skip
  all_goals
   cases a<;>first|rfl|(exact absurd rfl (h2 _))|skip
   cases b<;>first|rfl|(rcases h1 with h1|h1<;>exact absurd rfl h1)
 unfold eqT at h
 cases hds:i.desc<;>simp only [hds,kindsD] at h hdr
 case int k0=>
  obtain ⟨h1,rfl⟩:=M.of_ok.1 h
  refine ⟨Alike.refl _,?_⟩
  rcases eqIS_rel h1 hx hy with ⟨k,m,n,rfl,rfl,rfl⟩|⟨m,n,rfl,rfl,rfl⟩
  ·exact ⟨g0 (.inl (by simp)) (by simp),by simp [binOp,Op.intCmp],by simp [binOp,Op.intCmp];rfl⟩
  ·exact ⟨g0 (.inl (by simp)) (by simp),by simp [binOp,Op.stringOp,beq_toListBytes],by simp [binOp,Op.stringOp,beq_toListBytes]⟩
 case str=>
  obtain ⟨h1,rfl⟩:=M.of_ok.1 h
  refine ⟨Alike.refl _,?_⟩
  rcases eqIS_rel h1 hx hy with ⟨k,m,n,rfl,rfl,rfl⟩|⟨m,n,rfl,rfl,rfl⟩
  ·exact ⟨g0 (.inl (by simp)) (by simp),by simp [binOp,Op.intCmp],by simp [binOp,Op.intCmp];rfl⟩
  ·exact ⟨g0 (.inl (by simp)) (by simp),by simp [binOp,Op.stringOp,beq_toListBytes],by simp [binOp,Op.stringOp,beq_toListBytes]⟩
 case bool=>
  obtain ⟨h1,rfl⟩:=M.of_ok.1 h
  refine ⟨Alike.refl _,?_⟩
  unfold eqB at h1
  split at h1
  ·rename_i p q ha hb
   obtain rfl:=boolA_rel ha hx
   obtain rfl:=boolA_rel hb hy
   simp only [Option.some.injEq] at h1
   subst h1
   obtain rfl:d= .bool:=hdr
   refine fin (by simp) (by simp) (g0 (.inl (by simp)) (by simp)) ?_ (by simp) (by simp)
   exact run_equalIn_bool w 9999 t p q hd
  ·cases h1
 case ptr el=>
  obtain rfl:d= .pointer el:=hdr
  unfold eqP at h
  split at h
  ·rename_i p q ha hb
   obtain ⟨e',s1,h1,h2⟩:=M.bind_ok.1 h
   obtain ⟨he,rfl⟩:=M.of_ok.1 h1
   simp only [ptrD,Option.some.injEq] at he
   subst he
   obtain ⟨j,hj,h3⟩:=withTy_ok.1 h2
   obtain ⟨inf,_,_,i1,_,i2,_⟩:=hE.ty _ _ hj
   cases h0:Nat.beq j.size 0 with
   |true=>rw [bif_true _ _ h0] at h3;exact (M.fail_ok.1 h3).elim
   |false=>
    rw [bif_false _ _ h0] at h3
    have hj0:inf.size≠0:=fun e=>by rw [← i2,beq_true.2 e] at h0;cases h0
    obtain ⟨qa,s2,h4,h5⟩:=M.bind_ok.1 h3
    obtain ⟨g1,_,g2⟩:=rowM_ok h4
    obtain ⟨qb,s3,h6,h7⟩:=M.bind_ok.1 h5
    obtain ⟨g3,_,g4⟩:=rowM_ok h6
    obtain ⟨rfl,rfl⟩:=M.pure_ok.1 h7
    obtain ⟨xa,ha1,rfl⟩:=addrA_rel ha hx
    obtain ⟨xb,hb1,rfl⟩:=addrA_rel hb hy
    rw [g2.1] at g3
    obtain ⟨oa,oa1,va,_,_,rfl,_⟩:=hw.row g1 ha1
    obtain ⟨ob,ob1,vb,_,_,rfl,_⟩:=hw.row g3 hb1
    refine ⟨g2.trans g4,fin (by simp) (by simp) (g0 (.inl (by simp)) (by simp)) ?_ (by simp) (by simp)⟩
    have same:p.1=q.1↔xa.1=xb.1:=⟨fun e=>by rw [e,hb1] at ha1;injection ha1 with ha1;rw [ha1],fun e=>hw.inj p.1 q.1 xa xb (by rw [g1];rfl) (by rw [g3];rfl) ha1 hb1 e⟩
    by_cases hpq:p.1=q.1
    ·have hxx:xa=xb:=by rw [hpq,hb1] at ha1;injection ha1 with ha1;exact ha1.symm
     subst hxx
     by_cases hof:p.2=q.2
     ·rw [hpq,hof,Nat.beq_refl,Nat.beq_refl]
      exact h9 fun n=>by simp [Op.equalIn,run_underlying hd,sizeOf,typeInfo,i1,run_sameAddr_same]
     ·have:Nat.beq p.2 q.2=false:=by cases hq:Nat.beq p.2 q.2 with|false=>rfl|true=>exact absurd (beq_true.1 hq) hof
      rw [this,Bool.and_false]
      have hne:(⟨xa.1,xa.2.1+p.2,none⟩:Addr)≠⟨xa.1,xa.2.1+q.2,none⟩:=fun e=>by
       injection e with _ e _
       omega
      exact h9 fun n=>by simp [Op.equalIn,run_underlying hd,sizeOf,typeInfo,i1,hj0,run_sameAddr_other w hne oa1 oa1]
    ·have:Nat.beq p.1 q.1=false:=by cases hq:Nat.beq p.1 q.1 with|false=>rfl|true=>exact absurd (beq_true.1 hq) hpq
     rw [this,Bool.false_and]
     have hne:(⟨xa.1,xa.2.1+p.2,none⟩:Addr)≠⟨xb.1,xb.2.1+q.2,none⟩:=fun e=>by
      injection e with e _ _
      exact hpq (same.2 e)
     exact h9 fun n=>by simp [Op.equalIn,run_underlying hd,sizeOf,typeInfo,i1,hj0,run_sameAddr_other w hne oa1 ob1]
  ·obtain ⟨rfl,h1⟩:=eqNil_ok h
   refine ⟨Alike.refl _,?_⟩
   rcases h1 with ⟨h1,h2⟩|⟨h1,h2,rfl⟩
   ·obtain ⟨p,rfl,e1⟩:=nilP_rel h1 hx
    obtain ⟨q,rfl,rfl⟩:=nilP_rel h2 hy
    obtain rfl:p=none:=by cases p with|none=>rfl|some a=>cases e1
    refine fin (by simp) (by simp) (g0 (.inl (by simp)) (by simp)) ?_ (by simp) (by simp)
    exact h9 fun n=>by cases q<;>simp [Op.equalIn,run_underlying hd]
   ·obtain ⟨p,rfl,e1⟩:=nilP_rel h1 hx
    obtain ⟨q,rfl,e2⟩:=nilP_rel h2 hy
    obtain rfl:q=none:=by cases q with|none=>rfl|some a=>cases e2
    obtain ⟨pa,rfl⟩:∃pa,p=some pa:=by cases p with|none=>cases e1|some a=>exact ⟨a,rfl⟩
    refine fin (by simp) (by simp) (g0 (.inl (by simp)) (by simp)) ?_ (by simp) (by simp)
    exact h9 fun n=>by simp [Op.equalIn,run_underlying hd]
 case slice el=>
  obtain rfl:d= .slice el:=hdr
  simp only [eqRef] at h
  obtain ⟨rfl,h1⟩:=eqNil_ok h
  refine ⟨Alike.refl _,?_⟩
  rcases h1 with ⟨h1,h2⟩|⟨h1,h2,rfl⟩
  ·obtain ⟨p,l,c,rfl,e1⟩:=nilS_rel h1 hx
   obtain ⟨q,l',c',rfl,rfl⟩:=nilS_rel h2 hy
   obtain rfl:p=none:=by cases p with|none=>rfl|some a=>cases e1
   refine fin (by simp) (by simp) (g0 (.inl (by simp)) (by simp)) ?_ (by simp) (by simp)
   exact h9 fun n=>by cases q<;>simp [Op.equalIn,run_underlying hd]
  ·obtain ⟨p,l,c,rfl,e1⟩:=nilS_rel h1 hx
   obtain ⟨q,l',c',rfl,e2⟩:=nilS_rel h2 hy
   obtain rfl:q=none:=by cases q with|none=>rfl|some a=>cases e2
   obtain ⟨pa,rfl⟩:∃pa,p=some pa:=by cases p with|none=>cases e1|some a=>exact ⟨a,rfl⟩
   refine fin (by simp) (by simp) (g0 (.inl (by simp)) (by simp)) ?_ (by simp) (by simp)
   exact h9 fun n=>by simp [Op.equalIn,run_underlying hd]
 case map kk el=>
  obtain rfl:d= .map kk el:=hdr
  simp only [eqRef] at h
  obtain ⟨rfl,h1⟩:=eqNil_ok h
  refine ⟨Alike.refl _,?_⟩
  rcases h1 with ⟨h1,h2⟩|⟨h1,h2,rfl⟩
  ·obtain ⟨p,rfl,e1⟩:=nilM_rel h1 hx
   obtain ⟨q,rfl,rfl⟩:=nilM_rel h2 hy
   obtain rfl:p=none:=by cases p with|none=>rfl|some a=>cases e1
   refine fin (by simp) (by simp) (g0 (.inl (by simp)) (by simp)) ?_ (by simp) (by simp)
   exact h9 fun n=>by cases q<;>simp [Op.equalIn,run_underlying hd]
  ·obtain ⟨p,rfl,e1⟩:=nilM_rel h1 hx
   obtain ⟨q,rfl,e2⟩:=nilM_rel h2 hy
   obtain rfl:q=none:=by cases q with|none=>rfl|some a=>cases e2
   obtain ⟨pa,rfl⟩:∃pa,p=some pa:=by cases p with|none=>cases e1|some a=>exact ⟨a,rfl⟩
   refine fin (by simp) (by simp) (g0 (.inl (by simp)) (by simp)) ?_ (by simp) (by simp)
   exact h9 fun n=>by simp [Op.equalIn,run_underlying hd]
 case fn=>
  obtain ⟨fa,fb,fc,rfl⟩:=hdr
  simp only [eqRef] at h
  obtain ⟨rfl,h1⟩:=eqNil_ok h
  refine ⟨Alike.refl _,?_⟩
  rcases h1 with ⟨h1,h2⟩|⟨h1,h2,rfl⟩
  ·rcases nilF_rel h1 hx with ⟨_,rfl⟩|⟨h3,_⟩
   ·rcases nilF_rel h2 hy with ⟨rfl,rfl⟩|⟨rfl,_,_,_,rfl⟩<;>
     exact fin (by simp) (by simp) (g0 (.inl (by simp)) (by simp)) (h9 fun n=>by simp [Op.equalIn,run_underlying hd]) (by simp) (by simp)
   ·cases h3
  ·rcases nilF_rel h1 hx with ⟨h3,_⟩|⟨_,_,_,_,rfl⟩
   ·cases h3
   ·rcases nilF_rel h2 hy with ⟨_,rfl⟩|⟨h3,_⟩
    ·exact fin (by simp) (by simp) (g0 (.inl (by simp)) (by simp)) (h9 fun n=>by simp [Op.equalIn,run_underlying hd]) (by simp) (by simp)
    ·cases h3
 case ifc=>
  obtain ⟨ms,rfl⟩:=hdr
  cases hl:lit with
  |false=>simp only [hl,cond_false] at h;exact (M.fail_ok.1 h).elim
  |true=>
   simp only [hl,cond_true] at h
   obtain ⟨rfl,h1⟩:=eqNil_ok h
   refine ⟨Alike.refl _,?_⟩
   have gl:∀op,(eqGuard op t ox oy .nilIface .nilIface).run P w= .ok () w:=fun op=>by
    rw [hl] at hlit
    cases op<;>simp only [eqGuard]<;>first|rfl|skip
    all_goals
     cases ox<;>cases oy<;>first|rfl|(cases hlit;done)
   rcases h1 with ⟨h1,h2⟩|⟨h1,h2,rfl⟩
   ·rcases nilI_rel h1 hx with ⟨_,rfl⟩|⟨h3,_⟩
    ·rcases nilI_rel h2 hy with ⟨rfl,rfl⟩|⟨rfl,_,_,rfl⟩
     ·exact fin (by simp) (by simp) gl (h9 fun n=>by simp [Op.equalIn,run_underlying hd]) (by simp) (by simp)
     ·exact fin (by simp) (by simp) (g0 (.inr (by simp)) (by simp)) (h9 fun n=>by simp [Op.equalIn,run_underlying hd]) (by simp) (by simp)
    ·cases h3
   ·rcases nilI_rel h1 hx with ⟨h3,_⟩|⟨_,_,_,rfl⟩
    ·cases h3
    ·rcases nilI_rel h2 hy with ⟨_,rfl⟩|⟨h3,_⟩
     ·exact fin (by simp) (by simp) (g0 (.inl (by simp)) (by simp)) (h9 fun n=>by simp [Op.equalIn,run_underlying hd]) (by simp) (by simp)
     ·cases h3
 case other=>exact (M.fail_ok.1 h).elim
 all_goals
  unfold eqAgg at h
  split at h
  ·rename_i p q ha hb
   cases hf:(i.flat&&shapeB (isArrD i.desc) i.size i.zc p) with
   |false=>rw [bif_false _ _ hf] at h;cases h
   |true=>
    rw [bif_true _ _ hf] at h
    obtain ⟨h1,rfl⟩:=M.of_ok.1 h
    rw [Bool.and_eq_true] at hf
    obtain ⟨xs,rfl,hxs⟩:=aggA_rel ha hx
    obtain ⟨ys,rfl,hys⟩:=aggA_rel hb hy
    obtain ⟨_,_,_,_,_,_,_,_,_,_,_,_,hfl,_⟩:=hi
    obtain ⟨f1,f2⟩:=hfl hf.1
    exact ⟨Alike.refl _,fin (by simp) (by simp) (fun op=>run_eqGuard_agg w op t ox oy xs ys f1) (f2 ρ _ _ _ _ _ _ hf.2 h1 hxs hys).1 (by simp) (by simp)⟩
  ·cases h
end
end Go.Proofs.YtnkjkgmohmcobaaGreatDoor.Vm
namespace Go.Proofs.YtnkjkgmohmcobaaGreatDoor.Vm
open Go
section
variable {P:Program} {s s' s1:St} {ρ ρ':Ren} {w w':World} {t e:TypeId} {i j:TyI}
theorem guard_off {op:BinOp} {ox oy:Operand} {a b:Value} (h:(op matches .eql| .neq)=false):(eqGuard op t ox oy a b).run P w= .ok () w:=by
 cases op<;>first|rfl|(cases h;done)
theorem bin_does {E:Env} (hE:EnvOK E P) {op:BinOp} {lit:Bool} {ox oy:Operand} {x y v:AV} {a b:Value} (hlit:lit=(isConst ox || isConst oy)) (h:binF E op t lit x y s= .ok v s') (hx:VRel ρ x a) (hy:VRel ρ y b) (hw:WRel ρ s.h w):
  Does P s s' ρ w (do eqGuard op t ox oy a b;binOp op t a b) (fun ρ r=>VRel ρ v r):=by
 have go:∀{r:Value},s'=s→(eqGuard op t ox oy a b).run P w= .ok () w→(binOp op t a b).run P w= .ok r w→VRel ρ v r→Does P s s' ρ w (do eqGuard op t ox oy a b;binOp op t a b) (fun ρ r=>VRel ρ v r):=by
  intro r e1 e2 e3 e4
  subst e1
  exact Does.read (Alike.refl _) hw (by rw [Sem.run_bind,e2];exact e3) e4
 cases op<;>simp only [binF] at h
 case eql=>
  obtain ⟨i,hi,h2⟩:=withTy_ok.1 h
  obtain ⟨r,s1,h3,h4⟩:=M.bind_ok.1 h2
  obtain ⟨rfl,rfl⟩:=M.pure_ok.1 h4
  obtain ⟨g1,g2,g3,g4⟩:=eqT_run hE (hE.ty _ _ hi) hlit h3 hx hy hw
  exact Does.read g1 hw (by rw [Sem.run_bind,g2];exact g3) rfl
 case neq=>
  obtain ⟨i,hi,h2⟩:=withTy_ok.1 h
  obtain ⟨r,s1,h3,h4⟩:=M.bind_ok.1 h2
  obtain ⟨rfl,rfl⟩:=M.pure_ok.1 h4
  obtain ⟨g1,g2,g3,g4⟩:=eqT_run hE (hE.ty _ _ hi) hlit h3 hx hy hw
  exact Does.read g1 hw (by rw [Sem.run_bind,g2];exact g4) rfl
 case add=>
  obtain ⟨h1,⟨k,m,n,rfl,rfl,rfl⟩|⟨m,n,rfl,rfl,rfl,h3⟩⟩:=addA_ok h hx hy
  ·exact go h1 (guard_off rfl) (by simp [binOp,Op.intArith];rfl) (by rw [wrapF_eq];rfl)
  ·refine go h1 (guard_off rfl) (r:= .string (m++n)) ?_ rfl
   have hn:¬(((m.size+n.size:Nat):Int)>IntKind.i64.max):=by
    have:IntKind.i64.max=9223372036854775807:=by decide
    rw [this]
    omega
   have:(binOp .add t (.string m) (.string n))=(if ((m.size+n.size:Nat):Int)>IntKind.i64.max then unsupported (.resourceLimit "string concatenation: a sum of the lengths that is no int") else pure (.string (m++n))):=rfl
   rw [this,if_neg hn]
   rfl
 case shl=>
  obtain ⟨k,kk,m,n,rfl,rfl,rfl,h1⟩:=sh2_ok h hx hy
  exact go h1 (guard_off rfl) (by simp [binOp,Op.shift];rfl) (by rw [wrapF_eq];rfl)
 case shr=>
  obtain ⟨k,kk,m,n,rfl,rfl,rfl,h1⟩:=sh2_ok h hx hy
  exact go h1 (guard_off rfl) (by simp [binOp,Op.shift];rfl) (by rw [mkInt_eq];rfl)
 case quo=>
  obtain ⟨k,m,n,rfl,rfl,h2,h1⟩:=int2_ok h hx hy
  by_cases hn:n=0
  ·rw [if_pos hn] at h2;cases h2
  ·rw [if_neg hn] at h2
   simp only [Option.some.injEq] at h2
   subst h2
   exact go h1 (guard_off rfl) (by simp [binOp,Op.intDiv,hn];rfl) (by rw [wrapF_eq];rfl)
 case rem=>
  obtain ⟨k,m,n,rfl,rfl,h2,h1⟩:=int2_ok h hx hy
  by_cases hn:n=0
  ·rw [if_pos hn] at h2;cases h2
  ·rw [if_neg hn] at h2
   simp only [Option.some.injEq] at h2
   subst h2
   exact go h1 (guard_off rfl) (by simp [binOp,Op.intDiv,hn];rfl) (by rw [mkInt_eq];rfl)
 case lss=>
  obtain ⟨h1,⟨k,m,n,rfl,rfl,rfl⟩|⟨m,n,rfl,rfl,rfl⟩⟩:=cmp2_ok h hx hy
  ·exact go h1 (guard_off rfl) (r:= .bool (decide (m<n))) (by simp [binOp,Op.intCmp]) rfl
  ·exact go h1 (guard_off rfl) (r:= .bool (ltS m n)) (by simp [binOp,Op.stringOp,ltS]) rfl
 case leq=>
  obtain ⟨h1,⟨k,m,n,rfl,rfl,rfl⟩|⟨m,n,rfl,rfl,rfl⟩⟩:=cmp2_ok h hx hy
  ·exact go h1 (guard_off rfl) (r:= .bool (decide (m≤n))) (by simp [binOp,Op.intCmp]) rfl
  ·exact go h1 (guard_off rfl) (r:= .bool (leS m n)) (by simp [binOp,Op.stringOp,leS]) rfl
 case gtr=>
  obtain ⟨h1,⟨k,m,n,rfl,rfl,rfl⟩|⟨m,n,rfl,rfl,rfl⟩⟩:=cmp2_ok h hx hy
  ·exact go h1 (guard_off rfl) (r:= .bool (decide (m>n))) (by simp [binOp,Op.intCmp]) rfl
  ·exact go h1 (guard_off rfl) (r:= .bool (!(leS m n))) (by simp [binOp,Op.stringOp,leS]) rfl
 case geq=>
  obtain ⟨h1,⟨k,m,n,rfl,rfl,rfl⟩|⟨m,n,rfl,rfl,rfl⟩⟩:=cmp2_ok h hx hy
  ·exact go h1 (guard_off rfl) (r:= .bool (decide (m≥n))) (by simp [binOp,Op.intCmp]) rfl
  ·exact go h1 (guard_off rfl) (r:= .bool (!(ltS m n))) (by simp [binOp,Op.stringOp,ltS]) rfl
 case andNot=>
  obtain ⟨k,m,n,rfl,rfl,h2,h1⟩:=int2_ok h hx hy
  simp only [bitsA,Option.some.injEq] at h2
  subst h2
  exact go h1 (guard_off rfl) (r:= .int k (k.wrap ((BitVec.ofInt k.bits m&&& ~~~BitVec.ofInt k.bits n).toNat:Int))) (by simp [binOp,Op.intBits]) (by rw [wrapF_eq];rfl)
 all_goals
  obtain ⟨k,m,n,rfl,rfl,h2,h1⟩:=int2_ok h hx hy
  simp only [bitsA,Option.some.injEq] at h2
  subst h2
  exact go h1 (guard_off rfl) (by simp [binOp,Op.intArith,Op.intBits];rfl) (by rw [wrapF_eq];rfl)
theorem un_does {op:UnOp} {x v:AV} {a:Value} (h:unF op x s= .ok v s') (hx:VRel ρ x a) (hw:WRel ρ s.h w):Does P s s' ρ w (Op.unary op a) (fun ρ r=>VRel ρ v r):=by
 cases op<;>simp only [unF] at h
 case neg=>
  obtain ⟨p,s1,h1,h2⟩:=M.bind_ok.1 h
  obtain ⟨hp,rfl⟩:=M.of_ok.1 h1
  obtain ⟨rfl,rfl⟩:=M.pure_ok.1 h2
  obtain rfl:=intA_rel hp hx
  exact Does.read (Alike.refl _) hw (u:= .int p.1 (p.1.wrap (0-p.2))) (by simp [Op.unary,Op.intArith]) (by rw [wrapF_eq];rfl)
 case xor=>
  obtain ⟨p,s1,h1,h2⟩:=M.bind_ok.1 h
  obtain ⟨hp,rfl⟩:=M.of_ok.1 h1
  obtain ⟨h3,rfl⟩:=M.of_ok.1 h2
  simp only [bitsA,Option.some.injEq] at h3
  subst h3
  obtain rfl:=intA_rel hp hx
  exact Does.read (Alike.refl _) hw (u:= .int p.1 (p.1.wrap (BitVec.ofInt p.1.bits (if p.1.signed then-1 else p.1.max)^^^BitVec.ofInt p.1.bits p.2).toNat)) (by simp [Op.unary,Op.intBits]) (by rw [wrapF_eq];rfl)
 case not=>
  obtain ⟨p,s1,h1,h2⟩:=M.bind_ok.1 h
  obtain ⟨hp,rfl⟩:=M.of_ok.1 h1
  obtain ⟨rfl,rfl⟩:=M.pure_ok.1 h2
  obtain rfl:=boolA_rel hp hx
  exact Does.read (Alike.refl _) hw (u:= .bool (!p)) (by simp [Op.unary]) rfl
 case plus=>exact (M.fail_ok.1 h).elim
theorem min_does {x y v:AV} {a b:Value} {ts:Array TypeId} {ty:TypeId} (h:min2A x y s= .ok v s') (hx:VRel ρ x a) (hy:VRel ρ y b) (hw:WRel ρ s.h w):Does P s s' ρ w (Builtin.min_ ts ty #[a,b]) (fun ρ r=>VRel ρ v r):=by
 obtain ⟨k,m,n,rfl,rfl,h2,rfl⟩:=int2_ok h hx hy
 simp only [Option.some.injEq] at h2
 subst h2
 exact Does.read (Alike.refl _) hw (u:= .int k (if n<m then n else m)) (by simp [Builtin.min_,Builtin.min2]) rfl
theorem max_does {x y v:AV} {a b:Value} {ts:Array TypeId} {ty:TypeId} (h:max2A x y s= .ok v s') (hx:VRel ρ x a) (hy:VRel ρ y b) (hw:WRel ρ s.h w):Does P s s' ρ w (Builtin.max_ ts ty #[a,b]) (fun ρ r=>VRel ρ v r):=by
 obtain ⟨k,m,n,rfl,rfl,h2,rfl⟩:=int2_ok h hx hy
 simp only [Option.some.injEq] at h2
 subst h2
 exact Does.read (Alike.refl _) hw (u:= .int k (if m<n then n else m)) (by simp [Builtin.max_,Builtin.max2]) rfl
theorem live_rel {x:AV} {a:Value} (h:liveA x=true) (hx:VRel ρ x a):(∃p,a= .pointer (some p))∨(∃m,a= .map (some m))∨(∃f x y,a= .func (.func f) x y)∨(∃l x y,a= .func (.yield l) x y)∨∃t y,a= .iface t y:=by
 cases x<;>first|(cases h;done)|skip
 ·obtain ⟨p,_,rfl⟩:=hx;exact .inl ⟨_,rfl⟩
 ·obtain ⟨p,_,rfl⟩:=hx;exact .inr (.inl ⟨_,rfl⟩)
 ·obtain ⟨_,_,rfl,_⟩:=hx;exact .inr (.inr (.inl ⟨_,_,_,rfl⟩))
 ·obtain ⟨_,_,rfl⟩:=hx;exact .inr (.inr (.inr (.inl ⟨_,_,_,rfl⟩)))
 ·obtain ⟨_,rfl,_⟩:=hx;exact .inr (.inr (.inr (.inr ⟨_,_,rfl⟩)))
theorem bytesOfC_rel:∀{cs:List AV} {l:List UInt8} {us:List Value},bytesOfC cs=some l→CRel ρ cs us→us=l.map byteV
 |[],l,us,h,hr=>by
  simp only [bytesOfC,Option.some.injEq] at h
  subst h
  exact CRel.nil_iff.1 hr
 |a::r,l,us,h,hr=>by
  obtain ⟨us1,vs,rfl,h2,h3⟩:=CRel.cons_iff.1 hr
  unfold bytesOfC at h
  cases hb:isB a with
  |none=>rw [hb] at h;cases h
  |some p=>
   rw [hb] at h h2
   simp only at h
   cases hbr:bytesOfC r with
   |none=>rw [hbr] at h;cases h
   |some x=>
    rw [hbr] at h
    simp only [Option.some.injEq] at h
    subst h
    rw [h2.1,bytesOfC_rel hbr h3,List.map_append]
    rfl
theorem bytes_fold:∀(l:List UInt8) (b:ByteArray),(l.map fun c=>(c.toNat:Int)).foldl (fun r n=>r.push (UInt8.ofNat n.toNat)) b=⟨b.data++l.toArray⟩
 |[],b=>by simp
 |c::r,b=>by
  rw [List.map_cons,List.foldl_cons,bytes_fold r]
  have hc:UInt8.ofNat (((c.toNat:Nat):Int).toNat)=c:=by simp
  rw [hc]
  simp [ByteArray.push]
theorem conv_does {E:Env} (hE:EnvOK E P) {src dst:TypeId} {x v:AV} {a:Value} (h:convF E src dst x s= .ok v s') (hx:VRel ρ x a) (hw:WRel ρ s.h w):Does P s s' ρ w (convert src dst a) (fun ρ r=>VRel ρ v r):=by
 unfold convF at h
 obtain ⟨i,hi,h2⟩:=withTy_ok.1 h
 obtain ⟨j,hj,h3⟩:=withTy_ok.1 h2
 have hik:=hE.ty _ _ hi
 have hjk:=hE.ty _ _ hj
 obtain ⟨ds,hds,hdr⟩:=hik.desc
 cases hk:intD j.desc with
 |some k=>
  rw [hk] at h3
  obtain ⟨p,s1,h4,h5⟩:=M.bind_ok.1 h3
  obtain ⟨hp,rfl⟩:=M.of_ok.1 h4
  obtain ⟨rfl,rfl⟩:=M.pure_ok.1 h5
  obtain rfl:=intA_rel hp hx
  refine Does.read (Alike.refl _) hw (u:= .int k (k.wrap p.2)) ?_ (by rw [wrapF_eq];rfl)
  simp [convert,run_underlying hds,run_underlying (hjk.int hk),Conv.intToInt]
 |none=>
  rw [hk] at h3
  simp only at h3
  cases hsd:strD j.desc with
  |false=>simp only [hsd,cond_false] at h3;exact (M.fail_ok.1 h3).elim
  |true=>
   simp only [hsd,cond_true] at h3
   cases hss:strD i.desc with
   |true=>
    simp only [hss,cond_true] at h3
    obtain ⟨b,s1,h4,h5⟩:=M.bind_ok.1 h3
    obtain ⟨hb,rfl⟩:=M.of_ok.1 h4
    obtain ⟨rfl,rfl⟩:=M.pure_ok.1 h5
    obtain rfl:=strA_rel hb hx
    refine Does.read (Alike.refl _) hw (u:= .string b) ?_ rfl
    simp [convert,run_underlying hds,run_underlying (hjk.str hsd)]
   |false=>
    simp only [hss,cond_false] at h3
    cases hsl:sliceD i.desc with
    |none=>rw [hsl] at h3;exact (M.fail_ok.1 h3).elim
    |some el=>
     rw [hsl] at h3
     obtain ⟨q,hq,h4⟩:=withTy_ok.1 h3
     have hqk:=hE.ty _ _ hq
     cases hqd:intD q.desc with
     |none=>rw [hqd] at h4;exact (M.fail_ok.1 h4).elim
     |some kk=>
      cases hs:slA x with
      |none=>rw [hqd,hs] at h4;cases kk<;>exact (M.fail_ok.1 h4).elim
      |some sk=>
       rw [hqd,hs] at h4
       cases kk<;>first|(exact (M.fail_ok.1 h4).elim)|skip
       obtain ⟨⟨cs,n⟩,s1,h5,h6⟩:=M.bind_ok.1 h4
       obtain ⟨l,s2,h7,h8⟩:=M.bind_ok.1 h6
       obtain ⟨hl,rfl⟩:=M.of_ok.1 h7
       obtain ⟨rfl,rfl⟩:=M.pure_ok.1 h8
       obtain ⟨g1,us,g2,g3,g4⟩:=cellsM_rel (P:=P) h5 hx hw
       have hus:=bytesOfC_rel hl g2
       obtain ⟨g5,g6⟩:=g4 w rfl
       have g7:=g6 n (Nat.le_refl _)
       have hfull:(us.toList.take (n*1)).toArray=us:=by rw [← g3, ← Array.length_toList,List.take_length]
       rw [hfull] at g7
       have hsr:=slA_rel hs hx
       refine Does.read g1 hw (u:= .string ⟨l.toArray⟩) ?_ rfl
       have hu:=run_underlying (hik.slice hsl) w
       have hu2:=run_underlying (hjk.str hsd) w
       have hu3:=run_underlying (hqk.int hqd) w
       have hbs:(Conv.bytesToString a).run P w= .ok (.string ⟨l.toArray⟩) w:=by
        have some_:∀{ad:Addr} {len c:Nat},a= .slice (some ad) len c→(Conv.bytesToString a).run P w= .ok (.string ⟨l.toArray⟩) w:=by
         intro ad len c ha
         subst ha
         simp only [Builtin.lenOf,Sem.run_pure,Result.ok.injEq,and_true] at g5
         subst g5
         simp only [Builtin.firstCells,Nat.mul_one] at g7
         have hns:us=((l.map fun c=>(c.toNat:Int)).map (Value.int .u8)).toArray:=by
          apply Array.ext'
          rw [hus,List.map_map]
          rfl
         rw [hns] at g7
         have hb:=run_bytesToString (P:=P) w ad len c (l.map fun c=>(c.toNat:Int)) g7
         rw [bytes_fold] at hb
         rw [hb]
         simp
        obtain _|_|⟨m,off,len,cap,es⟩:=sk
        ·obtain rfl:a= .slice none 0 0:=hsr
         have:us= #[]:=by
          simp only [Builtin.firstCells,Sem.run_pure,Result.ok.injEq,and_true] at g7
          exact g7.symm
         rw [this] at hus
         have hl0:l=[]:=by cases l with|nil=>rfl|cons _ _=>cases hus
         subst hl0
         rfl
        ·obtain ⟨ad,c,ha⟩:=hsr
         exact some_ ha
        ·obtain ⟨p,c,_,ha,_⟩:=hsr
         exact some_ ha
       obtain ⟨p0,l0,c0,rfl⟩:∃p l c,a= .slice p l c:=by
        obtain _|_|⟨m,off,len,cap,es⟩:=sk
        ·exact ⟨_,_,_,hsr⟩
        ·obtain ⟨ad,c,ha⟩:=hsr;exact ⟨_,_,_,ha⟩
        ·obtain ⟨p,c,_,ha,_⟩:=hsr;exact ⟨_,_,_,ha⟩
       simp [convert,hu,hu2,hu3,hbs]
end
end Go.Proofs.YtnkjkgmohmcobaaGreatDoor.Vm
namespace Go.Proofs.YtnkjkgmohmcobaaGreatDoor.Vm
open Go
def NRel (ρ:Ren):ANext→Next→Prop
 | .value v,r=>∃u,r= .value u∧VRel ρ v u
 | .skip,r=>r= .skip
 | .defer d,r=>∃q,r= .defer q∧DRel1 ρ d q
section
variable {P:Program} {s s' s1:St} {ρ ρ':Ren} {w w':World} {t e:TypeId} {i j:TyI}
theorem value_ok {m:M AV} {x:ANext} (h:value m s= .ok x s'):∃v,m s= .ok v s'∧x= .value v:=by
 obtain ⟨v,s1,h1,h2⟩:=M.bind_ok.1 h
 obtain ⟨rfl,rfl⟩:=M.pure_ok.1 h2
 exact ⟨v,h1,rfl⟩
theorem skip_ok {m:M Unit} {x:ANext} (h:skip m s= .ok x s'):m s= .ok () s'∧x= .skip:=by
 obtain ⟨v,s1,h1,h2⟩:=M.bind_ok.1 h
 obtain ⟨rfl,rfl⟩:=M.pure_ok.1 h2
 exact ⟨h1,rfl⟩
theorem Does.value {v:AV} {sem:Sem Value} (h:Does P s s' ρ w sem (fun ρ r=>VRel ρ v r)):Does P s s' ρ w (do pure (Next.value (← sem))) (fun ρ r=>NRel ρ (.value v) r):=fun hf=>by
 obtain ⟨ρ',w',u,h1,h2,h3,h4⟩:=h hf
 exact ⟨ρ',w',.value u,by rw [Sem.run_bind,h1];rfl,⟨u,rfl,h2⟩,h3,h4⟩
theorem Does.skip {sem:Sem Unit} {R:Ren→Unit→Prop} (h:Does P s s' ρ w sem R):Does P s s' ρ w (do sem;pure Next.skip) (fun ρ r=>NRel ρ .skip r):=fun hf=>by
 obtain ⟨ρ',w',u,h1,h2,h3,h4⟩:=h hf
 exact ⟨ρ',w',.skip,by rw [Sem.run_bind,h1];rfl,rfl,h3,h4⟩
theorem Does.just {sem:Sem Value} {v:AV} {u:Value} (hw:WRel ρ s.h w) (h:sem.run P w= .ok u w) (hv:VRel ρ v u):Does P s s ρ w sem (fun ρ r=>VRel ρ v r):=Does.read (Alike.refl _) hw h hv
theorem rdOpt_rel {T:Tr AV} {n:Nat} {x:Option Operand} {v:Option AV} {a:Act} (h:rdOpt T (optO x) s= .ok v s') (hT:TRel ρ T n a.tmps):s'=s∧ORelO ρ v (x.map a.eval):=by
 cases x with
 |none=>
  obtain ⟨rfl,rfl⟩:=M.pure_ok.1 h
  exact ⟨rfl,trivial⟩
 |some x=>
  simp only [optO,rdOpt] at h
  obtain ⟨y,s1,h1,h2⟩:=M.bind_ok.1 h
  obtain ⟨rfl,rfl⟩:=M.pure_ok.1 h2
  obtain ⟨rfl,g⟩:=rd_rel h1 hT
  exact ⟨rfl,g⟩
theorem argT_ok {ts:List TypeId} {k:Nat} {f:TypeId→List AV→M AV} {vs:List AV} {v:AV} (h:argT ts k f vs s= .ok v s'):∃t,ts[k]?=some t∧f t vs s= .ok v s':=by
 unfold argT at h
 cases ht:ts[k]? with
 |none=>rw [ht] at h;exact (M.fail_ok.1 h).elim
 |some t=>rw [ht] at h;exact ⟨t,rfl,h⟩
theorem two_ok {f:AV→AV→M AV} {vs:List AV} {v:AV} (h:two f vs s= .ok v s'):∃a b,vs=[a,b]∧f a b s= .ok v s':=by
 unfold two at h
 rcases vs with _|⟨a,_|⟨b,_|⟨c,r⟩⟩⟩<;>first|exact (M.fail_ok.1 h).elim|exact ⟨a,b,rfl,h⟩
theorem one_ok {f:AV→M AV} {vs:List AV} {v:AV} (h:one f vs s= .ok v s'):∃a,vs=[a]∧f a s= .ok v s':=by
 unfold one at h
 rcases vs with _|⟨a,_|⟨c,r⟩⟩<;>first|exact (M.fail_ok.1 h).elim|exact ⟨a,rfl,h⟩
theorem LRel.one {a:AV} {us:Array Value} (h:LRel ρ [a] us.toList):∃u,us= #[u]∧VRel ρ a u:=by
 obtain ⟨u,l,h1,h2,h3⟩:=LRel.cons_iff.1 h
 rw [LRel.nil_iff.1 h3] at h1
 exact ⟨u,Array.ext' h1,h2⟩
theorem LRel.two {a b:AV} {us:Array Value} (h:LRel ρ [a,b] us.toList):∃u x,us= #[u,x]∧VRel ρ a u∧VRel ρ b x:=by
 obtain ⟨u,l,h1,h2,h3⟩:=LRel.cons_iff.1 h
 obtain ⟨x,l',h4,h5,h6⟩:=LRel.cons_iff.1 h3
 rw [LRel.nil_iff.1 h6] at h4
 rw [h4] at h1
 exact ⟨u,x,Array.ext' h1,h2,h5⟩
theorem builtin_does {E:Env} (hE:EnvOK E P) {b:Builtin} {ts:Array TypeId} {ty:TypeId} {cs:Array Bool} {vs:List AV} {us:Array Value} {v:AV} (h:builtinF E b ts.toList vs s= .ok v s') (hv:LRel ρ vs us.toList) (hw:WRel ρ s.h w):
  Does P s s' ρ w (builtin b ts ty cs us) (fun ρ r=>NRel ρ (.value v) r):=by
 cases b<;>simp only [builtinF] at h
 case append=>
  obtain ⟨t,ht,h⟩:=argT_ok h
  obtain ⟨tx,htx,h⟩:=argT_ok h
  obtain ⟨a,b,rfl,h⟩:=two_ok h
  obtain ⟨u,x,rfl,h1,h2⟩:=hv.two
  rw [Array.getElem?_toList] at ht htx
  exact Does.value (append_does hE ht htx h h1 h2 hw)
 case len=>
  obtain ⟨t,ht,h⟩:=argT_ok h
  obtain ⟨a,rfl,h⟩:=one_ok h
  obtain ⟨u,rfl,h1⟩:=hv.one
  rw [Array.getElem?_toList] at ht
  exact Does.value (len_does hE ht h h1 hw)
 case copy=>
  obtain ⟨t,ht,h⟩:=argT_ok h
  obtain ⟨a,b,rfl,h⟩:=two_ok h
  obtain ⟨u,x,rfl,h1,h2⟩:=hv.two
  rw [Array.getElem?_toList] at ht
  exact Does.value (copy_does hE ht h h1 h2 hw)
 case clear=>
  obtain ⟨t,ht,h⟩:=argT_ok h
  obtain ⟨a,rfl,h⟩:=one_ok h
  obtain ⟨u,rfl,h1⟩:=hv.one
  rw [Array.getElem?_toList] at ht
  exact Does.value (clear_does hE ht h h1 hw)
 case delete=>
  obtain ⟨t,ht,h⟩:=argT_ok h
  obtain ⟨a,b,rfl,h⟩:=two_ok h
  obtain ⟨u,x,rfl,h1,h2⟩:=hv.two
  rw [Array.getElem?_toList] at ht
  obtain ⟨i,hi,h⟩:=withTy_ok.1 h
  exact Does.value (delete_does hE ht (hE.ty _ _ hi) h h1 h2 hw)
 case cap=>
  obtain ⟨t,ht,h⟩:=argT_ok h
  obtain ⟨a,rfl,h⟩:=one_ok h
  obtain ⟨u,rfl,h1⟩:=hv.one
  rw [Array.getElem?_toList] at ht
  obtain ⟨i,hi,h⟩:=withTy_ok.1 h
  exact Does.value (cap_does ht (hE.ty _ _ hi) h h1 hw)
 case min=>
  obtain ⟨a,b,rfl,h⟩:=two_ok h
  obtain ⟨u,x,rfl,h1,h2⟩:=hv.two
  exact Does.value (min_does h h1 h2 hw)
 case max=>
  obtain ⟨a,b,rfl,h⟩:=two_ok h
  obtain ⟨u,x,rfl,h1,h2⟩:=hv.two
  exact Does.value (max_does h h1 h2 hw)
 all_goals exact (M.fail_ok.1 h).elim
theorem mapnew_does {n:Nat} (h:newM (.map [] 0) s= .ok n s') (hw:WRel ρ s.h w):Does P s s' ρ w (newObj (.map #[] 0)) (fun ρ r=>VRel ρ (.map n) (.map (some r))):=by
 obtain ⟨rfl,hs'⟩:=newM_ok.1 h
 intro hf
 have hf0:=hf.at (by rw [hs'];exact Nat.lt_succ_self _)
 have:=new_rel (s':=s') (o:= .map [] 0) (ob:= .map #[] 0) (κ:=0) hw hf0 (by rw [hs'];rfl) (by rw [hs'];rfl) ⟨#[],rfl,rfl⟩
 exact ⟨_,_,w.heap.size,by simp [newObj,Sem.run,World.alloc_eq],⟨_,Ren.put_same _ _ _,rfl⟩,this.1,this.2⟩
theorem fnOnly_rel {x:AV} {q:FuncId × List AV × List AV} {u:Value} (h:fnOnly x=some q) (hu:VRel ρ x u):∃y z:Array Value,u= .func (.func q.1) y z∧LRel ρ q.2.1 y.toList∧LRel ρ q.2.2 z.toList:=by
 cases x<;>simp only [fnOnly,Option.some.injEq,reduceCtorEq] at h
 subst h
 exact hu
theorem op_does {E:Env} (hE:EnvOK E P) {o:Oper} {f:Tr AV→M ANext} {T:Tr AV} {n:Nat} {a:Act} {x:ANext} (ho:opC E o.op= .simp f) (h:f T s= .ok x s') (hT:TRel ρ T n a.tmps) (hw:WRel ρ s.h w):
  Does P s s' ρ w (execOp a.eval o) (fun ρ r=>NRel ρ x r):=by
 obtain ⟨dst,op,type,pos,after,guard⟩:=o
 cases op<;>simp only [opC] at ho
 case move y=>
  injection ho with ho;subst ho
  obtain ⟨v,s1,h1,h2⟩:=M.bind_ok.1 h
  obtain ⟨rfl,g1⟩:=rd_rel h1 hT
  obtain ⟨v',h3,rfl⟩:=value_ok h2
  obtain ⟨rfl,rfl⟩:=M.pure_ok.1 h3
  exact Does.read (Alike.refl _) hw (u:= .value (a.eval y)) rfl ⟨_,rfl,g1⟩
 case assign y=>
  injection ho with ho;subst ho
  obtain ⟨v,s1,h1,h2⟩:=M.bind_ok.1 h
  obtain ⟨rfl,g1⟩:=rd_rel h1 hT
  obtain ⟨v',h3,rfl⟩:=value_ok h2
  obtain ⟨rfl,rfl⟩:=M.pure_ok.1 h3
  exact Does.read (Alike.refl _) hw (u:= .value (a.eval y)) rfl ⟨_,rfl,g1⟩
 case pick c y z=>
  injection ho with ho;subst ho
  obtain ⟨v,s1,h1,h2⟩:=M.bind_ok.1 h
  obtain ⟨rfl,g1⟩:=rd_rel h1 hT
  obtain ⟨b,s2,h3,h4⟩:=M.bind_ok.1 h2
  obtain ⟨hb,rfl⟩:=M.of_ok.1 h3
  obtain ⟨v',h5,rfl⟩:=value_ok h4
  have hc:=boolA_rel hb g1
  cases b with
  |true=>
   obtain ⟨rfl,g2⟩:=rd_rel (x:=y) h5 hT
   exact Does.read (Alike.refl _) hw (u:= .value (a.eval y)) (by simp [execOp,hc,asBool]) ⟨_,rfl,g2⟩
  |false=>
   obtain ⟨rfl,g2⟩:=rd_rel (x:=z) h5 hT
   exact Does.read (Alike.refl _) hw (u:= .value (a.eval z)) (by simp [execOp,hc,asBool]) ⟨_,rfl,g2⟩
 case alloc el=>
  injection ho with ho;subst ho
  obtain ⟨i,hi,h2⟩:=withTy_ok.1 h
  obtain ⟨m,s1,h3,h4⟩:=M.bind_ok.1 h2
  obtain ⟨rfl,rfl⟩:=M.pure_ok.1 h4
  exact Does.value (alloc_does (hE.ty _ _ hi) h3 hw)
 case box el y=>
  injection ho with ho;subst ho
  obtain ⟨v,s1,h1,h2⟩:=M.bind_ok.1 h
  obtain ⟨rfl,g1⟩:=rd_rel h1 hT
  obtain ⟨cs,s2,h3,h4⟩:=M.bind_ok.1 h2
  obtain ⟨hc,rfl⟩:=M.of_ok.1 h3
  obtain ⟨m,s3,h5,h6⟩:=M.bind_ok.1 h4
  obtain ⟨rfl,rfl⟩:=M.pure_ok.1 h6
  exact Does.value (box_does hc h5 g1 hw)
 case build ty ps=>
  injection ho with ho;subst ho
  obtain ⟨i,hi,h2⟩:=withTy_ok.1 h
  obtain ⟨vs,s1,h3,h4⟩:=M.bind_ok.1 h2
  obtain ⟨rfl,g1⟩:=rdsP_rel hT h3
  obtain ⟨v',h5,rfl⟩:=value_ok h4
  exact Does.value (build_does hE (hE.ty _ _ hi) h5 (by simpa using g1) hw)
 case buildSlice ty len ps=>
  injection ho with ho;subst ho
  obtain ⟨i,hi,h2⟩:=withTy_ok.1 h
  obtain ⟨vs,s1,h3,h4⟩:=M.bind_ok.1 h2
  obtain ⟨rfl,g1⟩:=rdsP_rel hT h3
  obtain ⟨v',h5,rfl⟩:=value_ok h4
  exact Does.value (buildSlice_does hE (hE.ty _ _ hi) h5 (by simpa using g1) hw)
 case load ty y=>
  injection ho with ho;subst ho
  obtain ⟨i,hi,h2⟩:=withTy_ok.1 h
  obtain ⟨v,s1,h3,h4⟩:=M.bind_ok.1 h2
  obtain ⟨rfl,g1⟩:=rd_rel h3 hT
  obtain ⟨v',h5,rfl⟩:=value_ok h4
  exact Does.value (loadM_does (hE.ty _ _ hi) h5 g1 hw)
 case store ty y z=>
  injection ho with ho;subst ho
  obtain ⟨i,hi,h2⟩:=withTy_ok.1 h
  obtain ⟨v,s1,h3,h4⟩:=M.bind_ok.1 h2
  obtain ⟨rfl,g1⟩:=rd_rel h3 hT
  obtain ⟨v2,s2,h5,h6⟩:=M.bind_ok.1 h4
  obtain ⟨rfl,g2⟩:=rd_rel h5 hT
  obtain ⟨h7,rfl⟩:=skip_ok h6
  exact Does.skip (storeM_does (hE.ty _ _ hi) h7 g1 g2 hw)
 case nilCheck y=>
  injection ho with ho;subst ho
  obtain ⟨v,s1,h1,h2⟩:=M.bind_ok.1 h
  obtain ⟨rfl,g1⟩:=rd_rel h1 hT
  obtain ⟨v',h3,rfl⟩:=value_ok h2
  unfold notNil at h3
  cases hl:liveA v with
  |false=>rw [bif_false _ _ hl] at h3;exact (M.fail_ok.1 h3).elim
  |true=>
   rw [bif_true _ _ hl] at h3
   obtain ⟨rfl,rfl⟩:=M.pure_ok.1 h3
   refine Does.read (Alike.refl _) hw (u:= .value (a.eval y)) ?_ ⟨_,rfl,g1⟩
   rcases live_rel hl g1 with ⟨p,e⟩|⟨m,e⟩|⟨f,x,z,e⟩|⟨l,x,z,e⟩|⟨t,z,e⟩<;>simp [execOp,e]
 case binOp op ty y z ty2=>
  injection ho with ho;subst ho
  obtain ⟨v,s1,h3,h4⟩:=M.bind_ok.1 h
  obtain ⟨rfl,g1⟩:=rd_rel h3 hT
  obtain ⟨v2,s2,h5,h6⟩:=M.bind_ok.1 h4
  obtain ⟨rfl,g2⟩:=rd_rel h5 hT
  obtain ⟨v',h7,rfl⟩:=value_ok h6
  exact Does.value (bin_does hE rfl h7 g1 g2 hw)
 case unOp op ty y=>
  injection ho with ho;subst ho
  obtain ⟨v,s1,h3,h4⟩:=M.bind_ok.1 h
  obtain ⟨rfl,g1⟩:=rd_rel h3 hT
  obtain ⟨v',h7,rfl⟩:=value_ok h4
  exact Does.value (un_does h7 g1 hw)
 case convert src dst y=>
  injection ho with ho;subst ho
  obtain ⟨v,s1,h3,h4⟩:=M.bind_ok.1 h
  obtain ⟨rfl,g1⟩:=rd_rel h3 hT
  obtain ⟨v',h7,rfl⟩:=value_ok h4
  exact Does.value (conv_does hE h7 g1 hw)
 case makeInterface ty y=>
  injection ho with ho;subst ho
  obtain ⟨i,hi,h2⟩:=withTy_ok.1 h
  obtain ⟨v,s1,h3,h4⟩:=M.bind_ok.1 h2
  obtain ⟨rfl,g1⟩:=rd_rel h3 hT
  obtain ⟨v',h7,rfl⟩:=value_ok h4
  cases hc:concreteD i.desc with
  |false=>simp only [hc,cond_false] at h7;exact (M.fail_ok.1 h7).elim
  |true=>
   simp only [hc,cond_true] at h7
   obtain ⟨rfl,rfl⟩:=M.pure_ok.1 h7
   obtain ⟨d,hd,hdr⟩:=(hE.ty _ _ hi).desc
   refine Does.value (Does.just hw (u:= .iface ty (a.eval y)) ?_ ⟨_,rfl,g1⟩)
   cases hds:i.desc<;>rw [hds] at hdr hc<;>first|(cases hc;done)|skip
   all_goals first
    |(obtain rfl:=hdr;simp [Instr.makeInterface,run_underlying hd];done)
    |(obtain ⟨_,rfl,_⟩:=hdr;simp [Instr.makeInterface,run_underlying hd];done)
    |(obtain ⟨_,_,_,rfl⟩:=hdr;simp [Instr.makeInterface,run_underlying hd];done)
 case makeFunc fn y z=>
  unfold funC at ho
  cases fn<;>simp only at ho
  case func g=>
   injection ho with ho;subst ho
   obtain ⟨vs,s1,h3,h4⟩:=M.bind_ok.1 h
   obtain ⟨rfl,g1⟩:=rds_rel hT h3
   obtain ⟨us,s2,h5,h6⟩:=M.bind_ok.1 h4
   obtain ⟨rfl,g2⟩:=rds_rel hT h5
   obtain ⟨rfl,rfl⟩:=M.pure_ok.1 h6
   exact Does.value (Does.just hw (u:= .func (.func g) (y.map a.eval) (z.map a.eval)) rfl ⟨_,_,rfl,by simpa using g1,by simpa using g2⟩)
  all_goals
   injection ho with ho;subst ho
   exact (M.fail_ok.1 h).elim
 case makeMap ty r=>
  unfold mapC at ho
  cases r with
  |none=>
   injection ho with ho;subst ho
   obtain ⟨m,s1,h3,h4⟩:=M.bind_ok.1 h
   obtain ⟨rfl,rfl⟩:=M.pure_ok.1 h4
   intro hf
   obtain ⟨ρ',w',u,k1,k2,k3,k4⟩:=mapnew_does (P:=P) h3 hw hf
   refine ⟨ρ',w',.value (.map (some u)),?_,⟨_,rfl,k2⟩,k3,k4⟩
   simp only [execOp,Instr.makeMap]
   generalize newObj (.map #[] 0)=no at k1 ⊢
   simp [k1]
  |some r=>
   injection ho with ho;subst ho
   obtain ⟨i,hi,h2⟩:=withTy_ok.1 h
   obtain ⟨v,s1,h3,h4⟩:=M.bind_ok.1 h2
   obtain ⟨rfl,g1⟩:=rd_rel h3 hT
   obtain ⟨q,s2,h5,h6⟩:=M.bind_ok.1 h4
   obtain ⟨hq,rfl⟩:=M.of_ok.1 h5
   obtain ⟨q2,s3,h7,h8⟩:=M.bind_ok.1 h6
   obtain ⟨hq2,rfl⟩:=M.of_ok.1 h7
   obtain ⟨m,s1,h9,h10⟩:=M.bind_ok.1 h8
   obtain ⟨rfl,rfl⟩:=M.pure_ok.1 h10
   have hin:=intA_rel hq g1
   intro hf
   obtain ⟨ρ',w',u,k1,k2,k3,k4⟩:=mapnew_does (P:=P) h9 hw hf
   refine ⟨ρ',w',.value (.map (some u)),?_,⟨_,rfl,k2⟩,k3,k4⟩
   simp only [execOp,Instr.makeMap]
   generalize newObj (.map #[] 0)=no at k1 ⊢
   simp [hin,run_underlying ((hE.ty _ _ hi).map hq2),asInt,asIntOf,k1]
 case makeSlice ty l c=>
  injection ho with ho;subst ho
  obtain ⟨i,hi,h2⟩:=withTy_ok.1 h
  obtain ⟨v,s1,h3,h4⟩:=M.bind_ok.1 h2
  obtain ⟨rfl,g1⟩:=rd_rel h3 hT
  obtain ⟨v2,s2,h5,h6⟩:=M.bind_ok.1 h4
  obtain ⟨rfl,g2⟩:=rd_rel h5 hT
  obtain ⟨v',h7,rfl⟩:=value_ok h6
  exact Does.value (makeSlice_does hE (hE.ty _ _ hi) h7 g1 g2 hw)
 case slice ty y lo hi' mx=>
  injection ho with ho;subst ho
  obtain ⟨i,hi,h2⟩:=withTy_ok.1 h
  obtain ⟨v,s1,h3,h4⟩:=M.bind_ok.1 h2
  obtain ⟨rfl,g1⟩:=rd_rel h3 hT
  obtain ⟨v2,s2,h5,h6⟩:=M.bind_ok.1 h4
  obtain ⟨rfl,g2⟩:=rdOpt_rel h5 hT
  obtain ⟨v3,s3,h7,h8⟩:=M.bind_ok.1 h6
  obtain ⟨rfl,g3⟩:=rdOpt_rel h7 hT
  obtain ⟨v4,s4,h9,h10⟩:=M.bind_ok.1 h8
  obtain ⟨rfl,g4⟩:=rdOpt_rel h9 hT
  obtain ⟨v',h11,rfl⟩:=value_ok h10
  exact Does.value (slice_does hE (hE.ty _ _ hi) h11 g1 g2 g3 g4 hw)
 case fieldAddr ty y k=>
  injection ho with ho;subst ho
  obtain ⟨i,hi,h2⟩:=withTy_ok.1 h
  obtain ⟨v,s1,h3,h4⟩:=M.bind_ok.1 h2
  obtain ⟨rfl,g1⟩:=rd_rel h3 hT
  obtain ⟨v',h7,rfl⟩:=value_ok h4
  exact Does.value (fieldAddr_does hE (hE.ty _ _ hi) h7 g1 hw)
 case field ty y k=>
  injection ho with ho;subst ho
  obtain ⟨i,hi,h2⟩:=withTy_ok.1 h
  obtain ⟨v,s1,h3,h4⟩:=M.bind_ok.1 h2
  obtain ⟨rfl,g1⟩:=rd_rel h3 hT
  obtain ⟨v',h7,rfl⟩:=value_ok h4
  exact Does.value (field_does hE (hE.ty _ _ hi) h7 g1 hw)
 case indexAddr ty y z=>
  injection ho with ho;subst ho
  obtain ⟨i,hi,h2⟩:=withTy_ok.1 h
  obtain ⟨v,s1,h3,h4⟩:=M.bind_ok.1 h2
  obtain ⟨rfl,g1⟩:=rd_rel h3 hT
  obtain ⟨v2,s2,h5,h6⟩:=M.bind_ok.1 h4
  obtain ⟨rfl,g2⟩:=rd_rel h5 hT
  obtain ⟨v',h7,rfl⟩:=value_ok h6
  exact Does.value (indexAddr_does hE (hE.ty _ _ hi) h7 g1 g2 hw)
 case index ty y z=>
  injection ho with ho;subst ho
  obtain ⟨i,hi,h2⟩:=withTy_ok.1 h
  obtain ⟨v,s1,h3,h4⟩:=M.bind_ok.1 h2
  obtain ⟨rfl,g1⟩:=rd_rel h3 hT
  obtain ⟨v2,s2,h5,h6⟩:=M.bind_ok.1 h4
  obtain ⟨rfl,g2⟩:=rd_rel h5 hT
  obtain ⟨v',h7,rfl⟩:=value_ok h6
  exact Does.value (index_does hE (hE.ty _ _ hi) h7 g1 g2 hw)
 case lookup ty y z ok=>
  injection ho with ho;subst ho
  obtain ⟨i,hi,h2⟩:=withTy_ok.1 h
  obtain ⟨v,s1,h3,h4⟩:=M.bind_ok.1 h2
  obtain ⟨rfl,g1⟩:=rd_rel h3 hT
  obtain ⟨v2,s2,h5,h6⟩:=M.bind_ok.1 h4
  obtain ⟨rfl,g2⟩:=rd_rel h5 hT
  obtain ⟨v',h7,rfl⟩:=value_ok h6
  exact Does.value (lookup_does hE (hE.ty _ _ hi) h7 g1 g2 hw)
 case mapUpdate ty m y z=>
  injection ho with ho;subst ho
  obtain ⟨i,hi,h2⟩:=withTy_ok.1 h
  obtain ⟨v,s1,h3,h4⟩:=M.bind_ok.1 h2
  obtain ⟨rfl,g1⟩:=rd_rel h3 hT
  obtain ⟨v2,s2,h5,h6⟩:=M.bind_ok.1 h4
  obtain ⟨rfl,g2⟩:=rd_rel h5 hT
  obtain ⟨v3,s3,h7,h8⟩:=M.bind_ok.1 h6
  obtain ⟨rfl,g3⟩:=rd_rel h7 hT
  obtain ⟨h9,rfl⟩:=skip_ok h8
  exact Does.skip (update_does hE (hE.ty _ _ hi) h9 g1 g2 g3 hw)
 case insert ty m y z=>
  injection ho with ho;subst ho
  obtain ⟨i,hi,h2⟩:=withTy_ok.1 h
  obtain ⟨v,s1,h3,h4⟩:=M.bind_ok.1 h2
  obtain ⟨rfl,g1⟩:=rd_rel h3 hT
  obtain ⟨v2,s2,h5,h6⟩:=M.bind_ok.1 h4
  obtain ⟨rfl,g2⟩:=rd_rel h5 hT
  obtain ⟨v3,s3,h7,h8⟩:=M.bind_ok.1 h6
  obtain ⟨rfl,g3⟩:=rd_rel h7 hT
  obtain ⟨h9,rfl⟩:=skip_ok h8
  exact Does.skip (update_does hE (hE.ty _ _ hi) h9 g1 g2 g3 hw)
 case range ty y=>
  injection ho with ho;subst ho
  obtain ⟨i,hi,h2⟩:=withTy_ok.1 h
  obtain ⟨v,s1,h3,h4⟩:=M.bind_ok.1 h2
  obtain ⟨rfl,g1⟩:=rd_rel h3 hT
  obtain ⟨v',h7,rfl⟩:=value_ok h4
  exact Does.value (range_does (hE.ty _ _ hi) h7 g1 hw)
 case next y b=>
  cases b with
  |true=>
   injection ho with ho;subst ho
   obtain ⟨v,s1,h3,h4⟩:=M.bind_ok.1 h
   obtain ⟨rfl,g1⟩:=rd_rel h3 hT
   obtain ⟨v',h7,rfl⟩:=value_ok h4
   exact Does.value (nextS_does h7 g1 hw)
  |false=>
   injection ho with ho;subst ho
   obtain ⟨v,s1,h3,h4⟩:=M.bind_ok.1 h
   obtain ⟨rfl,g1⟩:=rd_rel h3 hT
   obtain ⟨v',h7,rfl⟩:=value_ok h4
   exact Does.value (next_does h7 g1 hw)
 case entry y=>
  injection ho with ho;subst ho
  obtain ⟨v,s1,h3,h4⟩:=M.bind_ok.1 h
  obtain ⟨rfl,g1⟩:=rd_rel h3 hT
  obtain ⟨v',h7,rfl⟩:=value_ok h4
  exact Does.value (entry_does h7 g1 hw)
 case extract y k=>
  injection ho with ho;subst ho
  obtain ⟨v,s1,h3,h4⟩:=M.bind_ok.1 h
  obtain ⟨rfl,g1⟩:=rd_rel h3 hT
  obtain ⟨vs,s2,h5,h6⟩:=M.bind_ok.1 h4
  obtain ⟨hv,rfl⟩:=M.of_ok.1 h5
  obtain ⟨v',h7,rfl⟩:=value_ok h6
  obtain ⟨hk,rfl⟩:=M.of_ok.1 h7
  exact Does.value (extract_does hv hk g1 hw)
 case call c=>
  obtain ⟨callee,args,argTypes⟩:=c
  unfold callC at ho
  cases callee with
  |builtin b=>
   injection ho with ho;subst ho
   obtain ⟨vs,s1,h3,h4⟩:=M.bind_ok.1 h
   obtain ⟨rfl,g1⟩:=rds_rel hT h3
   obtain ⟨v',h7,rfl⟩:=value_ok h4
   have hb:=builtin_does (ty:=type) (cs:=args.map fun| .const _=>true|_=>false) (us:=args.map a.eval) hE h7 (by simpa using g1) hw
   intro hf
   obtain ⟨ρ',w',u,k1,k2,k3,k4⟩:=hb hf
   exact ⟨ρ',w',u,by simp only [execOp,resolve,Sem.run_bind,Sem.run_pure,Result.andThen_ok,invoke];exact k1,k2,k3,k4⟩
  |value y=>cases ho
  |invoke y m=>cases ho
 case defer c=>
  obtain ⟨callee,args,argTypes⟩:=c
  unfold deferC at ho
  cases callee with
  |value y=>
   injection ho with ho;subst ho
   obtain ⟨vs,s1,h3,h4⟩:=M.bind_ok.1 h
   obtain ⟨rfl,g1⟩:=rds_rel hT h3
   obtain ⟨v,s2,h5,h6⟩:=M.bind_ok.1 h4
   obtain ⟨rfl,g2⟩:=rd_rel h5 hT
   obtain ⟨q,s3,h7,h8⟩:=M.bind_ok.1 h6
   obtain ⟨hq,rfl⟩:=M.of_ok.1 h7
   obtain ⟨rfl,rfl⟩:=M.pure_ok.1 h8
   obtain ⟨x1,x2,e1,e2,e3⟩:=fnOnly_rel hq g2
   refine Does.read (Alike.refl _) hw (u:= .defer {target:= .fn (.func q.1) x2,args:=x1++args.map a.eval}) ?_ ⟨_,rfl,x2,x1++args.map a.eval,rfl,?_,e3⟩
   ·simp [execOp,resolve,e1,Deferred.ofValue]
   ·simpa using LRel.append e2 g1
  |builtin b=>
   injection ho with ho;subst ho
   exact (M.fail_ok.1 h).elim
  |invoke y m=>
   injection ho with ho;subst ho
   exact (M.fail_ok.1 h).elim
 all_goals
  injection ho with ho;subst ho
  exact (M.fail_ok.1 h).elim
end
end Go.Proofs.YtnkjkgmohmcobaaGreatDoor.Vm
namespace Go.Proofs.YtnkjkgmohmcobaaGreatDoor.Vm
open Go
def TS.has (t:TS) (n:Nat):Prop:=∃m,(n/256,m)∈t∧m.testBit (n%256)=true
theorem addT_has:∀(t:TS) (c b n:Nat),TS.has (addT t c b) n↔TS.has t n∨(n/256=c∧b.testBit (n%256)=true)
 |[],c,b,n=>by
  simp only [addT,TS.has,List.mem_singleton,List.not_mem_nil,false_and,exists_false,false_or,Prod.mk.injEq]
  exact ⟨fun ⟨m,⟨h1,h2⟩,h3⟩=>⟨h1,by rw [← h2];exact h3⟩,fun ⟨h1,h2⟩=>⟨b,⟨h1,rfl⟩,h2⟩⟩
 |(c',m)::r,c,b,n=>by
  unfold addT
  simp only [forceN_eq]
  cases hb:Nat.beq c c' with
  |true=>
   have hc:=beq_true.1 hb
   subst hc
   simp only [cond_true,TS.has,List.mem_cons,Prod.mk.injEq]
   constructor
   ·rintro ⟨k,⟨h1,h2⟩|h1,h3⟩
    ·subst h2
     rw [show (Nat.lor m b)=m |||b from rfl,Nat.testBit_or,Bool.or_eq_true] at h3
     rcases h3 with h3|h3
     ·exact .inl ⟨m,.inl ⟨h1,rfl⟩,h3⟩
     ·exact .inr ⟨h1,h3⟩
    ·exact .inl ⟨k,.inr h1,h3⟩
   ·rintro (⟨k,⟨h1,h2⟩|h1,h3⟩|⟨h1,h3⟩)
    ·subst h2
     exact ⟨_,.inl ⟨h1,rfl⟩,by rw [show (Nat.lor k b)=k |||b from rfl,Nat.testBit_or,h3,Bool.true_or]⟩
    ·exact ⟨k,.inr h1,h3⟩
    ·exact ⟨_,.inl ⟨h1,rfl⟩,by rw [show (Nat.lor m b)=m |||b from rfl,Nat.testBit_or,h3,Bool.or_true]⟩
  |false=>
   have ih:=addT_has r c b n
   simp only [cond_false,TS.has,List.mem_cons,Prod.mk.injEq] at ih ⊢
   constructor
   ·rintro ⟨k,h1|h1,h3⟩
    ·exact .inl ⟨k,.inl h1,h3⟩
    ·rcases ih.1 ⟨k,h1,h3⟩ with ⟨k,h1,h3⟩|h
     ·exact .inl ⟨k,.inr h1,h3⟩
     ·exact .inr h
   ·rintro (⟨k,h1|h1,h3⟩|h)
    ·exact ⟨k,.inl h1,h3⟩
    ·obtain ⟨k,h1,h3⟩:=ih.2 (.inl ⟨k,h1,h3⟩)
     exact ⟨k,.inr h1,h3⟩
    ·obtain ⟨k,h1,h3⟩:=ih.2 (.inr h)
     exact ⟨k,.inr h1,h3⟩
theorem bit_one (k j:Nat):(Nat.shiftLeft 1 k).testBit j=true↔j=k:=by
 rw [show Nat.shiftLeft 1 k=1<<<k from rfl,Nat.testBit_shiftLeft]
 constructor
 ·intro h
  rw [Bool.and_eq_true] at h
  have h1:=of_decide_eq_true h.1
  have h2:=h.2
  rw [Nat.testBit_one_eq_true_iff_self_eq_zero] at h2
  omega
 ·rintro rfl
  simp
theorem add_has (t:TS) (n m:Nat):(t.add n).has m↔t.has m∨m=n:=by
 unfold TS.add
 rw [addT_has,show Nat.mod n 256=n%256 from rfl,show Nat.div n 256=n/256 from rfl,bit_one]
 constructor
 ·rintro (h|⟨h1,h2⟩)
  ·exact .inl h
  ·exact .inr (by omega)
 ·rintro (h|rfl)
  ·exact .inl h
  ·exact .inr ⟨rfl,rfl⟩
theorem or_has:∀(a b:TS) (n:Nat),(TS.or a b).has n↔a.has n∨b.has n
 |[],b,n=>by simp [TS.or,TS.has]
 |(c,m)::r,b,n=>by
  unfold TS.or
  simp only [addT_has,or_has r b n]
  simp only [TS.has,List.mem_cons,Prod.mk.injEq]
  constructor
  ·rintro ((⟨k,h1,h2⟩|h)|⟨h1,h2⟩)
   ·exact .inl ⟨k,.inr h1,h2⟩
   ·exact .inr h
   ·exact .inl ⟨m,.inl ⟨h1,rfl⟩,h2⟩
  ·rintro (⟨k,⟨h1,rfl⟩|h1,h2⟩|h)
   ·exact .inr ⟨h1,h2⟩
   ·exact .inl (.inl ⟨k,h1,h2⟩)
   ·exact .inl (.inr h)
theorem meets1_no:∀{t:TS} {c m m':Nat},meets1 c m t=false→(c,m')∈t→Nat.land m m'=0
 |[],_,_,_,_,h=>by cases h
 |(c',k)::r,c,m,m',h,hm=>by
  unfold meets1 at h
  simp only at h
  cases hb:Nat.beq c c' with
  |true=>
   rw [bif_true _ _ hb,Bool.or_eq_false_iff] at h
   rcases List.mem_cons.1 hm with e|e
   ·injection e with _ e2
    subst e2
    have:=h.1
    cases hz:Nat.beq (Nat.land m m') 0 with
    |true=>exact beq_true.1 hz
    |false=>rw [hz] at this;cases this
   ·exact meets1_no h.2 e
  |false=>
   rw [bif_false _ _ hb] at h
   rcases List.mem_cons.1 hm with e|e
   ·injection e with e1 _
    rw [beq_true.2 e1] at hb
    cases hb
   ·exact meets1_no h e
theorem meets_no:∀{a b:TS} {n:Nat},meets a b=false→a.has n→b.has n→False
 |[],_,_,_,⟨_,h,_⟩,_=>by cases h
 |(c,m)::r,b,n,h,⟨k,h1,h2⟩,⟨k',h3,h4⟩=>by
  unfold meets at h
  rw [Bool.or_eq_false_iff] at h
  rcases List.mem_cons.1 h1 with e|e
  ·injection e with e1 e2
   subst e2
   rw [← e1] at h
   have h5:=meets1_no h.1 h3
   have h6:(Nat.land k k').testBit (n%256)=true:=by
    rw [show Nat.land k k'=k&&& k' from rfl,Nat.testBit_and,h2,h4]
    rfl
   rw [h5,Nat.zero_testBit] at h6
   cases h6
  ·exact meets_no h.2 ⟨k,e,h2⟩ ⟨k',h3,h4⟩
structure LocAt {α:Type} (m:M α) (h:Tr AObj) (c:Nat) (r w:TS) (a:α) (h':Tr AObj) (c':Nat) (r' w':TS):Prop where
 grow:c≤c'
 rsub:∀n,r.has n→r'.has n
 wsub:∀n,w.has n→w'.has n
 fresh:∀n,c≤n→n<c'→w'.has n
 keep:∀n,¬w'.has n→h'.get n=h.get n
 wlt:∀n,w'.has n→w.has n∨n<c'
 again:∀(h2:Tr AObj) (r2 w2:TS),(∀n,n<c→r'.has n∨w'.has n→h2.get n=h.get n)→∃h2' r2' w2',m (.mk h2 c r2 w2)= .ok a (.mk h2' c' r2' w2')∧(r2=r→w2=w→r2'=r'∧w2'=w')∧
  (∀n,n<c'→w'.has n→h2'.get n=h'.get n)∧∀n,¬w'.has n→h2'.get n=h2.get n
def Loc {α:Type} (m:M α):Prop:=∀h c r w a h' c' r' w',m (.mk h c r w)= .ok a (.mk h' c' r' w')→LocAt m h c r w a h' c' r' w'
section
variable {α β:Type}
theorem Loc.same {m:M α} (hm:∀s a s',m s= .ok a s'→s'=s∧∀s2,m s2= .ok a s2):Loc m:=by
 intro h c r w a h' c' r' w' hr
 obtain ⟨h1,h2⟩:=hm _ _ _ hr
 injection h1 with e1 e2 e3 e4
 subst e1 e2 e3 e4
 exact ⟨Nat.le_refl _,fun _ h=>h,fun _ h=>h,fun n h1 h2=>by omega,fun _ _=>rfl,fun _ h=> .inl h,fun g2 r2 w2 ha=>⟨g2,r2,w2,h2 _,fun e1 e2=>⟨e1,e2⟩,fun n h1 h2=>ha n h1 (.inr h2),fun _ _=>rfl⟩⟩
theorem Loc.pure (a:α):Loc (M.pure a):=Loc.same fun s b s' h=>by
 obtain ⟨rfl,rfl⟩:=M.pure_ok.1 h
 exact ⟨rfl,fun _=>rfl⟩
theorem Loc.fail (e:String):Loc (M.fail e:M α):=fun _ _ _ _ _ _ _ _ _ h=>(M.fail_ok.1 h).elim
theorem Loc.of (o:Option α) (e:String):Loc (M.of o e):=Loc.same fun s b s' h=>by
 obtain ⟨rfl,rfl⟩:=M.of_ok.1 h
 exact ⟨rfl,fun _=>rfl⟩
theorem Loc.bind {m:M α} {k:α→M β} (hm:Loc m) (hk:∀a,Loc (k a)):Loc (M.bind m k):=by
 intro h c r w b h' c' r' w' hr
 obtain ⟨a,⟨h1,c1,r1,w1⟩,e1,e2⟩:=M.bind_ok.1 hr
 have l1:=hm _ _ _ _ _ _ _ _ _ e1
 have l2:=hk a _ _ _ _ _ _ _ _ _ e2
 refine ⟨Nat.le_trans l1.grow l2.grow,fun n hn=>l2.rsub n (l1.rsub n hn),fun n hn=>l2.wsub n (l1.wsub n hn),fun n g1 g2=>?_,fun n hn=>?_,fun n hn=>?_,fun h2 r2 w2 ha=>?_⟩
 ·rcases Nat.lt_or_ge n c1 with g|g
  ·exact l2.wsub n (l1.fresh n g1 g)
  ·exact l2.fresh n g g2
 ·rw [l2.keep n hn,l1.keep n (fun e=>hn (l2.wsub n e))]
 ·rcases l2.wlt n hn with g|g
  ·exact (l1.wlt n g).imp id (fun g=>Nat.lt_of_lt_of_le g l2.grow)
  ·exact .inr g
 ·obtain ⟨h2',r2',w2',f1,f2,f3,f4⟩:=l1.again h2 r2 w2 (fun n hn hh=>ha n hn (hh.imp (l2.rsub n) (l2.wsub n)))
  obtain ⟨h3,r3,w3,k1,k2,k3,k4⟩:=l2.again h2' r2' w2' (fun n hn hh=>by
   by_cases hw:w1.has n
   ·exact f3 n hn hw
   ·have hnc:n<c:=Nat.lt_of_not_le fun g=>hw (l1.fresh n g hn)
    rw [f4 n hw,l1.keep n hw]
    exact ha n hnc hh)
  refine ⟨h3,r3,w3,M.bind_ok.2 ⟨a,_,f1,k1⟩,fun e1 e2=>?_,k3,fun n hn=>?_⟩
  ·obtain ⟨g1,g2⟩:=f2 e1 e2
   exact k2 g1 g2
  ·rw [k4 n hn,f4 n (fun e=>hn (l2.wsub n e))]
theorem Loc.getM (n:Nat):Loc (getM n):=by
 intro h c r w a h' c' r' w' hr
 obtain ⟨g1,g2,g3⟩:=getM_ok.1 hr
 injection g3 with e1 e2 e3 e4
 simp only [St.h,St.c,St.r,St.w] at*
 subst e1 e2 e3 e4
 refine ⟨Nat.le_refl _,fun m hm=>(add_has r n m).2 (.inl hm),fun _ h=>h,fun n h1 h2=>by omega,fun _ _=>rfl,fun _ h=> .inl h,fun h2 r2 w2 ha=>⟨h2,r2.add n,w2,?_,fun e1 e2=>⟨by rw [e1],e2⟩,fun m h1 h2=>ha m h1 (.inr h2),fun _ _=>rfl⟩⟩
 exact getM_ok.2 ⟨g1,by rw [← g2];exact ha n g1 (.inl ((add_has r n n).2 (.inr rfl))),rfl⟩
theorem Loc.setM (n:Nat) (o:Option AObj):Loc (setM n o):=by
 intro h c r w a h' c' r' w' hr
 obtain ⟨g1,g3⟩:=setM_ok.1 hr
 injection g3 with e1 e2 e3 e4
 simp only [St.h,St.c,St.r,St.w] at*
 subst e1 e2 e3 e4
 refine ⟨Nat.le_refl _,fun _ h=>h,fun m hm=>(add_has w n m).2 (.inl hm),fun n h1 h2=>by omega,fun m hm=>?_,fun m hm=>((add_has w n m).1 hm).imp id (fun e=>by rw [e];exact g1),fun h2 r2 w2 ha=>⟨h2.put n o,r2,w2.add n,setM_ok.2 ⟨g1,rfl⟩,fun e1 e2=>⟨e1,by rw [e2]⟩,fun m h1 hw=>?_,fun m hm=>?_⟩⟩
 ·rw [Tr.get_put,if_neg (fun e=>hm ((add_has w n m).2 (.inr e)))]
 ·rw [Tr.get_put,Tr.get_put]
  by_cases e:m=n
  ·rw [if_pos e,if_pos e]
  ·rw [if_neg e,if_neg e]
   exact ha m h1 (.inr hw)
 ·rw [Tr.get_put,if_neg (fun e=>hm ((add_has w n m).2 (.inr e)))]
theorem Loc.newM (o:AObj):Loc (newM o):=by
 intro h c r w a h' c' r' w' hr
 obtain ⟨g1,g3⟩:=newM_ok.1 hr
 injection g3 with e1 e2 e3 e4
 simp only [St.h,St.c,St.r,St.w] at*
 subst g1 e1 e2 e3 e4
 refine ⟨Nat.le_succ _,fun _ h=>h,fun m hm=>(add_has w a m).2 (.inl hm),fun m h1 h2=>(add_has w a m).2 (.inr (by omega)),fun m hm=>?_,fun m hm=>((add_has w a m).1 hm).imp id (fun e=>by omega),fun h2 r2 w2 ha=>⟨h2.put a (some o),r2,w2.add a,newM_ok.2 ⟨rfl,rfl⟩,fun e1 e2=>⟨e1,by rw [e2]⟩,fun m h1 hw=>?_,fun m hm=>?_⟩⟩
 ·rw [Tr.get_put,if_neg (fun e=>hm ((add_has w a m).2 (.inr e)))]
 ·rw [Tr.get_put,Tr.get_put]
  by_cases e:m=a
  ·rw [if_pos e,if_pos e]
  ·rw [if_neg e,if_neg e]
   exact ha m (by omega) (.inr hw)
 ·rw [Tr.get_put,if_neg (fun e=>hm ((add_has w a m).2 (.inr e)))]
theorem touched_ok {m:M α} {h h':Tr AObj} {c c':Nat} {r w r' w':TS} {q:α × TS × TS} (hr:touched m (.mk h c r w)= .ok q (.mk h' c' r' w')):m (.mk h c [] [])= .ok q.1 (.mk h' c' q.2.1 q.2.2)∧r'=TS.or q.2.1 r∧w'=TS.or q.2.2 w:=by
 unfold touched at hr
 simp only at hr
 cases hm:m (.mk h c [] []) with
 |err e=>rw [hm] at hr;cases hr
 |ok a s'=>
  obtain ⟨h1,c1,r1,w1⟩:=s'
  rw [hm] at hr
  injection hr with e1 e2
  subst e1
  injection e2 with f1 f2 f3 f4
  subst f1 f2 f3 f4
  exact ⟨rfl,rfl,rfl⟩
theorem Loc.touched {m:M α} (hm:Loc m):Loc (touched m):=by
 intro h c r w q h' c' r' w' hr
 obtain ⟨a,ra,wa⟩:=q
 obtain ⟨g1,g2,g3⟩:=touched_ok hr
 simp only at g1 g2 g3
 subst g2 g3
 have l:=hm _ _ _ _ _ _ _ _ _ g1
 refine ⟨l.grow,fun n hn=>(or_has _ _ n).2 (.inr hn),fun n hn=>(or_has _ _ n).2 (.inr hn),fun n h1 h2=>(or_has _ _ n).2 (.inl (l.fresh n h1 h2)),fun n hn=>l.keep n (fun e=>hn ((or_has _ _ n).2 (.inl e))),fun n hn=>?_,fun h2 r2 w2 ha=>?_⟩
 ·rcases (or_has _ _ n).1 hn with g|g
  ·rcases l.wlt n g with ⟨_,g,_⟩|g
   ·cases g
   ·exact .inr g
  ·exact .inl g
 obtain ⟨h2',r2',w2',f1,f2,f3,f4⟩:=l.again h2 [] [] (fun n hn hh=>ha n hn (hh.imp (fun e=>(or_has _ _ n).2 (.inl e)) (fun e=>(or_has _ _ n).2 (.inl e))))
 obtain ⟨e1,e2⟩:=f2 rfl rfl
 subst e1 e2
 refine ⟨h2',TS.or r2' r2,TS.or w2' w2,by unfold Go.Proofs.YtnkjkgmohmcobaaGreatDoor.Vm.touched;simp only [f1],fun e1 e2=>⟨by rw [e1],by rw [e2]⟩,fun n h1 hw=>?_,fun n hn=>f4 n (fun e=>hn ((or_has _ _ n).2 (.inl e)))⟩
 by_cases e:w2'.has n
 ·exact f3 n h1 e
 ·have hnc:n<c:=Nat.lt_of_not_le fun g=>e (l.fresh n g h1)
  rw [f4 n e,l.keep n e]
  exact ha n hnc (.inr hw)
theorem Loc.congr {m m':M α} (h:Loc m) (e:m'=m):Loc m':=e▸h
end
end Go.Proofs.YtnkjkgmohmcobaaGreatDoor.Vm
