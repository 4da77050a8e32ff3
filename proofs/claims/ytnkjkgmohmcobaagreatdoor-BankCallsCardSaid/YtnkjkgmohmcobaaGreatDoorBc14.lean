/-
  Texts of this claim, joined: VJ, VK, VL, VM, VN, VO.
-/
import Derived.Room.Entries
import Derived.Test.YtnkjkgmohmcobaaGreatDoorBc13
set_option maxHeartbeats 6400000
set_option maxRecDepth 100000
namespace Go.Proofs.YtnkjkgmohmcobaaGreatDoor.Vm
open Go
section
variable {P:Program} {s s' s1:St} {ρ ρ':Ren} {w w':World} {t e:TypeId} {i j:TyI}
theorem str_len (b:ByteArray):b.toList.length=b.size:=by rw [ByteArray.toList_eq];simp
theorem mkNat_eq (n:Nat):mkNat n= .int .i64 (n:Int):=by unfold mkNat;rw [forceN_eq];rfl
theorem mapO_some {o:AObj} {q:List Ent × Nat} (h:mapO o=some q):o= .map q.1 q.2:=by
 cases o<;>simp only [mapO,Option.some.injEq,reduceCtorEq] at h
 subst h
 rfl
theorem mapM_ok {n:Nat} {q:List Ent × Nat} (h:mapM n s= .ok q s'):s.h.get n=some (.map q.1 q.2)∧n<s.c∧Alike s s':=by
 unfold mapM at h
 obtain ⟨o,s1,h1,h2⟩:=M.bind_ok.1 h
 obtain ⟨hlt,h3,rfl⟩:=getM_ok.1 h1
 obtain ⟨h4,rfl⟩:=M.of_ok.1 h2
 rw [mapO_some h4] at h3
 exact ⟨h3,hlt,rfl,rfl⟩
theorem WRel.map {n:Nat} {es:List Ent} {c:Nat} {p:Nat × Nat × Nat} (hw:WRel ρ s.h w) (h:s.h.get n=some (.map es c)) (hp:ρ n=some p):∃es':Array MapEntry,w.heap[p.1]?=some (.map es' c)∧ERel ρ es es'.toList:=by
 obtain ⟨q,ob,h1,h2,es',rfl,h4⟩:=hw.at_ n _ h
 rw [hp] at h1
 injection h1 with h1
 subst h1
 exact ⟨es',h2,h4⟩
theorem ERel.length:∀{l:List Ent} {m:List MapEntry},ERel ρ l m→m.length=l.length
 |[],_,h=>by rw [show _=[] from h];rfl
 |_::_,_,⟨x,l',h1,_,_,_,h5⟩=>by subst h1;rw [List.length_cons,List.length_cons,ERel.length h5]
theorem run_getObj_map {b:Nat} {es:Array MapEntry} {c:Nat} (h:w.heap[b]?=some (.map es c)):(getObj b).run P w= .ok (.map es c) w:=by
 simp [getObj,Sem.run,h]
theorem lenS_rel {k:SlK} {u:Value} (h:SlR ρ k u):∃a c,u= .slice a (lenS k) c:=by
 cases k with
 |nil=>exact ⟨none,0,h⟩
 |empty=>obtain ⟨a,c,rfl⟩:=h;exact ⟨some a,c,rfl⟩
 |some v=>obtain ⟨n,off,len,cap,es⟩:=v;obtain ⟨p,c,_,rfl,_⟩:=h;exact ⟨_,c,rfl⟩
theorem len_does {E:Env} (hE:EnvOK E P) {x v:AV} {u:Value} {ts:Array TypeId} {ty:TypeId} (ht:ts[0]?=some t) (h:lenF E t x s= .ok v s') (hx:VRel ρ x u) (hw:WRel ρ s.h w):Does P s s' ρ w (Builtin.len_ ts ty #[u]) (fun ρ r=>VRel ρ v r):=by
 unfold lenF at h
 obtain ⟨i,hi,h2⟩:=withTy_ok.1 h
 have hik:=hE.ty _ _ hi
 cases ha:arrD i.desc with
 |some q=>
  rw [ha] at h2
  obtain ⟨rfl,rfl⟩:=M.pure_ok.1 h2
  refine Does.read (Alike.refl _) hw (u:=goInt q.1) ?_ (by rw [mkNat_eq];rfl)
  simp [Builtin.len_,ht,run_underlying (hik.arr ha)]
 |none=>
  rw [ha] at h2
  simp only at h2
  cases hd:sliceD i.desc with
  |some e=>
   rw [hd] at h2
   obtain ⟨k,s1,h3,h4⟩:=M.bind_ok.1 h2
   obtain ⟨hk,rfl⟩:=M.of_ok.1 h3
   obtain ⟨rfl,rfl⟩:=M.pure_ok.1 h4
   obtain ⟨a,c,rfl⟩:=lenS_rel (slA_rel hk hx)
   refine Does.read (Alike.refl _) hw (u:=goInt (lenS k)) ?_ (by rw [mkNat_eq];rfl)
   simp [Builtin.len_,ht,run_underlying (hik.slice hd)]
  |none=>
   rw [hd] at h2
   simp only at h2
   cases hm:mapD i.desc with
   |some q=>
    rw [hm] at h2
    obtain ⟨m,s1,h3,h4⟩:=M.bind_ok.1 h2
    obtain ⟨hk,rfl⟩:=M.of_ok.1 h3
    have hmr:=mapA_rel hk hx
    cases m with
    |none=>
     obtain ⟨rfl,rfl⟩:=M.pure_ok.1 h4
     obtain rfl:u= .map none:=hmr
     refine Does.read (Alike.refl _) hw (u:=goInt 0) ?_ (by rw [mkNat_eq];rfl)
     simp [Builtin.len_,ht,run_underlying (hik.map hm)]
    |some n=>
     obtain ⟨p,hp,rfl⟩:=hmr
     obtain ⟨r,s2,h5,h6⟩:=M.bind_ok.1 h4
     obtain ⟨rfl,rfl⟩:=M.pure_ok.1 h6
     obtain ⟨g1,_,g2⟩:=mapM_ok h5
     obtain ⟨es',k1,k2⟩:=hw.map g1 hp
     refine Does.read g2 hw (u:=goInt es'.size) ?_ (by rw [mkNat_eq, ← ERel.length k2,Array.length_toList];rfl)
     simp [Builtin.len_,ht,run_underlying (hik.map hm),run_getObj_map k1]
   |none=>
    rw [hm] at h2
    cases hs:strD i.desc with
    |false=>simp only [hs,cond_false] at h2;exact (M.fail_ok.1 h2).elim
    |true=>
     simp only [hs,cond_true] at h2
     obtain ⟨b,s1,h3,h4⟩:=M.bind_ok.1 h2
     obtain ⟨hb,rfl⟩:=M.of_ok.1 h3
     obtain ⟨rfl,rfl⟩:=M.pure_ok.1 h4
     obtain rfl:=strA_rel hb hx
     refine Does.read (Alike.refl _) hw (u:=goInt b.size) ?_ (by rw [mkNat_eq,str_len];rfl)
     simp [Builtin.len_,ht,run_underlying (hik.str hs)]
theorem cap_does {x v:AV} {u:Value} {ts:Array TypeId} {ty:TypeId} (ht:ts[0]?=some t) (hi:TyOK P t i) (h:capM i x s= .ok v s') (hx:VRel ρ x u) (hw:WRel ρ s.h w):Does P s s' ρ w (Builtin.cap_ ts ty #[u]) (fun ρ r=>VRel ρ v r):=by
 unfold capM at h
 cases hd:sliceD i.desc with
 |none=>rw [hd] at h;exact (M.fail_ok.1 h).elim
 |some e=>
  rw [hd] at h
  simp only at h
  cases hs:slA x with
  |none=>rw [hs] at h;exact (M.fail_ok.1 h).elim
  |some k=>
   rw [hs] at h
   cases k with
   |nil=>
    obtain ⟨rfl,rfl⟩:=M.pure_ok.1 h
    obtain rfl:u= .slice none 0 0:=slA_rel hs hx
    refine Does.read (Alike.refl _) hw (u:=goInt 0) ?_ (by rw [mkNat_eq];rfl)
    simp [Builtin.cap_,ht,run_underlying (hi.slice hd)]
   |empty=>exact (M.fail_ok.1 h).elim
   |some sv=>
    obtain ⟨n,off,len,cap,es⟩:=sv
    cases cap with
    |none=>exact (M.fail_ok.1 h).elim
    |some c=>
     obtain ⟨rfl,rfl⟩:=M.pure_ok.1 h
     obtain ⟨p,c',hp,rfl,_,hc⟩:=slA_rel hs hx
     have hcc:c'=c:=hc
     subst hcc
     refine Does.read (Alike.refl _) hw (u:=goInt c') ?_ (by rw [mkNat_eq];rfl)
     simp [Builtin.cap_,ht,run_underlying (hi.slice hd)]
theorem pack_lt:∀l:List UInt8,pack l<2^(8*l.length)
 |[]=>by decide
 |b::r=>by
  have h1:=pack_lt r
  have h2:=b.toNat_lt
  show b.toNat+256*pack r<_
  rw [List.length_cons,show 8*(r.length+1)=8*r.length+8 by omega,Nat.pow_add]
  omega
theorem unpack_pack:∀l:List UInt8,unpack l.length (pack l)=l
 |[]=>rfl
 |b::r=>by
  have h2:=b.toNat_lt
  show UInt8.ofNat ((b.toNat+256*pack r)%256)::unpack r.length ((b.toNat+256*pack r)/256)=_
  rw [show (b.toNat+256*pack r)%256=b.toNat by omega,show (b.toNat+256*pack r)/256=pack r by omega,unpack_pack r,UInt8.ofNat_toNat]
theorem packS_rel (b:ByteArray):CRel ρ (packS b) (b.toList.map byteV):=by
 unfold packS
 cases h:b.toList with
 |nil=>exact CRel.nil
 |cons x r=>
  refine CRel.bytes_iff.2 ⟨[],?_,pack_lt _,CRel.nil⟩
  unfold bytesV
  rw [unpack_pack,List.append_nil]
theorem cellsM_rel {x:AV} {u:Value} {size n:Nat} {cs:List AV} (h:cellsM size x s= .ok (cs,n) s') (hx:VRel ρ x u) (hw:WRel ρ s.h w):
  Alike s s'∧∃us:Array Value,CRel ρ cs us.toList∧us.size=n*size∧∀w',w'.heap=w.heap→(Builtin.lenOf u).run P w'= .ok n w'∧∀m,m≤n→(Builtin.firstCells size m u).run P w'= .ok (us.toList.take (m*size)).toArray w':=by
 unfold cellsM at h
 cases hs:slA x with
 |none=>
  rw [hs] at h
  simp only at h
  cases h1:Nat.beq size 1 with
  |false=>rw [bif_false _ _ h1] at h;exact (M.fail_ok.1 h).elim
  |true=>
   rw [bif_true _ _ h1] at h
   obtain rfl:=beq_true.1 h1
   obtain ⟨b,s1,h3,h4⟩:=M.bind_ok.1 h
   obtain ⟨hb,rfl⟩:=M.of_ok.1 h3
   obtain ⟨h5,rfl⟩:=M.pure_ok.1 h4
   injection h5 with h5 h6
   subst h5 h6
   obtain rfl:=strA_rel hb hx
   refine ⟨Alike.refl _,(b.toList.map byteV).toArray,by simpa using packS_rel b,by simp,fun w' _=>⟨by simp [Builtin.lenOf,str_len],fun m hm=>?_⟩⟩
   have:(b.data.map fun b=>Value.int .u8 b.toNat).extract 0 m=((b.toList.map byteV).take m).toArray:=by
    apply Array.ext'
    rw [ByteArray.toList_eq]
    simp only [Array.toList_extract,Array.toList_map,List.extract_eq_take_drop,List.drop_zero,Nat.sub_zero]
    rfl
   simp [Builtin.firstCells,this]
 |some k=>
  rw [hs] at h
  cases k with
  |nil=>
   obtain ⟨h5,rfl⟩:=M.pure_ok.1 h
   injection h5 with h5 h6
   subst h5 h6
   obtain rfl:u= .slice none 0 0:=slA_rel hs hx
   exact ⟨Alike.refl _,#[],CRel.nil,by simp,fun w' _=>⟨by simp [Builtin.lenOf],fun m _=>by simp [Builtin.firstCells]⟩⟩
  |empty=>
   obtain ⟨h5,rfl⟩:=M.pure_ok.1 h
   injection h5 with h5 h6
   subst h5 h6
   obtain ⟨a,c,rfl⟩:=slA_rel hs hx
   exact ⟨Alike.refl _,#[],CRel.nil,by simp,fun w' _=>⟨by simp [Builtin.lenOf],fun m hm=>by obtain rfl:m=0:=Nat.le_zero.1 hm;simp [Builtin.firstCells,loadCells,loadCellsFrom]⟩⟩
  |some sv=>
   obtain ⟨m,off,len,cap,es⟩:=sv
   simp only at h
   cases h1:Nat.beq es size with
   |false=>rw [bif_false _ _ h1] at h;exact (M.fail_ok.1 h).elim
   |true=>
    rw [bif_true _ _ h1] at h
    obtain rfl:=beq_true.1 h1
    obtain ⟨q,s1,h3,h4⟩:=M.bind_ok.1 h
    obtain ⟨g1,_,g2⟩:=rowM_ok h3
    obtain ⟨l,s2,h5,h6⟩:=M.bind_ok.1 h4
    obtain ⟨hl,rfl⟩:=M.of_ok.1 h5
    obtain ⟨h7,rfl⟩:=M.pure_ok.1 h6
    injection h7 with h7 h8
    subst h7 h8
    obtain ⟨p,c,hp,rfl,_,_⟩:=slA_rel hs hx
    obtain ⟨ob,hob,vs,known,junk,rfl,k2,k3,k4⟩:=hw.row g1 hp
    obtain ⟨f1,f2⟩:=loadC_rel hl k4
    have f2':off+n*es≤known.length:=f2
    have hlen:((known.drop off).take (n*es)).length=n*es:=by rw [List.length_take,List.length_drop];omega
    refine ⟨g2,((known.drop off).take (n*es)).toArray,by simpa using f1,by simpa using hlen,fun w' hw'=>⟨by simp [Builtin.lenOf],fun k hk=>?_⟩⟩
    have hrg:=row_range (w:=w') (by rw [hw'];exact hob) k3 off (n*es) f2'
    have hkn:k*es≤n*es:=Nat.mul_le_mul_right _ hk
    refine run_firstCells_some (P:=P) w' es k ⟨p.1,p.2.1+off,none⟩ n c _ ?_ (fun j v hv=>?_)
    ·rw [List.length_take]
     simp only [hlen]
     omega
    ·rw [add_plain]
     refine hrg j v ?_
     simp only [List.getElem?_take] at hv ⊢
     split at hv
     ·exact hv
     ·cases hv
end
end Go.Proofs.YtnkjkgmohmcobaaGreatDoor.Vm
namespace Go.Proofs.YtnkjkgmohmcobaaGreatDoor.Vm
open Go
section
variable {P:Program} {s s' s1:St} {ρ ρ':Ren} {w w':World} {t e:TypeId} {i j:TyI}
theorem put_does {n off k:Nat} {q:TypeId × List AV} {cs new:List AV} {us:List Value} {p:Nat × Nat × Nat} (hw:WRel ρ s.h w) (g1:s.h.get n=some (.row q.1 q.2)) (hp:ρ n=some p) (hst:storeC q.2 off k new=some cs) (hn:CRel ρ new us) (hk:us.length=k)
  (h:setM n (some (.row q.1 cs)) s= .ok () s'):(storeCells ⟨p.1,p.2.1+off,none⟩ us).run P w= .ok () (w.setCells p.1 (p.2.1+off) us)∧WRel ρ s'.h (w.setCells p.1 (p.2.1+off) us)∧Stp s s' ρ ρ w (w.setCells p.1 (p.2.1+off) us):=by
 obtain ⟨_,hs'⟩:=setM_ok.1 h
 obtain ⟨ob,hb,hr⟩:=hw.row g1 hp
 obtain ⟨hth,ob',k1,k2⟩:=row_store hb hr hst hn hk
 have:=set_rel (s':=s') (o:= .row q.1 cs) hw (by rw [g1];rfl) hp (by rw [hs'];rfl) (only_setCells p.1 us (p.2.1+off) w) k1 k2
 refine ⟨?_,this.1,this.2⟩
 have hrun:=run_storeCells_cells (P:=P) p.1 (p.2.1+off) us 0 w (fun j hj=>by simpa using (hth j hj).1) (fun j hj=>by simpa using (hth j hj).2) (cells_one hn)
 simpa using hrun
theorem copy_does {E:Env} (hE:EnvOK E P) {d x v:AV} {u y:Value} {ts:Array TypeId} {ty:TypeId} (ht:ts[0]?=some t) (h:copyF E t d x s= .ok v s') (hd:VRel ρ d u) (hx:VRel ρ x y) (hw:WRel ρ s.h w):Does P s s' ρ w (Builtin.copy_ ts ty #[u,y]) (fun ρ r=>VRel ρ v r):=by
 unfold copyF at h
 obtain ⟨i,hi,h2⟩:=withTy_ok.1 h
 have hik:=hE.ty _ _ hi
 cases hsd:sliceD i.desc with
 |none=>rw [hsd] at h2;exact (M.fail_ok.1 h2).elim
 |some e=>
  rw [hsd] at h2
  obtain ⟨j,hj,h3⟩:=withTy_ok.1 h2
  have hjk:=hE.ty _ _ hj
  obtain ⟨⟨cs,n⟩,s1,h4,h5⟩:=M.bind_ok.1 h3
  obtain ⟨g1,us,g2,g3,g4⟩:=cellsM_rel (P:=P) h4 hx hw
  obtain ⟨g5,g6⟩:=g4 w rfl
  cases hs:slA d with
  |none=>rw [hs] at h5;exact (M.fail_ok.1 h5).elim
  |some k=>
   rw [hs] at h5
   cases k with
   |nil=>
    obtain ⟨rfl,rfl⟩:=M.pure_ok.1 h5
    obtain rfl:u= .slice none 0 0:=slA_rel hs hd
    refine Does.read g1 hw (u:=goInt 0) ?_ (by rw [mkNat_eq];rfl)
    simp [Builtin.copy_,ht,run_underlying (hik.slice hsd),g5,hjk.sizeOf,g6 0 (Nat.zero_le _)]
   |empty=>
    obtain ⟨rfl,rfl⟩:=M.pure_ok.1 h5
    obtain ⟨a,c,rfl⟩:=slA_rel hs hd
    refine Does.read g1 hw (u:=goInt 0) ?_ (by rw [mkNat_eq];rfl)
    simp [Builtin.copy_,ht,run_underlying (hik.slice hsd),g5,hjk.sizeOf,g6 0 (Nat.zero_le _),storeCells]
   |some sv=>
    obtain ⟨m,off,len,cap,es⟩:=sv
    simp only at h5
    cases hes:Nat.beq es j.size with
    |false=>simp only [hes,Bool.not_false,cond_true] at h5;exact (M.fail_ok.1 h5).elim
    |true=>
     rw [hes] at h5
     obtain rfl:=beq_true.1 hes
     obtain ⟨q,s2,h6,h7⟩:=M.bind_ok.1 h5
     obtain ⟨f1,_,f2⟩:=rowM_ok h6
     rw [forceN_eq] at h7
     obtain ⟨b,hb⟩:∃b,b=(bif Nat.ble n len then n else len):=⟨_,rfl⟩
     rw [← hb] at h7
     have hbm:Nat.min n len=b:=by
      rw [hb]
      cases hq:Nat.ble n len with
      |true=>rw [bif_true _ _ rfl];exact Nat.min_eq_left (ble_true.1 hq)
      |false=>
       rw [bif_false _ _ rfl]
       exact Nat.min_eq_right (Nat.le_of_not_le fun e=>by rw [ble_true.2 e] at hq;cases hq)
     have hbn:b≤n:=by rw [← hbm];exact Nat.min_le_left _ _
     obtain ⟨p,c,hp,rfl,_,_⟩:=slA_rel hs hd
     have hal:=g1.trans f2
     cases h0:Nat.beq b 0 with
     |true=>
      rw [bif_true _ _ h0] at h7
      obtain ⟨rfl,rfl⟩:=M.pure_ok.1 h7
      have hb0:=beq_true.1 h0
      rw [hb0] at hbm
      refine Does.read hal hw (u:=goInt 0) ?_ (by rw [mkNat_eq];rfl)
      simp [Builtin.copy_,ht,run_underlying (hik.slice hsd),g5,hjk.sizeOf,g6 0 (Nat.zero_le _),hbm,storeCells]
     |false=>
      rw [bif_false _ _ h0] at h7
      obtain ⟨new,s3,h8,h9⟩:=M.bind_ok.1 h7
      obtain ⟨hnew,rfl⟩:=M.of_ok.1 h8
      obtain ⟨cs',s4,h10,h11⟩:=M.bind_ok.1 h9
      obtain ⟨hst,rfl⟩:=M.of_ok.1 h10
      obtain ⟨_,s5,h12,h13⟩:=M.bind_ok.1 h11
      obtain ⟨rfl,rfl⟩:=M.pure_ok.1 h13
      obtain ⟨l1,l2⟩:=loadC_rel hnew g2
      rw [List.drop_zero] at l1
      have hlen:(us.toList.take (b*j.size)).length=b*j.size:=by
       have l2':0+b*j.size≤us.toList.length:=l2
       rw [List.length_take]
       omega
      have hw4:=hw.alike hal
      obtain ⟨r1,r2,r3⟩:=put_does (P:=P) (us:=us.toList.take (b*j.size)) hw4 (by rw [hal.1, ← g1.1];exact f1) hp hst l1 hlen h12
      refine Does.after hal (fun _=>⟨ρ,_,goInt b,?_,by rw [mkNat_eq];rfl,r2,r3⟩)
      simp [Builtin.copy_,ht,run_underlying (hik.slice hsd),g5,hjk.sizeOf,hbm,g6 b hbn,r1]
theorem clear_does {E:Env} (hE:EnvOK E P) {x v:AV} {u:Value} {ts:Array TypeId} {ty:TypeId} (ht:ts[0]?=some t) (h:clearF E t x s= .ok v s') (hx:VRel ρ x u) (hw:WRel ρ s.h w):Does P s s' ρ w (Builtin.clear_ ts ty #[u]) (fun ρ r=>VRel ρ v r):=by
 have hv0:∀ρ,VRel ρ undefA (.tuple #[]):=fun ρ=>⟨#[],rfl,by simp [LRel]⟩
 unfold clearF at h
 obtain ⟨i,hi,h2⟩:=withTy_ok.1 h
 have hik:=hE.ty _ _ hi
 obtain ⟨d,hd0,hdr,_,_⟩:=hik.und
 cases hs:slA x with
 |none=>
  rw [hs] at h2
  obtain ⟨m,s1,h3,h4⟩:=M.bind_ok.1 h2
  obtain ⟨hm,rfl⟩:=M.of_ok.1 h3
  have hmr:=mapA_rel hm hx
  cases m with
  |none=>
   obtain ⟨rfl,rfl⟩:=M.pure_ok.1 h4
   obtain rfl:u= .map none:=hmr
   refine Does.read (Alike.refl _) hw (u:= .tuple #[]) ?_ (hv0 _)
   simp [Builtin.clear_,ht,hdr]
  |some n=>
   obtain ⟨p,hp,rfl⟩:=hmr
   obtain ⟨q,s2,h5,h6⟩:=M.bind_ok.1 h4
   obtain ⟨g1,_,g2⟩:=mapM_ok h5
   obtain ⟨_,s3,h7,h8⟩:=M.bind_ok.1 h6
   obtain ⟨rfl,rfl⟩:=M.pure_ok.1 h8
   obtain ⟨_,hs'⟩:=setM_ok.1 h7
   obtain ⟨es',k1,k2⟩:=hw.map g1 hp
   have hw2:=hw.alike g2
   have ho:Only p.1 w {w with heap:=w.heap.setIfInBounds p.1 (.map #[] q.2)} :=⟨rfl,rfl,rfl,by simp,fun q hq=>by simp [Ne.symm hq]⟩
   have hlt:=(Array.getElem?_eq_some_iff.1 k1).1
   have:=set_rel (s':=s') (o:= .map [] q.2) hw2 (by rw [g2.1,g1];rfl) hp (by rw [hs'];rfl) ho (ob:= .map #[] q.2) (by simp [hlt]) ⟨#[],rfl,rfl⟩
   refine Does.after g2 (fun _=>⟨ρ,_,.tuple #[],?_,hv0 _,this.1,this.2⟩)
   have hg:(getObj p.1).run P w= .ok (.map es' q.2) w:=run_getObj_map k1
   have hset:(setObj p.1 (.map #[] q.2)).run P w= .ok () {w with heap:=w.heap.setIfInBounds p.1 (.map #[] q.2)} :=by simp [setObj,Sem.run,k1]
   cases d<;>simp [Builtin.clear_,ht,hdr,hg,hset]
 |some k=>
  rw [hs] at h2
  cases k with
  |nil=>
   obtain ⟨rfl,rfl⟩:=M.pure_ok.1 h2
   obtain rfl:u= .slice none 0 0:=slA_rel hs hx
   refine Does.read (Alike.refl _) hw (u:= .tuple #[]) ?_ (hv0 _)
   simp [Builtin.clear_,ht,hdr]
  |empty=>
   obtain ⟨rfl,rfl⟩:=M.pure_ok.1 h2
   obtain ⟨a,c,rfl⟩:=slA_rel hs hx
   refine Does.read (Alike.refl _) hw (u:= .tuple #[]) ?_ (hv0 _)
   cases d<;>simp [Builtin.clear_,ht,hdr]
  |some sv=>
   obtain ⟨n,off,len,cap,es⟩:=sv
   simp only at h2
   cases hsd:sliceD i.desc with
   |none=>rw [hsd] at h2;exact (M.fail_ok.1 h2).elim
   |some e=>
    rw [hsd] at h2
    obtain ⟨j,hj,h3⟩:=withTy_ok.1 h2
    have hjk:=hE.ty _ _ hj
    obtain ⟨q,s2,h6,h7⟩:=M.bind_ok.1 h3
    obtain ⟨f1,_,f2⟩:=rowM_ok h6
    obtain ⟨p,c,hp,rfl,_,_⟩:=slA_rel hs hx
    cases h0:Nat.beq len 0 with
    |true=>
     rw [bif_true _ _ h0] at h7
     obtain ⟨rfl,rfl⟩:=M.pure_ok.1 h7
     obtain rfl:=beq_true.1 h0
     refine Does.read f2 hw (u:= .tuple #[]) ?_ (hv0 _)
     cases d<;>simp [Builtin.clear_,ht,hdr]
    |false=>
     rw [bif_false _ _ h0] at h7
     have hl0:len≠0:=fun e=>by rw [beq_true.2 e] at h0;cases h0
     cases hes:Nat.beq es j.size with
     |false=>simp only [hes,Bool.not_false,cond_true] at h7;exact (M.fail_ok.1 h7).elim
     |true=>
      rw [hes] at h7
      obtain rfl:=beq_true.1 hes
      obtain ⟨cs',s4,h10,h11⟩:=M.bind_ok.1 h7
      obtain ⟨hst,rfl⟩:=M.of_ok.1 h10
      obtain ⟨_,s5,h12,h13⟩:=M.bind_ok.1 h11
      obtain ⟨rfl,rfl⟩:=M.pure_ok.1 h13
      obtain ⟨z,z1,_,z3,z4⟩:=hjk.zeroValue
      have hz:=zerosA_rel (z3 ρ) len
      have hze:(Builtin.zeroCells z.cells len).toList=(List.replicate len z.cells.toList).flatten:=rep_cells z.cells len
      rw [← hze] at hz
      have hlen:(Builtin.zeroCells z.cells len).toList.length=len*j.size:=by rw [Array.length_toList,size_zeroCells,z4]
      obtain ⟨r1,r2,r3⟩:=put_does (P:=P) (hw.alike f2) (by rw [f2.1];exact f1) hp hst hz hlen h12
      refine Does.after f2 (fun _=>⟨ρ,_,.tuple #[],?_,hv0 _,r2,r3⟩)
      obtain ⟨l1,rfl⟩:∃k,len=k+1:=⟨len-1,by omega⟩
      simp [Builtin.clear_,ht,run_underlying (hik.slice hsd),z1,r1]
end
end Go.Proofs.YtnkjkgmohmcobaaGreatDoor.Vm
namespace Go.Proofs.YtnkjkgmohmcobaaGreatDoor.Vm
open Go
section
variable {P:Program} {s s' s1:St} {ρ ρ':Ren} {w w':World} {t e:TypeId} {i j:TyI}
def AppX (P:Program) (w:World) (d:TypeDesc) (j:TyI) (z:Value) (y:Value) (n:Nat) (us:Array Value):Prop:=
 (∃k kk,d= .int k∧y= .int kk (n:Int)∧n≤100000∧n*j.bytes≤100000000∧us=Builtin.zeroCells z.cells n)∨
 (((∃k,d= .slice k)∨d= .string)∧∀w',w'.heap=w.heap→(Builtin.lenOf y).run P w'= .ok n w'∧(Builtin.firstCells j.size n y).run P w'= .ok us w')
theorem wrap_small (n:Nat) (h:n≤100000):IntKind.i64.wrap (n:Int)=n:=IntWalk.i64_in (n:Int) ⟨by omega,by omega⟩
theorem append_place_run {y:Value} {n b o len c:Nat} {us:Array Value} {ts:Array TypeId} {tx ty:TypeId} {d:TypeDesc} {inf:TypeInfo} {z:Value} (ht:ts[0]?=some t) (htx:ts[1]?=some tx) (hu:P.underlying t=some (.slice e)) (hd:P.underlying tx=some d)
  (i1:P.info? e=some inf) (i2:inf.size=j.size) (i3:inf.bytes=j.bytes) (i4:inf.zero=some z) (hn0:n≠0) (hs0:j.size≠0) (hx:AppX P w d j z y n us) (hle:len+n≤c):
  (Builtin.append_ ts ty #[.slice (some ⟨b,o,none⟩) len c,y]).run P w=((storeCells ⟨b,o+len*j.size,none⟩ us.toList).run P w).andThen fun _ w'=> .ok (.slice (some ⟨b,o,none⟩) (len+n) c) w':=by
 have hsz:(sizeOf e).run P w= .ok j.size w:=by simp [sizeOf,typeInfo,run_program,i1,i2]
 have hti:∀w,(typeInfo e).run P w= .ok inf w:=fun w=>by simp [typeInfo,run_program,i1]
 have hzv:∀w,(zeroValue e).run P w= .ok z w:=fun w=>by simp [zeroValue,typeInfo,run_program,i1,i4]
 rcases hx with ⟨k,kk,rfl,rfl,h1,h2,rfl⟩|⟨h1,h2⟩
 ·have e1:¬((n:Int)*(j.bytes:Int)>2^48):=by
   have:((n*j.bytes:Nat):Int)≤100000000:=by omega
   rw [Int.natCast_mul] at this
   omega
  have e2:¬(n*j.size=0):=fun e=>by rcases Nat.mul_eq_zero.1 e with h|h<;>omega
  have e3:¬((n:Int)<0):=by omega
  have e1':¬(281474976710656<(n:Int)*(j.bytes:Int)):=by simpa using e1
  simp [Builtin.append_,ht,htx,run_underlying hu,run_underlying hd,hsz,asInt,asIntOf,wrap_small n h1,hti,i3,e1',e2,e3,hle,hzv,add_plain]
 ·obtain ⟨g1,g2⟩:=h2 w rfl
  rcases h1 with ⟨k,rfl⟩|rfl<;>simp [Builtin.append_,ht,htx,run_underlying hu,run_underlying hd,hsz,g1,g2,hle,add_plain]
theorem append_none_run {y:Value} {base:Option Addr} {len c:Nat} {us:Array Value} {ts:Array TypeId} {tx ty:TypeId} {d:TypeDesc} {inf:TypeInfo} {z:Value} (ht:ts[0]?=some t) (htx:ts[1]?=some tx) (hu:P.underlying t=some (.slice e)) (hd:P.underlying tx=some d)
  (i1:P.info? e=some inf) (i2:inf.size=j.size) (hx:AppX P w d j z y 0 us) (hus:us.size=0) (hle:len≤c):
  (Builtin.append_ ts ty #[.slice base len c,y]).run P w= .ok (.slice base len c) w:=by
 have hsz:(sizeOf e).run P w= .ok j.size w:=by simp [sizeOf,typeInfo,run_program,i1,i2]
 have hti:∀w,(typeInfo e).run P w= .ok inf w:=fun w=>by simp [typeInfo,run_program,i1]
 have hst:∀a,(storeCells a []).run P w= .ok () w:=fun a=>by simp [storeCells]
 obtain rfl:us= #[]:=Array.eq_empty_of_size_eq_zero hus
 rcases hx with ⟨k,kk,rfl,rfl,h1,h2,h3⟩|⟨h1,h2⟩
 ·have hw:IntKind.i64.wrap 0=0:=wrap_small 0 (by omega)
  cases base<;>simp [Builtin.append_,ht,htx,run_underlying hu,run_underlying hd,hsz,asInt,asIntOf,hw,hti,hle,hst]
 ·obtain ⟨g1,g2⟩:=h2 w rfl
  rcases h1 with ⟨k,rfl⟩|rfl<;>cases base<;>simp [Builtin.append_,ht,htx,run_underlying hu,run_underlying hd,hsz,g1,g2,hle,hst]
theorem append_grow_run {y:Value} {n len c:Nat} {base:Option Addr} {us old:Array Value} {ts:Array TypeId} {tx ty:TypeId} {d:TypeDesc} {inf:TypeInfo} {z:Value} (ht:ts[0]?=some t) (htx:ts[1]?=some tx) (hu:P.underlying t=some (.slice e)) (hd:P.underlying tx=some d)
  (i1:P.info? e=some inf) (i2:inf.size=j.size) (i3:inf.bytes=j.bytes) (i4:inf.zero=some z) (hn0:n≠0) (hs0:j.size≠0) (hx:AppX P w d j z y n us) (hlt:c<len+n)
  (hb1:(len+n)*j.bytes≤100000000) (hb2:len+n≤100000000) (hold:(Builtin.firstCells j.size len (.slice base len c)).run P w.drew= .ok old w.drew):
  ∃cap,len+n≤cap∧(Builtin.append_ ts ty #[.slice base len c,y]).run P w= .ok (.slice (some ⟨w.heap.size,0,none⟩) (len+n) cap) (w.drew.alloc (.cells (old++us++Builtin.zeroCells z.cells (cap-(len+n))) e (0,0))):=by
 have hsz:∀w,(sizeOf e).run P w= .ok j.size w:=by simp [sizeOf,typeInfo,run_program,i1,i2]
 have hti:∀w,(typeInfo e).run P w= .ok inf w:=fun w=>by simp [typeInfo,run_program,i1]
 have hzv:∀w,(zeroValue e).run P w= .ok z w:=fun w=>by simp [zeroValue,typeInfo,run_program,i1,i4]
 have hroom:∀m w,(askRoom m).run P w= .ok () w:=fun m w=>by unfold askRoom;split<;>rfl
 have e5:¬(len+n≤c):=by omega
 have e6:¬(9223372036854775807<(len:Int)+(n:Int)):=by omega
 have e7:¬(281474976710656<Builtin.nextslicecap (len+n) c*j.bytes):=by
  have:=Room.nextslicecap_le' hlt
  have h2:Builtin.nextslicecap (len+n) c*j.bytes≤2*(len+n)*j.bytes:=Nat.mul_le_mul_right _ this
  rw [Nat.mul_assoc] at h2
  omega
 refine ⟨grownCap w (len+n) c e,Nat.le_add_right _ _,?_⟩
 rcases hx with ⟨k,kk,rfl,rfl,h1,h2,rfl⟩|⟨h1,h2⟩
 ·have e1:¬((n:Int)*(j.bytes:Int)>2^48):=by
   have:((n*j.bytes:Nat):Int)≤100000000:=by omega
   rw [Int.natCast_mul] at this
   omega
  have e2:¬(n*j.size=0):=fun e=>by rcases Nat.mul_eq_zero.1 e with h|h<;>omega
  have e3:¬((n:Int)<0):=by omega
  have e1':¬(281474976710656<(n:Int)*(j.bytes:Int)):=by simpa using e1
  simp [Builtin.append_,ht,htx,run_underlying hu,run_underlying hd,hsz,asInt,asIntOf,wrap_small n h1,hti,i3,e1',e2,e3,e5,e6,e7,hzv,Question.forced,grownCap,hroom,hold,newRow]
 ·obtain ⟨g1,g2⟩:=h2 w rfl
  obtain ⟨g3,g4⟩:=h2 w.drew rfl
  rcases h1 with ⟨k,rfl⟩|rfl<;>simp [Builtin.append_,ht,htx,run_underlying hu,run_underlying hd,hsz,g1,g4,e5,e6,e7,hti,i3,Question.forced,grownCap,hroom,hold,hzv,newRow]
end
end Go.Proofs.YtnkjkgmohmcobaaGreatDoor.Vm
namespace Go.Proofs.YtnkjkgmohmcobaaGreatDoor.Vm
open Go
section
variable {P:Program} {s s' s1:St} {ρ ρ':Ren} {w w':World} {t e:TypeId} {i j:TyI}
theorem FreshN.at {c c':Nat} (h:FreshN ρ c c') (hlt:c<c'):ρ c=none:=h c (Nat.le_refl _) hlt
theorem grown_rel {cs:List AV} {n m cap:Nat} {old us:Array Value} {z:Array Value} (hw:WRel ρ s.h w) (hf:ρ s.c=none) (h:newM (.row e cs) s= .ok n s') (hc:CRel ρ cs (old.toList++us.toList))
  (h1:old.size+us.size=m*j.size) (hz:z.size=j.size) (hle:m≤cap):
  WRel (ρ.put s.c (w.heap.size,0,cap*j.size)) s'.h (w.drew.alloc (.cells (old++us++Builtin.zeroCells z (cap-m)) e (0,0)))∧
  Stp s s' ρ (ρ.put s.c (w.heap.size,0,cap*j.size)) w (w.drew.alloc (.cells (old++us++Builtin.zeroCells z (cap-m)) e (0,0)))∧n=s.c∧s'.c=s.c+1:=by
 obtain ⟨rfl,hs'⟩:=newM_ok.1 h
 obtain ⟨g1,g2⟩:=drew_rel hw
 have:=new_rel (s':=s') (o:= .row e cs) (ob:= .cells (old++us++Builtin.zeroCells z (cap-m)) e (0,0)) (κ:=cap*j.size) g1 hf (by rw [hs'];rfl) (by rw [hs'];rfl) ?_
 ·have hs:w.drew.heap.size=w.heap.size:=rfl
  rw [hs] at this
  exact ⟨this.1,Stp.trans g2 this.2 (Nat.le_refl _) (by rw [hs'];exact Nat.le_succ _),rfl,by rw [hs'];rfl⟩
 ·refine ⟨_,old.toList++us.toList,(Builtin.zeroCells z (cap-m)).toList,rfl,?_,by simp,CRel.mono (Ren.put_le hf _) _ _ hc⟩
  simp only [Array.size_append,size_zeroCells,hz,h1]
  rw [← Nat.add_mul,Nat.add_sub_cancel' hle,Nat.zero_add]
theorem appM_does {sv v:AV} {a y:Value} {new:List AV} {us:Array Value} {n:Nat} {ts:Array TypeId} {tx ty:TypeId} {d:TypeDesc} {inf:TypeInfo} {z:Value} (ht:ts[0]?=some t) (htx:ts[1]?=some tx) (hu:P.underlying t=some (.slice e)) (hd:P.underlying tx=some d)
  (i1:P.info? e=some inf) (i2:inf.size=j.size) (i3:inf.bytes=j.bytes) (i4:inf.zero=some z) (i5:z.cells.size=j.size) (hs0:j.size≠0) (hx:AppX P w d j z y n us) (hn:CRel ρ new us.toList) (hus:us.size=n*j.size)
  (h:appM e j sv new n s= .ok v s') (ha:VRel ρ sv a) (hw:WRel ρ s.h w):Does P s s' ρ w (Builtin.append_ ts ty #[a,y]) (fun ρ r=>VRel ρ v r):=by
 unfold appM at h
 have n0:∀{k:Nat},Nat.beq k 0=false→k≠0:=fun h e=>by rw [e] at h;cases h
 cases hs:slA sv with
 |none=>rw [hs] at h;exact (M.fail_ok.1 h).elim
 |some k=>
  rw [hs] at h
  cases k with
  |empty=>exact (M.fail_ok.1 h).elim
  |nil=>
   obtain rfl:a= .slice none 0 0:=slA_rel hs ha
   cases h0:Nat.beq n 0 with
   |true=>
    simp only [h0,cond_true] at h
    obtain ⟨rfl,rfl⟩:=M.pure_ok.1 h
    obtain rfl:=beq_true.1 h0
    exact Does.read (Alike.refl _) hw (append_none_run ht htx hu hd i1 i2 hx (by rw [hus,Nat.zero_mul]) (Nat.le_refl _)) rfl
   |false=>
    simp only [h0,cond_false] at h
    cases hq:(Nat.ble (Nat.mul n j.bytes) 100000000&&Nat.ble n 100000000) with
    |false=>rw [bif_false _ _ hq] at h;exact (M.fail_ok.1 h).elim
    |true=>
     rw [bif_true _ _ hq] at h
     rw [Bool.and_eq_true] at hq
     have q1:n*j.bytes≤100000000:=ble_true.1 hq.1
     have q2:=ble_true.1 hq.2
     obtain ⟨m,s1,h1,h2⟩:=M.bind_ok.1 h
     obtain ⟨rfl,rfl⟩:=M.pure_ok.1 h2
     intro hf
     have hf0:ρ s.c=none:=hf.at (by rw [(newM_ok.1 h1).2];exact Nat.lt_succ_self _)
     have hn0:=n0 h0
     obtain ⟨cap,c1,c2⟩:=append_grow_run (ty:=ty) (len:=0) (c:=0) (base:=none) (old:=#[]) ht htx hu hd i1 i2 i3 i4 hn0 hs0 hx (by omega) (by rw [Nat.zero_add];exact q1) (by omega) (by simp [Builtin.firstCells])
     rw [Nat.zero_add] at c1 c2
     obtain ⟨k1,k2,rfl,k4⟩:=grown_rel (m:=n) (cap:=cap) (old:=#[]) (us:=us) (z:=z.cells) (j:=j) hw hf0 h1 (by simpa using hn) (by simpa using hus) i5 c1
     exact ⟨_,_,_,c2,⟨(w.heap.size,0,cap*j.size),cap,Ren.put_same _ _ _,rfl,c1,(show 0+cap*j.size=cap*j.size from Nat.zero_add _)⟩,k1,k2⟩
  |some sl=>
   obtain ⟨m,off,len,cap,es⟩:=sl
   obtain ⟨p,c,hp,rfl,hlc,hcap⟩:=slA_rel hs ha
   cases h0:Nat.beq n 0 with
   |true=>
    simp only [h0,cond_true] at h
    obtain ⟨rfl,rfl⟩:=M.pure_ok.1 h
    obtain rfl:=beq_true.1 h0
    exact Does.read (Alike.refl _) hw (append_none_run ht htx hu hd i1 i2 hx (by rw [hus,Nat.zero_mul]) hlc) ha
   |false=>
    simp only [h0,cond_false] at h
    have hn0:=n0 h0
    unfold appS at h
    obtain ⟨q,s1,h1,h2⟩:=M.bind_ok.1 h
    obtain ⟨g1,_,g2⟩:=rowM_ok h1
    cases hes:(Nat.beq es 0 || !(Nat.beq es j.size)) with
    |true=>rw [bif_true _ _ hes] at h2;exact (M.fail_ok.1 h2).elim
    |false=>
     rw [bif_false _ _ hes] at h2
     have hse:es=j.size:=by
      cases hq:Nat.beq es j.size with
      |true=>exact beq_true.1 hq
      |false=>rw [hq] at hes;simp at hes
     subst hse
     have hw1:=hw.alike g2
     have g1':s1.h.get m=some (.row q.1 q.2):=by rw [g2.1];exact g1
     obtain ⟨ob,hob,hrow⟩:=hw.row g1 hp
     obtain ⟨vs,known,junk,rfl,k2,k3,k4⟩:=id hrow
     have hkl:=CRel.length _ k4
     have hkn:known.length+junk.length=p.2.2:=by
      have:=congrArg List.length k3
      rw [List.length_drop,List.length_append,Array.length_toList,k2] at this
      omega
     cases htst:roomB cap (Nat.add len n) off j.size q.2 with
     |true=>
      rw [bif_true _ _ htst] at h2
      have hle:len+n≤c:=by
       cases cap with
       |some c'=>
        obtain rfl:c=c':=hcap
        exact ble_true.1 htst
       |none=>
        have h3:off+(len+n)*j.size≤lenC q.2:=ble_true.1 htst
        have h4:off+c*j.size=p.2.2:=hcap
        exact Nat.le_of_mul_le_mul_right (by omega:(len+n)*j.size≤c*j.size) (Nat.pos_of_ne_zero hs0)
      obtain ⟨cs,s2,h3,h4⟩:=M.bind_ok.1 h2
      obtain ⟨hst,rfl⟩:=M.of_ok.1 h3
      obtain ⟨_,s3,h5,h6⟩:=M.bind_ok.1 h4
      obtain ⟨rfl,rfl⟩:=M.pure_ok.1 h6
      obtain ⟨r1,r2,r3⟩:=put_does (P:=P) hw1 g1' hp hst hn (by simpa using hus) h5
      refine Does.after g2 (fun _=>⟨ρ,_,_,?_,⟨p,c,hp,rfl,hle,hcap⟩,r2,r3⟩)
      rw [append_place_run ht htx hu hd i1 i2 i3 i4 hn0 hs0 hx hle]
      have r1':(storeCells ⟨p.1,p.2.1+off+len*j.size,none⟩ us.toList).run P w= .ok () (w.setCells p.1 (p.2.1+(off+len*j.size)) us.toList):=by rw [Nat.add_assoc];exact r1
      rw [r1']
      rfl
     |false=>
      rw [bif_false _ _ htst] at h2
      cases hq:(Nat.ble (Nat.mul (Nat.add len n) j.bytes) 100000000&&Nat.ble (Nat.add len n) 100000000) with
      |false=>rw [bif_false _ _ hq] at h2;exact (M.fail_ok.1 h2).elim
      |true=>
       rw [bif_true _ _ hq] at h2
       rw [Bool.and_eq_true] at hq
       have q1:(len+n)*j.bytes≤100000000:=ble_true.1 hq.1
       have q2:len+n≤100000000:=ble_true.1 hq.2
       obtain ⟨old,s2,h3,h4⟩:=M.bind_ok.1 h2
       obtain ⟨hol,rfl⟩:=M.of_ok.1 h3
       obtain ⟨_,s3,h5,h6⟩:=M.bind_ok.1 h4
       obtain ⟨m',s4,h7,h8⟩:=M.bind_ok.1 h6
       obtain ⟨rfl,rfl⟩:=M.pure_ok.1 h8
       obtain ⟨f1,f2⟩:=loadC_rel hol k4
       have f2':off+len*j.size≤known.length:=f2
       have hrg:=row_range (w:=w.drew) hob k3 off (len*j.size) f2'
       obtain ⟨olds,holds⟩:∃l,l=(known.drop off).take (len*j.size):=⟨_,rfl⟩
       have hol0:olds.length=len*j.size:=by rw [holds,List.length_take,List.length_drop];omega
       have f1':CRel ρ old olds:=by rw [holds];exact f1
       rw [← holds] at hrg
       have hold:(Builtin.firstCells j.size len (.slice (some ⟨p.1,p.2.1+off,none⟩) len c)).run P w.drew= .ok olds.toArray w.drew:=
        run_firstCells_some (P:=P) w.drew j.size len ⟨p.1,p.2.1+off,none⟩ len c olds hol0 (fun k v hv=>by rw [add_plain];exact hrg k v hv)
       have hsz:olds.toArray.size+us.size=(len+n)*j.size:=by rw [List.size_toArray,hol0,hus,Nat.add_mul]
       have hcr:CRel ρ (joinC old new) (olds.toArray.toList++us.toList):=joinC_rel old f1' hn
       have grow:¬len+n≤c→ρ s3.c=none→WRel ρ s3.h w→Stp s2 s3 ρ ρ w w→s2.c=s3.c→
         ∃ρ' w' u,(Builtin.append_ ts ty #[.slice (some ⟨p.1,p.2.1+off,none⟩) len c,y]).run P w= .ok u w'∧VRel ρ' (.slice m' 0 (Nat.add len n) none j.size) u∧WRel ρ' s'.h w'∧Stp s2 s' ρ ρ' w w':=by
        intro hlt hf0 hw3 hst hcc
        obtain ⟨cap',c1,c2⟩:=append_grow_run (ty:=ty) ht htx hu hd i1 i2 i3 i4 hn0 hs0 hx (by omega) q1 q2 hold
        obtain ⟨e1,e2,rfl,e4⟩:=grown_rel (m:=len+n) (cap:=cap') (old:=olds.toArray) (us:=us) (z:=z.cells) (j:=j) hw3 hf0 h7 hcr hsz i5 c1
        exact ⟨_,_,_,c2,⟨(w.heap.size,0,cap'*j.size),cap',Ren.put_same _ _ _,rfl,c1,(show 0+cap'*j.size=cap'*j.size from Nat.zero_add _)⟩,e1,Stp.trans hst e2 (by omega) (by omega)⟩
       have h7':=(newM_ok.1 h7).2
       refine Does.after g2 (fun hf=>?_)
       cases cap with
       |some c'=>
        obtain ⟨_,rfl⟩:=M.pure_ok.1 h5
        obtain rfl:c=c':=hcap
        have hlt:¬len+n≤c:=fun e=>by rw [show roomB (some c) (Nat.add len n) off j.size q.2=true from ble_true.2 e] at htst;cases htst
        exact grow hlt (hf.at (by rw [h7'];exact Nat.lt_succ_self _)) hw1 (Stp.alike (Alike.refl _)) rfl
       |none=>
        simp only at h5
        cases hty:Nat.beq q.1 e with
        |false=>rw [bif_false _ _ hty] at h5;exact (M.fail_ok.1 h5).elim
        |true=>
         rw [bif_true _ _ hty] at h5
         have hqe:=beq_true.1 hty
         obtain ⟨_,h5'⟩:=setM_ok.1 h5
         have hcc:s3.c=s2.c:=by rw [h5'];rfl
         have hf0:ρ s3.c=none:=by rw [hcc];exact hf.at (by rw [h7', ← hcc];exact Nat.lt_succ_self _)
         by_cases hlt:len+n≤c
         · -- in place
          have hce:off+c*j.size=p.2.2:=hcap
          have hul:us.toList.length=n*j.size:=by rw [Array.length_toList,hus]
          have hm:=Nat.mul_le_mul_right j.size hlt
          rw [Nat.add_mul] at hm
          have hsc:=setCells_heap p.1 q.1 us.toList (p.2.1+off+len*j.size) w vs hob (by rw [hul];omega)
          have hrun:=run_storeCells_cells (P:=P) p.1 (p.2.1+off+len*j.size) us.toList 0 w
           (fun k hk=>by rw [Nat.add_zero,cell_of_row w p.1 _ vs q.1 (0,0) hob,Array.getElem?_eq_getElem (by omega)];rfl)
           (fun k hk=>by rw [Nat.add_zero,frozen_of_row w p.1 _ vs q.1 hob]) (cells_one hn)
          rw [Nat.add_zero] at hrun
          have hmv:=move_rel (s':=s') (o:= .row e (joinC old new)) (p':=(p.1,p.2.1+off,p.2.2-off)) (n:=m) (p:=p) hw1 (by rw [g1'];rfl) hp (by rw [← hcc];exact hf0) rfl
           (by rw [h7',h5'];rfl) (by rw [h7',h5'];rfl) (only_setCells p.1 us.toList (p.2.1+off+len*j.size) w) hsc ?_
          ·have hm':m'=s2.c:=by rw [(newM_ok.1 h7).1,hcc]
           refine ⟨_,_,.slice (some ⟨p.1,p.2.1+off,none⟩) (len+n) c,(append_place_run ht htx hu hd i1 i2 i3 i4 hn0 hs0 hx hlt).trans (by rw [hrun];rfl),⟨(p.1,p.2.1+off,p.2.2-off),c,by rw [hm'];exact Ren.put_same _ _ _,rfl,hlt,?_⟩,hmv.1,hmv.2⟩
           show 0+c*j.size=p.2.2-off
           omega
          ·rw [hqe]
           refine ⟨_,olds++us.toList,vs.toList.drop (p.2.1+off+len*j.size+us.toList.length),rfl,?_,?_,CRel.mono (Ren.put_le (by rw [← hcc];exact hf0) _) _ _ hcr⟩
           ·simp only [List.size_toArray,List.length_append,List.length_take,List.length_drop,Array.length_toList]
            rw [Array.length_toList] at hul
            omega
           ·simp only
            rw [List.append_assoc]
            have hle2:p.2.1+off≤vs.toList.length:=by rw [Array.length_toList];omega
            have e1:(vs.toList.take (p.2.1+off+len*j.size)).drop (p.2.1+off)=olds:=by
             rw [holds,List.drop_take,Nat.add_sub_cancel_left, ← List.drop_drop,k3,List.drop_append_of_le_length (by omega),List.take_append_of_le_length (by rw [List.length_drop];omega)]
            rw [List.drop_append_of_le_length (by rw [List.length_take,Array.length_toList];omega),e1]
         ·have hd:=drop_rel (s':=s3) (n:=m) hw1 (by rw [h5'];rfl)
          exact grow hlt hf0 hd.1 hd.2 hcc.symm
theorem append_does {E:Env} (hE:EnvOK E P) {sv x v:AV} {a y:Value} {ts:Array TypeId} {tx ty:TypeId} (ht:ts[0]?=some t) (htx:ts[1]?=some tx) (h:appendF E t tx sv x s= .ok v s') (ha:VRel ρ sv a) (hx:VRel ρ x y) (hw:WRel ρ s.h w):
  Does P s s' ρ w (Builtin.append_ ts ty #[a,y]) (fun ρ r=>VRel ρ v r):=by
 unfold appendF at h
 obtain ⟨i,hi,h2⟩:=withTy_ok.1 h
 have hik:=hE.ty _ _ hi
 cases hsd:sliceD i.desc with
 |none=>rw [hsd] at h2;exact (M.fail_ok.1 h2).elim
 |some e=>
  rw [hsd] at h2
  obtain ⟨j,hj,h3⟩:=withTy_ok.1 h2
  have hjk:=hE.ty _ _ hj
  obtain ⟨xi,hxi,h4⟩:=withTy_ok.1 h3
  have hxk:=hE.ty _ _ hxi
  cases h0:Nat.beq j.size 0 with
  |true=>rw [bif_true _ _ h0] at h4;exact (M.fail_ok.1 h4).elim
  |false=>
   rw [bif_false _ _ h0] at h4
   have hs0:j.size≠0:=fun e=>by rw [beq_true.2 e] at h0;cases h0
   obtain ⟨inf,d0,z,i1,_,i2,i3,i4,_,i7,_,_,_,i5⟩:=hjk
   cases hk:intD xi.desc with
   |some k=>
    rw [hk] at h4
    obtain ⟨n,s1,h5,h6⟩:=M.bind_ok.1 h4
    obtain ⟨hn,rfl⟩:=M.of_ok.1 h5
    obtain ⟨kk,rfl⟩:=natA_rel hn hx
    cases hq:(Nat.ble n 100000&&Nat.ble (Nat.mul n j.bytes) 100000000) with
    |false=>rw [bif_false _ _ hq] at h6;exact (M.fail_ok.1 h6).elim
    |true=>
     rw [bif_true _ _ hq] at h6
     rw [Bool.and_eq_true] at hq
     have hz:=zerosA_rel (i7 ρ) n
     have hze:(Builtin.zeroCells z.cells n).toList=(List.replicate n z.cells.toList).flatten:=rep_cells z.cells n
     rw [← hze] at hz
     exact appM_does ht htx (hik.slice hsd) (hxk.int hk) i1 i2 i3 i4 i5 hs0 (.inl ⟨_,_,rfl,rfl,ble_true.1 hq.1,ble_true.1 hq.2,rfl⟩) hz (by rw [size_zeroCells,i5]) h6 ha hw
   |none=>
    rw [hk] at h4
    simp only at h4
    cases hsq:seqD xi.desc with
    |false=>rw [bif_false _ _ hsq] at h4;exact (M.fail_ok.1 h4).elim
    |true=>
     rw [bif_true _ _ hsq] at h4
     obtain ⟨d,hd,_,hdr,_⟩:=hxk.und
     have hd2:(∃k,d= .slice k)∨d= .string:=by
      cases hdesc:xi.desc<;>rw [hdesc] at hsq hdr<;>first|exact .inl ⟨_,hdr⟩|exact .inr hdr|(cases hsq;done)
     obtain ⟨⟨cs,n⟩,s1,h5,h6⟩:=M.bind_ok.1 h4
     obtain ⟨g1,us,g2,g3,g4⟩:=cellsM_rel (P:=P) h5 hx hw
     refine Does.after g1 (appM_does ht htx (hik.slice hsd) hd i1 i2 i3 i4 i5 hs0 (.inr ⟨hd2,fun w' hw'=>?_⟩) g2 g3 h6 ha (hw.alike g1))
     obtain ⟨f1,f2⟩:=g4 w' hw'
     refine ⟨f1,?_⟩
     rw [f2 n (Nat.le_refl _)]
     congr 1
     rw [← g3, ← Array.length_toList,List.take_length]
end
end Go.Proofs.YtnkjkgmohmcobaaGreatDoor.Vm
namespace Go.Proofs.YtnkjkgmohmcobaaGreatDoor.Vm
open Go
section
variable {P:Program} {s s' s1:St} {ρ ρ':Ren} {w w':World} {t e:TypeId} {i j:TyI}
inductive Sc where
 |i (k:IntKind) (a b:Int)
 |s (a b:ByteArray)
def Sc.lv:Sc→Value
 | .i k a _=> .int k a
 | .s a _=> .string a
def Sc.rv:Sc→Value
 | .i k _ b=> .int k b
 | .s _ b=> .string b
def Sc.eb:Sc→Bool
 | .i _ a b=>a==b
 | .s a b=>a==b
theorem eqSc_rel {a b:AV} {u v:Value} {r:Bool} (h:eqSc a b=some r) (hu:VRel ρ a u) (hv:VRel ρ b v):∃x:Sc,u=x.lv∧v=x.rv∧r=x.eb:=by
 unfold eqSc at h
 split at h
 ·rename_i p q ha hb
  by_cases hpq:p.1=q.1
  ·rw [if_pos hpq] at h
   injection h with h
   subst h
   exact ⟨.i p.1 p.2 q.2,intA_rel ha hu,by rw [hpq];exact intA_rel hb hv,rfl⟩
  ·rw [if_neg hpq] at h;cases h
 ·split at h
  ·rename_i p q ha hb
   injection h with h
   subst h
   exact ⟨.s p q,strA_rel ha hu,strA_rel hb hv,rfl⟩
  ·cases h
theorem eqSc_one {a b:AV} {r:Bool} (h:eqSc a b=some r):isB a=none∧isB b=none:=by
 unfold eqSc at h
 split at h
 ·rename_i p q ha hb
  exact ⟨(by cases a<;>first|rfl|cases ha),(by cases b<;>first|rfl|cases hb)⟩
 ·split at h
  ·rename_i p q ha hb
   exact ⟨(by cases a<;>first|rfl|cases ha),(by cases b<;>first|rfl|cases hb)⟩
  ·cases h
theorem eqLI_rel:∀{a b:List AV} {us vs:List Value} {r:Bool},eqLI a b=some r→CRel ρ a us→CRel ρ b vs→∃l:List Sc,us=l.map Sc.lv∧vs=l.map Sc.rv∧r=l.all Sc.eb∧l.length=lenC a
 |[],[],us,vs,r,h,hu,hv=>by
  simp only [eqLI,Option.some.injEq] at h
  subst h
  exact ⟨[],CRel.nil_iff.1 hu,CRel.nil_iff.1 hv,rfl,rfl⟩
 |[],_::_,_,_,_,h,_,_=>by cases h
 |_::_,[],_,_,_,h,_,_=>by cases h
 |a::x,b::y,us,vs,r,h,hu,hv=>by
  obtain ⟨u1,u2,rfl,h1,h2⟩:=CRel.cons_iff.1 hu
  obtain ⟨v1,v2,rfl,h3,h4⟩:=CRel.cons_iff.1 hv
  unfold eqLI at h
  cases hs:eqSc a b with
  |none=>rw [hs] at h;cases h
  |some c=>
   rw [hs] at h
   simp only at h
   cases hr:eqLI x y with
   |none=>rw [hr] at h;cases h
   |some c2=>
    rw [hr] at h
    simp only [Option.some.injEq] at h
    subst h
    obtain ⟨l,rfl,rfl,rfl,hl⟩:=eqLI_rel hr h2 h4
    obtain ⟨hia,hib⟩:=eqSc_one hs
    rw [hia] at h1
    rw [hib] at h3
    obtain ⟨_,u,rfl,g1⟩:=h1
    obtain ⟨_,v,rfl,g2⟩:=h3
    obtain ⟨z,rfl,rfl,rfl⟩:=eqSc_rel hs g1 g2
    refine ⟨z::l,rfl,rfl,rfl,?_⟩
    rw [List.length_cons,hl,lenC,hia]
    simp only
    omega
theorem bytes_eq {p q:ByteArray} (h:(p==q)=true):p=q:=by
 obtain ⟨p⟩:=p
 obtain ⟨q⟩:=q
 have:(p==q)=true:=h
 rw [eq_of_beq this]
theorem Sc.same:∀{x:Sc},x.eb=true→x.lv=x.rv
 | .i k a b,h=>by
  have:a=b:=eq_of_beq h
  rw [Sc.lv,Sc.rv,this]
 | .s a b,h=>by
  have:a=b:=bytes_eq h
  rw [Sc.lv,Sc.rv,this]
theorem Sc.bits (n:Nat):∀{x:Sc},x.eb=true→Instr.sameBits n x.rv x.lv=true
 | .i k a b,h=>by
  obtain rfl:a=b:=eq_of_beq h
  simp [Sc.lv,Sc.rv,Instr.sameBits]
 | .s a b,h=>by
  obtain rfl:a=b:=bytes_eq h
  simp only [Sc.lv,Sc.rv,Instr.sameBits]
  exact h
def KeyD (d:TypeDesc):Prop:=(∃k,d= .int k)∨d= .string∨d= .bool
def Cmp (P:Program) (t:TypeId) (d:TypeDesc) (sc:Bool) (u v:Value) (b:Bool):Prop:=
 match sc with
 |true=>Instr.sameNow d u v=some b
 |false=>Instr.sameNow d u v=none∧∀w,(Op.equal t u v).run P w= .ok b w
def Fnd (P:Program) (t:TypeId) (d:TypeDesc) (sc:Bool) (u:Value) (l:List MapEntry) (i:Nat) (r:Option (Nat × Value)):Prop:=
 match sc with
 |true=>Instr.findNow d u l i=some r
 |false=>(∀w,(Instr.findAsking t u l i).run P w= .ok r w)∧(l=[]∧r=none∨Instr.findNow d u l i=none)
def KeyR (P:Program) (t:TypeId) (d:TypeDesc) (sc:Bool) (f:KeyC):Prop:=∀(ρ:Ren) (a b:AV) (u v:Value) (r:Bool),f a b=some r→VRel ρ a u→VRel ρ b v→Cmp P t d sc u v r∧(r=true→Instr.sameBits 10000 v u=true)
def KeyCk (P:Program) (t:TypeId) (k:AV):Prop:=∀(ρ:Ren) (b:Bool) (u:Value) (w:World),VRel ρ k u→(Instr.checkKey b 10000 t u).run P w= .ok () w
theorem Fnd.nil {d:TypeDesc} {sc:Bool} {u:Value} {i:Nat} :Fnd P t d sc u [] i none:=by
 cases sc with
 |true=>exact (rfl:Instr.findNow d u [] i=some none)
 |false=>exact ⟨fun w=>rfl,.inl ⟨rfl,rfl⟩⟩
theorem Fnd.hit {d:TypeDesc} {sc:Bool} {u:Value} {e:MapEntry} {l:List MapEntry} {i:Nat} (h:Cmp P t d sc u e.key true):Fnd P t d sc u (e::l) i (some (i,e.val)):=by
 cases sc with
 |true=>
  have h:Instr.sameNow d u e.key=some true:=h
  show Instr.findNow d u (e::l) i=_
  simp only [Instr.findNow,h]
 |false=>
  obtain ⟨h1,h2⟩:Instr.sameNow d u e.key=none∧∀w,(Op.equal t u e.key).run P w= .ok true w:=h
  refine ⟨fun w=>?_,.inr (by simp only [Instr.findNow,h1])⟩
  simp [Instr.findAsking,h2]
theorem Fnd.miss {d:TypeDesc} {sc:Bool} {u:Value} {e:MapEntry} {l:List MapEntry} {i:Nat} {r:Option (Nat × Value)} (h:Cmp P t d sc u e.key false) (h':Fnd P t d sc u l (i+1) r):Fnd P t d sc u (e::l) i r:=by
 cases sc with
 |true=>
  have h:Instr.sameNow d u e.key=some false:=h
  have h':Instr.findNow d u l (i+1)=some r:=h'
  show Instr.findNow d u (e::l) i=_
  simp only [Instr.findNow,h]
  exact h'
 |false=>
  obtain ⟨h1,h2⟩:Instr.sameNow d u e.key=none∧∀w,(Op.equal t u e.key).run P w= .ok false w:=h
  refine ⟨fun w=>?_,.inr (by simp only [Instr.findNow,h1])⟩
  have h3:=h'.1 w
  simp [Instr.findAsking,h2,h3]
theorem neI_key {a b:AV} {u v:Value} {r:Bool} {k0:IntKind} (h:neI a b=some r) (hu:VRel ρ a u) (hv:VRel ρ b v):Cmp P t (.int k0) true u v r∧(r=true→Instr.sameBits 10000 v u=true):=by
 obtain ⟨rfl,k,m,n,rfl,rfl,h3⟩:=neI_rel h hu hv
 exact ⟨by simp only [Cmp,Instr.sameNow,if_true];rw [h3],fun e=>by cases e⟩
theorem key_kind {α:Type} {k:KeyC→M α} {b:α} {E:Env} {key:AV} (hE:EnvOK E P) (h:withKey E t key k s= .ok b s'):∃f d sc,k f s= .ok b s'∧P.underlying t=some d∧KeyCk P t key∧KeyR P t d sc f:=by
 unfold withKey at h
 obtain ⟨i,hi,h2⟩:=withTy_ok.1 h
 obtain ⟨d,hd,_,hdr,_⟩:=(hE.ty _ _ hi).und
 have ck:KeyD d→KeyCk P t key:=fun hk ρ b u w _=>by
  rw [show (10000:Nat)=9999+1 from rfl]
  unfold Instr.checkKey
  rcases hk with ⟨k,rfl⟩|rfl|rfl<;>simp [run_underlying hd]
 cases hkd:keyD i.desc with
 |false=>
  rw [bif_false _ _ hkd] at h2
  cases hkp:keyP i key with
  |false=>rw [bif_false _ _ hkp] at h2;exact (M.fail_ok.1 h2).elim
  |true=>
   rw [bif_true _ _ hkp] at h2
   unfold keyP at hkp
   simp only [Bool.and_eq_true,Bool.not_eq_true'] at hkp
   obtain ⟨p1,p2,p3⟩:=hkp
   have hfl:=(hE.ty _ _ hi)
   obtain ⟨_,d',_,_,hd',_,_,_,_,_,_,_,hfl,_⟩:=hfl
   have hfo:=(hfl p1).2
   rw [p2] at hfo
   have hstr:∃fs,d= .struct fs:=by
    cases hk:i.desc<;>rw [hk] at p2 p3 hdr<;>simp only [kindsD,isArrD] at p2 p3<;>first|(cases p3;done)|(cases p2;done)|skip
    obtain ⟨fs,rfl,_⟩:=hdr
    exact ⟨fs,rfl⟩
   obtain ⟨fs,rfl⟩:=hstr
   refine ⟨_,_,false,h2,hd,?_,fun ρ a b u v r hr hu hv=>?_⟩
   ·intro ρ e u w hu
    cases hs:sameP i.size i.zc key key with
    |none=>simp only [hs] at p3;split at p3<;>cases p3
    |some c=>
     unfold sameP at hs
     split at hs
     ·rename_i x y hx hy
      rw [hx] at hy
      injection hy with hy
      subst hy
      cases hn:shapeB false i.size i.zc x with
      |false=>rw [bif_false _ _ hn] at hs;cases hs
      |true=>
       rw [bif_true _ _ hn] at hs
       obtain ⟨xs,rfl,hxs⟩:=aggA_rel hx hu
       exact (hfo ρ x x xs xs c w hn hs hxs hxs).2 rfl e
     ·cases hs
   ·unfold sameP at hr
    split at hr
    ·rename_i x y hx hy
     cases hn:shapeB false i.size i.zc x with
     |false=>rw [bif_false _ _ hn] at hr;cases hr
     |true=>
      rw [bif_true _ _ hn] at hr
      obtain ⟨xs,rfl,hxs⟩:=aggA_rel hx hu
      obtain ⟨ys,rfl,hys⟩:=aggA_rel hy hv
      refine ⟨⟨rfl,fun w=>(hfo ρ x y xs ys r w hn hr hxs hys).1⟩,fun e=>?_⟩
      subst e
      obtain ⟨l,e1,e2,e3,_⟩:=eqLI_rel hr hxs hys
      rw [show (10000:Nat)=9999+1 from rfl]
      simp only [Instr.sameBits,e1,e2,Bool.and_eq_true,List.all_eq_true]
      refine ⟨by have h1:=congrArg List.length e1;have h2:=congrArg List.length e2;simp at h1 h2;simp [h1,h2],?_⟩
      rw [List.zip_map',List.forall_mem_map]
      intro z hz
      exact Sc.bits 9999 ((List.all_eq_true.1 e3.symm) z hz)
    ·cases hr
 |true=>
 rw [bif_true _ _ hkd] at h2
 cases hk:i.desc<;>rw [hk] at hkd<;>simp only [hk,keyD,reduceCtorEq] at h2 hkd<;>first|(cases hkd;done)|skip
 ·rw [hk] at hdr
  refine ⟨_,d,true,h2,hd,ck (.inl ⟨_,hdr⟩),fun ρ a b u v r hr hu hv=>?_⟩
  obtain rfl:=hdr
  simp only [sameKey,sameI] at hr
  cases ha:intA a with
  |none=>rw [ha] at hr;exact neI_key hr hu hv
  |some p=>
   cases hb:intA b with
   |none=>rw [ha,hb] at hr;exact neI_key hr hu hv
   |some q=>
    rw [ha,hb] at hr
    simp only at hr
    obtain rfl:=intA_rel ha hu
    obtain rfl:=intA_rel hb hv
    by_cases hpq:p.1=q.1
    ·rw [if_pos hpq] at hr
     refine ⟨by simp only [Cmp,Instr.sameNow,hpq,if_true];exact hr,fun e=>?_⟩
     subst e
     simp only [Option.some.injEq] at hr
     have:=eq_of_beq hr
     simp [Instr.sameBits,hpq,this]
    ·rw [if_neg hpq] at hr;cases hr
 ·rw [hk] at hdr
  refine ⟨_,d,true,h2,hd,ck (.inr (.inr hdr)),fun ρ a b u v r hr hu hv=>?_⟩
  obtain rfl:=hdr
  simp only [sameKey,sameB] at hr
  cases ha:boolA a with
  |none=>rw [ha] at hr;cases hr
  |some p=>
   cases hb:boolA b with
   |none=>rw [ha,hb] at hr;cases hr
   |some q=>
    rw [ha,hb] at hr
    simp only at hr
    obtain rfl:=boolA_rel ha hu
    obtain rfl:=boolA_rel hb hv
    refine ⟨by simp only [Cmp,Instr.sameNow];exact hr,fun e=>?_⟩
    subst e
    simp only [Option.some.injEq] at hr
    have:=eq_of_beq hr
    simp [Instr.sameBits,this]
 ·rw [hk] at hdr
  refine ⟨_,d,true,h2,hd,ck (.inr (.inl hdr)),fun ρ a b u v r hr hu hv=>?_⟩
  obtain rfl:=hdr
  simp only [sameKey,sameS] at hr
  cases ha:strA a with
  |none=>rw [ha] at hr;cases hr
  |some p=>
   cases hb:strA b with
   |none=>rw [ha,hb] at hr;cases hr
   |some q=>
    rw [ha,hb] at hr
    simp only at hr
    obtain rfl:=strA_rel ha hu
    obtain rfl:=strA_rel hb hv
    refine ⟨by simp only [Cmp,Instr.sameNow];exact hr,fun e=>?_⟩
    subst e
    simp only [Option.some.injEq] at hr
    have:=bytes_eq hr
    subst this
    exact hr
theorem find_rel {f:KeyC} {d:TypeDesc} {sc:Bool} (hf:KeyR P t d sc f) {k:AV} {u:Value} (hu:VRel ρ k u):∀{es:List Ent} {l:List MapEntry} {i:Nat} {r:Option (Nat × AV)},findE f k es i=some r→ERel ρ es l→
  (r=none∧Fnd P t d sc u l i none)∨∃n a x,r=some (n,a)∧Fnd P t d sc u l i (some (n,x))∧VRel ρ a x
 |[],l,i,r,h,hr=>by
  simp only [findE,Option.some.injEq] at h
  rw [show l=[] from hr]
  exact .inl ⟨h.symm,Fnd.nil⟩
 |e::es,l,i,r,h,hr=>by
  obtain ⟨x,l',rfl,h2,h3,h4,h5⟩:=hr
  unfold findE at h
  cases hs:f k e.1 with
  |none=>rw [hs] at h;cases h
  |some b=>
   have hsn:=(hf ρ _ _ _ _ _ hs hu h2).1
   rw [hs] at h
   cases b with
   |true=>
    simp only [Option.some.injEq] at h
    subst h
    exact .inr ⟨i,e.2.1,x.val,rfl,Fnd.hit hsn,h3⟩
   |false=>
    simp only at h
    rcases find_rel hf hu h h5 with ⟨g1,g2⟩|⟨n,a,y,g1,g2,g3⟩
    ·exact .inl ⟨g1,Fnd.miss hsn g2⟩
    ·exact .inr ⟨n,a,y,g1,Fnd.miss hsn g2,g3⟩
theorem run_findKey {d:TypeDesc} {sc:Bool} {u:Value} {l:List MapEntry} {r:Option (Nat × Value)} (hd:P.underlying t=some d) (h:Fnd P t d sc u l 0 r) (w:World):(Instr.findKey t u l).run P w= .ok r w:=by
 cases sc with
 |true=>
  have h:Instr.findNow d u l 0=some r:=h
  simp [Instr.findKey,run_underlying hd,h]
 |false=>
  obtain ⟨h1,h2⟩:=h
  rcases h2 with ⟨rfl,rfl⟩|h2
  ·simp [Instr.findKey,run_underlying hd,Instr.findNow]
  ·have:=h1 w
   simp [Instr.findKey,run_underlying hd,h2,this]
theorem lookDone_rel {ok:Bool} {z v:AV} {zv:Value} {r:Option (Nat × AV)} (h:lookDone ok z r s= .ok v s') (hz:VRel ρ z zv):
  s'=s∧(r=none→VRel ρ v (if ok then .tuple #[zv,.bool false] else zv))∧∀n a x,r=some (n,a)→VRel ρ a x→VRel ρ v (if ok then .tuple #[x,.bool true] else x):=by
 unfold lookDone at h
 have two:∀(a b:AV) (x y:Value),VRel ρ a x→VRel ρ b y→VRel ρ (.tuple [a,b]) (.tuple #[x,y]):=fun a b x y h1 h2=>
  ⟨#[x,y],rfl,LRel.cons_iff.2 ⟨x,[y],rfl,h1,LRel.cons_iff.2 ⟨y,[],rfl,h2,LRel.nil_iff.2 rfl⟩⟩⟩
 cases r with
 |none=>
  obtain ⟨rfl,rfl⟩:=M.pure_ok.1 h
  refine ⟨rfl,fun _=>?_,fun n a x h=>(by cases h)⟩
  cases ok with
  |true=>exact two _ _ _ _ hz rfl
  |false=>exact hz
 |some p=>
  obtain ⟨rfl,rfl⟩:=M.pure_ok.1 h
  refine ⟨rfl,fun h=>(by cases h),fun n a x h hx=>?_⟩
  simp only [Option.some.injEq] at h
  subst h
  cases ok with
  |true=>exact two _ _ _ _ hx rfl
  |false=>exact hx
theorem lookup_does {E:Env} (hE:EnvOK E P) {ok:Bool} {x k v:AV} {u y:Value} (hi:TyOK P t i) (h:lookupM E i ok x k s= .ok v s') (hx:VRel ρ x u) (hk:VRel ρ k y) (hw:WRel ρ s.h w):Does P s s' ρ w (Instr.lookup t u y ok) (fun ρ r=>VRel ρ v r):=by
 unfold lookupM at h
 cases hm:mapD i.desc with
 |none=>rw [hm] at h;exact (M.fail_ok.1 h).elim
 |some p=>
  rw [hm] at h
  obtain ⟨f,d,sc,h2,hd,hkd,hkr⟩:=key_kind hE h
  obtain ⟨j,hj,h3⟩:=withTy_ok.1 h2
  obtain ⟨z,z1,z2,_⟩:=(hE.ty _ _ hj).zeroValue
  obtain ⟨m,s1,h4,h5⟩:=M.bind_ok.1 h3
  obtain ⟨hma,rfl⟩:=M.of_ok.1 h4
  have hmr:=mapA_rel hma hx
  have hck:=fun b w=>hkd ρ b y w hk
  cases m with
  |none=>
   obtain rfl:u= .map none:=hmr
   obtain ⟨rfl,g1,_⟩:=lookDone_rel h5 (z2 ρ)
   refine Does.read (Alike.refl _) hw ?_ (g1 rfl)
   have hfk:=run_findKey (P:=P) (l:=[]) (u:=y) (r:=none) (sc:=sc) hd Fnd.nil w
   simp [Instr.lookup,run_underlying (hi.map hm),hck,hfk,z1]
  |some n=>
   obtain ⟨q,hq,rfl⟩:=hmr
   obtain ⟨es,s2,h6,h7⟩:=M.bind_ok.1 h5
   obtain ⟨g1,_,g2⟩:=mapM_ok h6
   obtain ⟨r,s3,h8,h9⟩:=M.bind_ok.1 h7
   obtain ⟨hf,rfl⟩:=M.of_ok.1 h8
   obtain ⟨rfl,g3,g4⟩:=lookDone_rel h9 (z2 ρ)
   obtain ⟨es',k1,k2⟩:=hw.map g1 hq
   have hg:(getObj q.1).run P w= .ok (.map es' es.2) w:=run_getObj_map k1
   rcases find_rel hkr hk hf k2 with ⟨rfl,f2⟩|⟨n,a,x,rfl,f2,f3⟩
   ·refine Does.read g2 hw ?_ (g3 rfl)
    have hfk:=run_findKey (P:=P) hd f2 w
    simp [Instr.lookup,run_underlying (hi.map hm),hg,hck,hfk,z1]
   ·refine Does.read g2 hw ?_ (g4 _ _ _ rfl f3)
    have hfk:=run_findKey (P:=P) hd f2 w
    simp [Instr.lookup,run_underlying (hi.map hm),hg,hck,hfk]
theorem putE_rel {f:KeyC} {d:TypeDesc} {sc:Bool} (hf:KeyR P t d sc f) {k v:AV} {u x:Value} (hu:VRel ρ k u) (hx:VRel ρ v x):∀{es es2:List Ent} {l:List MapEntry} {c c2 i:Nat},putE f k v es c=some (es2,c2)→ERel ρ es l→
  (∃n val en,Fnd P t d sc u l i (some (i+n,val))∧l[n]?=some en∧Instr.sameBits 10000 en.key u=true∧c2=c∧ERel ρ es2 (l.modify n (fun e=> {e with key:=u,val:=x})))∨
  (Fnd P t d sc u l i none∧c2=c+1∧ERel ρ es2 (l++[{key:=u,val:=x,born:=c}]))
 |[],es2,l,c,c2,i,h,hr=>by
  simp only [putE,Option.some.injEq,Prod.mk.injEq] at h
  obtain ⟨rfl,rfl⟩:=h
  rw [show l=[] from hr]
  exact .inr ⟨Fnd.nil,rfl,_,[],rfl,hu,hx,rfl,rfl⟩
 |e::es,es2,l,c,c2,i,h,hr=>by
  obtain ⟨y,l',rfl,h2,h3,h4,h5⟩:=hr
  unfold putE at h
  cases hs:f k e.1 with
  |none=>rw [hs] at h;cases h
  |some b=>
   have hsn:=hf ρ _ _ _ _ _ hs hu h2
   rw [hs] at h
   cases b with
   |true=>
    simp only [Option.some.injEq,Prod.mk.injEq] at h
    obtain ⟨rfl,rfl⟩:=h
    refine .inl ⟨0,y.val,y,Fnd.hit hsn.1,rfl,hsn.2 rfl,rfl,?_⟩
    exact ⟨_,l',rfl,hu,hx,h4,h5⟩
   |false=>
    simp only at h
    cases hp:putE f k v es c with
    |none=>rw [hp] at h;cases h
    |some q=>
     rw [hp] at h
     simp only [Option.some.injEq,Prod.mk.injEq] at h
     obtain ⟨rfl,rfl⟩:=h
     rcases putE_rel (i:=i+1) hf hu hx (es2:=q.1) (c2:=q.2) hp h5 with ⟨n,val,en,g1,g2,g3,g4,g5⟩|⟨g1,g2,g3⟩
     ·refine .inl ⟨n+1,val,en,?_,g2,g3,g4,?_⟩
      ·rw [show i+(n+1)=i+1+n by omega]
       exact Fnd.miss hsn.1 g1
      ·rw [List.modify_succ_cons]
       exact ⟨y,_,rfl,h2,h3,h4,g5⟩
     ·refine .inr ⟨Fnd.miss hsn.1 g1,g2,?_⟩
      exact ⟨y,_,rfl,h2,h3,h4,g3⟩
theorem delE_rel {f:KeyC} {d:TypeDesc} {sc:Bool} (hf:KeyR P t d sc f) {k:AV} {u:Value} (hu:VRel ρ k u):∀{es es2:List Ent} {l:List MapEntry} {i:Nat},delE f k es=some es2→ERel ρ es l→
  (∃n val,Fnd P t d sc u l i (some (i+n,val))∧ERel ρ es2 (l.eraseIdx n))∨(Fnd P t d sc u l i none∧ERel ρ es2 l)
 |[],es2,l,i,h,hr=>by
  simp only [delE,Option.some.injEq] at h
  subst h
  rw [show l=[] from hr]
  exact .inr ⟨Fnd.nil,rfl⟩
 |e::es,es2,l,i,h,hr=>by
  obtain ⟨y,l',rfl,h2,h3,h4,h5⟩:=hr
  unfold delE at h
  cases hs:f k e.1 with
  |none=>rw [hs] at h;cases h
  |some b=>
   have hsn:=hf ρ _ _ _ _ _ hs hu h2
   rw [hs] at h
   cases b with
   |true=>
    simp only [Option.some.injEq] at h
    subst h
    exact .inl ⟨0,y.val,Fnd.hit hsn.1,h5⟩
   |false=>
    simp only at h
    cases hp:delE f k es with
    |none=>rw [hp] at h;cases h
    |some q=>
     rw [hp] at h
     simp only [Option.some.injEq] at h
     subst h
     rcases delE_rel (i:=i+1) hf hu hp h5 with ⟨n,val,g1,g2⟩|⟨g1,g2⟩
     ·refine .inl ⟨n+1,val,?_,?_⟩
      ·rw [show i+(n+1)=i+1+n by omega]
       exact Fnd.miss hsn.1 g1
      ·rw [List.eraseIdx_cons_succ]
       exact ⟨y,_,rfl,h2,h3,h4,g2⟩
     ·refine .inr ⟨Fnd.miss hsn.1 g1,?_⟩
      exact ⟨y,_,rfl,h2,h3,h4,g2⟩
theorem mapset_rel {n:Nat} {es es2:List Ent} {c c2:Nat} {p:Nat × Nat × Nat} {l:Array MapEntry} (hw:WRel ρ s.h w) (hn:s.h.get n=some (.map es c)) (hp:ρ n=some p) (hb:∃l0 c0,w.heap[p.1]?=some (.map l0 c0)) (hr:ERel ρ es2 l.toList) (h:setM n (some (.map es2 c2)) s= .ok () s'):
  (setObj p.1 (.map l c2)).run P w= .ok () {w with heap:=w.heap.setIfInBounds p.1 (.map l c2)} ∧WRel ρ s'.h {w with heap:=w.heap.setIfInBounds p.1 (.map l c2)} ∧Stp s s' ρ ρ w {w with heap:=w.heap.setIfInBounds p.1 (.map l c2)} :=by
 obtain ⟨_,hs'⟩:=setM_ok.1 h
 obtain ⟨l0,c0,ho⟩:=hb
 have hlt:=(Array.getElem?_eq_some_iff.1 ho).1
 have hon:Only p.1 w {w with heap:=w.heap.setIfInBounds p.1 (.map l c2)} :=⟨rfl,rfl,rfl,by simp,fun q hq=>by simp [Ne.symm hq]⟩
 have:=set_rel (s':=s') (o:= .map es2 c2) hw (by rw [hn];rfl) hp (by rw [hs'];rfl) hon (ob:= .map l c2) (by simp [hlt]) ⟨l,rfl,hr⟩
 exact ⟨by simp [setObj,Sem.run,ho],this.1,this.2⟩
theorem update_does {E:Env} (hE:EnvOK E P) {x k v:AV} {u y z:Value} (hi:TyOK P t i) (h:updateM E i x k v s= .ok () s') (hx:VRel ρ x u) (hk:VRel ρ k y) (hv:VRel ρ v z) (hw:WRel ρ s.h w):Does P s s' ρ w (Instr.mapUpdate t u y z) (fun _ _=>True):=by
 unfold updateM at h
 cases hm:mapD i.desc with
 |none=>rw [hm] at h;exact (M.fail_ok.1 h).elim
 |some p=>
  rw [hm] at h
  obtain ⟨f,d,sc,h2,hd,hkd,hkr⟩:=key_kind hE h
  obtain ⟨m,s1,h4,h5⟩:=M.bind_ok.1 h2
  obtain ⟨hma,rfl⟩:=M.of_ok.1 h4
  have hmr:=mapA_rel hma hx
  obtain ⟨n,s1,h6,h7⟩:=M.bind_ok.1 h5
  obtain ⟨rfl,rfl⟩:=M.of_ok.1 h6
  have hck:=fun b w=>hkd ρ b y w hk
  obtain ⟨q,hq,rfl⟩:=hmr
  obtain ⟨es,s2,h6,h7⟩:=M.bind_ok.1 h7
  obtain ⟨g1,_,g2⟩:=mapM_ok h6
  obtain ⟨r,s3,h8,h9⟩:=M.bind_ok.1 h7
  obtain ⟨hf,rfl⟩:=M.of_ok.1 h8
  obtain ⟨es',k1,k2⟩:=hw.map g1 hq
  have hg:(getObj q.1).run P w= .ok (.map es' es.2) w:=run_getObj_map k1
  have hw2:=hw.alike g2
  have g1':s3.h.get n=some (.map es.1 es.2):=by rw [g2.1];exact g1
  refine Does.after g2 ?_
  rcases putE_rel (i:=0) hkr hk hv (es2:=r.1) (c2:=r.2) hf k2 with ⟨m,val,en,f1,f2,f3,f4,f5⟩|⟨f1,f2,f3⟩
  ·rw [Nat.zero_add] at f1
   obtain ⟨c1,c2,c3⟩:=mapset_rel (P:=P) (l:=es'.modify m (fun e=> {e with key:=y,val:=z})) hw2 g1' hq ⟨_,_,k1⟩ (by rw [Array.toList_modify];exact f5) h9
   rw [f4] at c1 c2 c3
   refine fun _=>⟨ρ,_,(),?_,trivial,c2,c3⟩
   have hfk:=run_findKey (P:=P) hd f1 w
   have hen:(Option.map (fun e:MapEntry=>e.key) es'[m]?).getD y=en.key:=by
    rw [Array.getElem?_toList] at f2
    rw [f2]
    rfl
   simp [Instr.mapUpdate,run_underlying (hi.map hm),hg,hck,hfk,Instr.keyThatStays,hen,f3,c1]
  ·obtain ⟨c1,c2,c3⟩:=mapset_rel (P:=P) (l:=es'.push {key:=y,val:=z,born:=es.2}) hw2 g1' hq ⟨_,_,k1⟩ (by rw [Array.toList_push];exact f3) h9
   rw [f2] at c1 c2 c3
   refine fun _=>⟨ρ,_,(),?_,trivial,c2,c3⟩
   have hfk:=run_findKey (P:=P) hd f1 w
   simp [Instr.mapUpdate,run_underlying (hi.map hm),hg,hck,hfk,c1]
theorem delete_does {E:Env} (hE:EnvOK E P) {x k v:AV} {u y:Value} {ts:Array TypeId} {ty:TypeId} (ht:ts[0]?=some t) (hi:TyOK P t i) (h:deleteM E i x k s= .ok v s') (hx:VRel ρ x u) (hk:VRel ρ k y) (hw:WRel ρ s.h w):Does P s s' ρ w (Builtin.delete_ ts ty #[u,y]) (fun ρ r=>VRel ρ v r):=by
 have hv0:∀ρ,VRel ρ undefA (.tuple #[]):=fun ρ=>⟨#[],rfl,by simp [LRel]⟩
 unfold deleteM at h
 cases hm:mapD i.desc with
 |none=>rw [hm] at h;exact (M.fail_ok.1 h).elim
 |some p=>
  rw [hm] at h
  obtain ⟨f,d,sc,h2,hd,hkd,hkr⟩:=key_kind hE h
  obtain ⟨m,s1,h4,h5⟩:=M.bind_ok.1 h2
  obtain ⟨hma,rfl⟩:=M.of_ok.1 h4
  have hmr:=mapA_rel hma hx
  have hck:=fun b w=>hkd ρ b y w hk
  cases m with
  |none=>
   obtain rfl:u= .map none:=hmr
   obtain ⟨rfl,rfl⟩:=M.pure_ok.1 h5
   refine Does.read (Alike.refl _) hw (u:= .tuple #[]) ?_ (hv0 _)
   simp [Builtin.delete_,ht,run_underlying (hi.map hm),hck]
  |some n=>
   obtain ⟨q,hq,rfl⟩:=hmr
   obtain ⟨es,s2,h6,h7⟩:=M.bind_ok.1 h5
   obtain ⟨g1,_,g2⟩:=mapM_ok h6
   obtain ⟨r,s3,h8,h9⟩:=M.bind_ok.1 h7
   obtain ⟨hf,rfl⟩:=M.of_ok.1 h8
   obtain ⟨_,s4,h10,h11⟩:=M.bind_ok.1 h9
   obtain ⟨rfl,rfl⟩:=M.pure_ok.1 h11
   obtain ⟨es',k1,k2⟩:=hw.map g1 hq
   have hg:(getObj q.1).run P w= .ok (.map es' es.2) w:=run_getObj_map k1
   have hw2:=hw.alike g2
   refine Does.after g2 ?_
   rcases delE_rel (i:=0) hkr hk hf k2 with ⟨m,val,f1,f2⟩|⟨f1,f2⟩
   ·rw [Nat.zero_add] at f1
    obtain ⟨c1,c2,c3⟩:=mapset_rel (P:=P) (l:=es'.eraseIdxIfInBounds m) hw2 (by rw [g2.1];exact g1) hq ⟨_,_,k1⟩ (by rw [Array.toList_eraseIdxIfInBounds];exact f2) h10
    refine fun _=>⟨ρ,_,.tuple #[],?_,hv0 _,c2,c3⟩
    have hfk:=run_findKey (P:=P) hd f1 w
    simp [Builtin.delete_,ht,run_underlying (hi.map hm),hg,hck,hfk,c1]
   ·obtain ⟨c1,c2,c3⟩:=mapset_rel (P:=P) (l:=es') hw2 (by rw [g2.1];exact g1) hq ⟨_,_,k1⟩ f2 h10
    refine fun _=>⟨ρ,_,.tuple #[],?_,hv0 _,c2,c3⟩
    have hfk:=run_findKey (P:=P) hd f1 w
    simp [Builtin.delete_,ht,run_underlying (hi.map hm),hg,hck,hfk,c1]
theorem range_does {x v:AV} {u:Value} (hi:TyOK P t i) (h:rangeM i x s= .ok v s') (hx:VRel ρ x u) (hw:WRel ρ s.h w):Does P s s' ρ w (Instr.range t u) (fun ρ r=>VRel ρ v r):=by
 unfold rangeM at h
 cases hm:mapD i.desc with
 |none=>
  rw [hm] at h
  simp only at h
  cases hsd:strD i.desc with
  |false=>rw [bif_false _ _ hsd] at h;exact (M.fail_ok.1 h).elim
  |true=>
   rw [bif_true _ _ hsd] at h
   obtain ⟨x0,s1,h4,h5⟩:=M.bind_ok.1 h
   obtain ⟨hsa,rfl⟩:=M.of_ok.1 h4
   obtain rfl:=strA_rel hsa hx
   obtain ⟨n,s2,h6,h7⟩:=M.bind_ok.1 h5
   obtain ⟨rfl,rfl⟩:=M.pure_ok.1 h7
   obtain ⟨rfl,hs'⟩:=newM_ok.1 h6
   intro hf
   have hf0:=hf.at (by rw [hs'];exact Nat.lt_succ_self _)
   have:=new_rel (s':=s') (o:= .siter x0 0) (ob:= .stringIter x0 0) (κ:=0) hw hf0 (by rw [hs'];rfl) (by rw [hs'];rfl) ⟨rfl,rfl⟩
   refine ⟨_,_,.pointer (some ⟨w.heap.size,0,none⟩),?_,⟨_,Ren.put_same _ _ _,rfl⟩,this.1,this.2⟩
   simp [Instr.range,run_underlying (hi.str hsd),newObj,Sem.run,World.alloc_eq]
 |some p=>
  rw [hm] at h
  obtain ⟨m,s1,h4,h5⟩:=M.bind_ok.1 h
  obtain ⟨hma,rfl⟩:=M.of_ok.1 h4
  have hmr:=mapA_rel hma hx
  cases m with
  |none=>
   obtain rfl:u= .map none:=hmr
   obtain ⟨n,s2,h6,h7⟩:=M.bind_ok.1 h5
   obtain ⟨rfl,rfl⟩:=M.pure_ok.1 h7
   obtain ⟨rfl,hs'⟩:=newM_ok.1 h6
   intro hf
   have hf0:=hf.at (by rw [hs'];exact Nat.lt_succ_self _)
   have:=new_rel (s':=s') (o:= .iter none 0 [] 0) (ob:= .mapIter none 0 #[] 0) (κ:=0) hw hf0 (by rw [hs'];rfl) (by rw [hs'];rfl) ⟨none,rfl,rfl,rfl⟩
   refine ⟨_,_,.pointer (some ⟨w.heap.size,0,none⟩),?_,⟨_,Ren.put_same _ _ _,rfl⟩,this.1,this.2⟩
   simp [Instr.range,run_underlying (hi.map hm),newObj,Sem.run,World.alloc_eq]
  |some n=>
   obtain ⟨q,hq,rfl⟩:=hmr
   obtain ⟨es,s2,h6,h7⟩:=M.bind_ok.1 h5
   obtain ⟨g1,_,g2⟩:=mapM_ok h6
   obtain ⟨m,s3,h8,h9⟩:=M.bind_ok.1 h7
   obtain ⟨rfl,rfl⟩:=M.pure_ok.1 h9
   obtain ⟨rfl,hs'⟩:=newM_ok.1 h8
   obtain ⟨es',k1,k2⟩:=hw.map g1 hq
   have hg:(getObj q.1).run P w= .ok (.map es' es.2) w:=run_getObj_map k1
   refine Does.after g2 (fun hf=>?_)
   have hf0:=hf.at (by rw [hs'];exact Nat.lt_succ_self _)
   have:=new_rel (s':=s') (o:= .iter (some n) es.2 [] es.2) (ob:= .mapIter (some q.1) es.2 #[] es.2) (κ:=0) (hw.alike g2) hf0 (by rw [hs'];rfl) (by rw [hs'];rfl) ⟨some q.1,rfl,⟨q,Ren.put_le hf0 _ _ _ hq,rfl⟩,rfl⟩
   refine ⟨_,_,.pointer (some ⟨w.heap.size,0,none⟩),?_,⟨_,Ren.put_same _ _ _,rfl⟩,this.1,this.2⟩
   simp [Instr.range,run_underlying (hi.map hm),hg,newObj,Sem.run,World.alloc_eq]
end
end Go.Proofs.YtnkjkgmohmcobaaGreatDoor.Vm
namespace Go.Proofs.YtnkjkgmohmcobaaGreatDoor.Vm
open Go
section
variable {P:Program} {s s' s1:St} {ρ ρ':Ren} {w w':World} {t e:TypeId} {i j:TyI}
theorem WRel.iter {n:Nat} {m:Option Nat} {since last:Nat} {seen:List Nat} {p:Nat × Nat × Nat} (hw:WRel ρ s.h w) (h:s.h.get n=some (.iter m since seen last)) (hp:ρ n=some p):
  ∃m',w.heap[p.1]?=some (.mapIter m' since seen.toArray last)∧IterM ρ m m'∧p.2.1=0:=by
 obtain ⟨q,ob,h1,h2,m',rfl,h4,h5⟩:=hw.at_ n _ h
 rw [hp] at h1
 injection h1 with h1
 subst h1
 exact ⟨m',h2,h4,h5⟩
theorem iterO_some {o:AObj} {q:Option Nat × Nat × List Nat × Nat} (h:iterO o=some q):o= .iter q.1 q.2.1 q.2.2.1 q.2.2.2:=by
 cases o<;>simp only [iterO,Option.some.injEq,reduceCtorEq] at h
 subst h
 rfl
theorem run_getObj_iter {b:Nat} {m:Option Nat} {since last:Nat} {seen:Array Nat} (h:w.heap[b]?=some (.mapIter m since seen last)):(getObj b).run P w= .ok (.mapIter m since seen last) w:=by
 simp [getObj,Sem.run,h]
theorem seenB_iff {b:Nat} :∀{l:List Nat},seenB b l=true↔b∈l
 |[]=>by simp [seenB]
 |x::r=>by
  unfold seenB
  rw [Bool.or_eq_true,beq_true,seenB_iff,List.mem_cons]
theorem tup1 {a:AV} {x:Value} (h:VRel ρ a x):VRel ρ (.tuple [a]) (.tuple #[x]):=⟨#[x],rfl,LRel.cons_iff.2 ⟨x,[],rfl,h,LRel.nil_iff.2 rfl⟩⟩
theorem tup2 {a b:AV} {x y:Value} (h:VRel ρ a x) (h':VRel ρ b y):VRel ρ (.tuple [a,b]) (.tuple #[x,y]):=
 ⟨#[x,y],rfl,LRel.cons_iff.2 ⟨x,[y],rfl,h,LRel.cons_iff.2 ⟨y,[],rfl,h',LRel.nil_iff.2 rfl⟩⟩⟩
theorem tup3 {a b c:AV} {x y z:Value} (h:VRel ρ a x) (h':VRel ρ b y) (h'':VRel ρ c z):VRel ρ (.tuple [a,b,c]) (.tuple #[x,y,z]):=
 ⟨#[x,y,z],rfl,LRel.cons_iff.2 ⟨x,[y,z],rfl,h,LRel.cons_iff.2 ⟨y,[z],rfl,h',LRel.cons_iff.2 ⟨z,[],rfl,h'',LRel.nil_iff.2 rfl⟩⟩⟩⟩
theorem next_does {it v:AV} {u:Value} {ty:TypeId} (h:nextM it s= .ok v s') (hx:VRel ρ it u) (hw:WRel ρ s.h w):Does P s s' ρ w (Instr.next u false ty) (fun ρ r=>VRel ρ v r):=by
 unfold nextM at h
 obtain ⟨p,s1,h1,h2⟩:=M.bind_ok.1 h
 obtain ⟨hp,rfl⟩:=M.of_ok.1 h1
 obtain ⟨q,hq,rfl⟩:=addrA_rel hp hx
 cases h0:Nat.beq p.2 0 with
 |false=>simp only [h0,Bool.not_false,cond_true] at h2;exact (M.fail_ok.1 h2).elim
 |true=>
  simp only [h0,Bool.not_true,cond_false] at h2
  have hp0:=beq_true.1 h0
  obtain ⟨o,s2,h3,h4⟩:=M.bind_ok.1 h2
  obtain ⟨g1,g2⟩:=getM_alike h3
  obtain ⟨r,s3,h5,h6⟩:=M.bind_ok.1 h4
  obtain ⟨ho,rfl⟩:=M.of_ok.1 h5
  obtain rfl:=iterO_some ho
  obtain ⟨m',k1,k2,k3⟩:=hw.iter g1 hq
  have hgi:(getObj q.1).run P w= .ok (.mapIter m' r.2.1 r.2.2.1.toArray r.2.2.2) w:=run_getObj_iter k1
  have hof:q.2.1+p.2=0:=by omega
  rw [hof]
  cases hm:r.1 with
  |none=>
   rw [hm] at h6 k2
   obtain ⟨rfl,rfl⟩:=M.pure_ok.1 h6
   obtain rfl:m'=none:=k2
   refine Does.read g2 hw (u:= .tuple #[.bool false]) ?_ (tup1 rfl)
   simp [Instr.next,hgi]
  |some m=>
   rw [hm] at h6 k2
   obtain ⟨qm,hqm,rfl⟩:=k2
   obtain ⟨es,s4,h7,h8⟩:=M.bind_ok.1 h6
   obtain ⟨f1,_,f2⟩:=mapM_ok h7
   have hw3:=hw.alike g2
   obtain ⟨es',e1,e2⟩:=hw3.map f1 hqm
   have hgm:(getObj qm.1).run P w= .ok (.map es' es.2) w:=run_getObj_map e1
   have hal:=g2.trans f2
   obtain ⟨r1,since,seen,last⟩:=r
   simp only at h8 hgi hm g1
   subst hm
   obtain ⟨es1,ec⟩:=es
   cases es1 with
   |nil=>
    obtain ⟨rfl,rfl⟩:=M.pure_ok.1 h8
    obtain rfl:es'= #[]:=Array.ext' (show es'.toList=[] from e2)
    refine Does.read hal hw (u:= .tuple #[.bool false]) ?_ (tup1 rfl)
    simp [Instr.next,hgi,hgm,Question.forced]
   |cons e er=>
    cases er with
    |cons _ _=>
     simp only [next1] at h8
     exact (M.fail_ok.1 h8).elim
    |nil=>
     simp only [next1] at h8
     obtain ⟨x,l',hl,x1,x2,x3,x4⟩:=e2
     obtain rfl:l'=[]:=x4
     obtain rfl:es'= #[x]:=Array.ext' hl
     cases hsn:seenB e.2.2 seen with
     |true=>
      rw [bif_true _ _ hsn] at h8
      cases hlt:Nat.blt e.2.2 last with
      |false=>rw [bif_false _ _ hlt] at h8;exact (M.fail_ok.1 h8).elim
      |true=>
       rw [bif_true _ _ hlt] at h8
       obtain ⟨rfl,rfl⟩:=M.pure_ok.1 h8
       refine Does.read hal hw (u:= .tuple #[.bool false]) ?_ (tup1 rfl)
       have hb:e.2.2<last:=blt_true.1 hlt
       have hin:e.2.2∈seen:=seenB_iff.1 hsn
       have hnb:¬last≤x.born:=by rw [x3];omega
       have hin':x.born∈seen:=by rw [x3];exact hin
       simp [Instr.next,hgi,hgm,Question.forced,hnb,hin']
     |false=>
      rw [bif_false _ _ hsn] at h8
      cases seen with
      |cons a b=>exact (M.fail_ok.1 h8).elim
      |nil=>
       simp only at h8
       cases hlt:Nat.blt e.2.2 since with
       |false=>rw [bif_false _ _ hlt] at h8;exact (M.fail_ok.1 h8).elim
       |true=>
        rw [bif_true _ _ hlt] at h8
        obtain ⟨_,s5,h9,h10⟩:=M.bind_ok.1 h8
        obtain ⟨rfl,rfl⟩:=M.pure_ok.1 h10
        obtain ⟨_,hs'⟩:=setM_ok.1 h9
        have hb:x.born<since:=by rw [x3];exact blt_true.1 hlt
        have hlt':=(Array.getElem?_eq_some_iff.1 k1).1
        have hon:Only q.1 w {w with heap:=w.heap.setIfInBounds q.1 (.mapIter (some qm.1) since #[x.born] ec)} :=⟨rfl,rfl,rfl,by simp,fun q hq=>by simp [Ne.symm hq]⟩
        have:=set_rel (s:=s4) (s':=s') (o:= .iter (some m) since [e.2.2] ec) (hw.alike hal) (by rw [hal.1,g1];rfl) hq (by rw [hs'];rfl) hon (ob:= .mapIter (some qm.1) since #[x.born] ec) (by simp [hlt']) ⟨some qm.1,by rw [x3],⟨qm,hqm,rfl⟩,k3⟩
        refine Does.after hal (fun _=>⟨ρ,_,.tuple #[.bool true,x.key,x.val],?_,tup3 rfl x1 x2,this.1,this.2⟩)
        have hset:(setObj q.1 (.mapIter (some qm.1) since #[x.born] ec)).run P w= .ok () {w with heap:=w.heap.setIfInBounds q.1 (.mapIter (some qm.1) since #[x.born] ec)} :=by simp [setObj,Sem.run,k1]
        have hnb:¬since≤x.born:=by omega
        simp [Instr.next,hgi,hgm,Question.forced,hb,hnb,hset]
theorem siterO_some {o:AObj} {q:ByteArray × Nat} (h:siterO o=some q):o= .siter q.1 q.2:=by
 cases o<;>simp only [siterO,Option.some.injEq,reduceCtorEq] at h
 subst h
 rfl
theorem nextS_does {it v:AV} {u:Value} {ty:TypeId} (h:nextS it s= .ok v s') (hx:VRel ρ it u) (hw:WRel ρ s.h w):Does P s s' ρ w (Instr.next u true ty) (fun ρ r=>VRel ρ v r):=by
 unfold nextS at h
 obtain ⟨p,s1,h1,h2⟩:=M.bind_ok.1 h
 obtain ⟨hp,rfl⟩:=M.of_ok.1 h1
 obtain ⟨q,hq,rfl⟩:=addrA_rel hp hx
 cases h0:Nat.beq p.2 0 with
 |false=>simp only [h0,Bool.not_false,cond_true] at h2;exact (M.fail_ok.1 h2).elim
 |true=>
  simp only [h0,Bool.not_true,cond_false] at h2
  have hp0:=beq_true.1 h0
  obtain ⟨o,s2,h3,h4⟩:=M.bind_ok.1 h2
  obtain ⟨g1,g2⟩:=getM_alike h3
  obtain ⟨r,s3,h5,h6⟩:=M.bind_ok.1 h4
  obtain ⟨ho,rfl⟩:=M.of_ok.1 h5
  obtain rfl:=siterO_some ho
  obtain ⟨pq,ob,k1,k2,k3,k4⟩:=hw.at_ p.1 _ g1
  rw [hq] at k1
  injection k1 with k1
  subst k1 k3
  have hgi:(getObj q.1).run P w= .ok (.stringIter r.1 r.2) w:=by simp [getObj,Sem.run,k2]
  have hof:q.2.1+p.2=0:=by omega
  rw [hof]
  cases hlt:Nat.blt r.2 r.1.size with
  |false=>
   rw [bif_false _ _ hlt] at h6
   obtain ⟨rfl,rfl⟩:=M.pure_ok.1 h6
   have hnl:¬r.2<r.1.size:=fun e=>by rw [blt_true.2 e] at hlt;cases hlt
   refine Does.read g2 hw (u:= .tuple #[.bool false]) ?_ (tup1 rfl)
   simp [Instr.next,hgi,hnl]
  |true=>
   rw [bif_true _ _ hlt] at h6
   have hl:=blt_true.1 hlt
   unfold step1 at h6
   rw [forceN_eq,forceN_eq] at h6
   obtain ⟨_,s5,h9,h10⟩:=M.bind_ok.1 h6
   obtain ⟨rfl,rfl⟩:=M.pure_ok.1 h10
   obtain ⟨_,hs'⟩:=setM_ok.1 h9
   have hlt':=(Array.getElem?_eq_some_iff.1 k2).1
   have hon:Only q.1 w {w with heap:=w.heap.setIfInBounds q.1 (.stringIter r.1 (r.2+(Utf8.decode r.1 r.2).2))} :=⟨rfl,rfl,rfl,by simp,fun q hq=>by simp [Ne.symm hq]⟩
   have:=set_rel (s:=s3) (s':=s') (o:= .siter r.1 (r.2+(Utf8.decode r.1 r.2).2)) (hw.alike g2) (by rw [g2.1,g1];rfl) hq (by rw [hs'];rfl) hon (ob:= .stringIter r.1 (r.2+(Utf8.decode r.1 r.2).2)) (by simp [hlt']) ⟨rfl,k4⟩
   refine Does.after g2 (fun _=>⟨ρ,_,.tuple #[.bool true,.int .i64 (Int.ofNat r.2),.int .i32 (Int.ofNat (Utf8.decode r.1 r.2).1)],?_,tup3 rfl rfl rfl,this.1,this.2⟩)
   have hset:(setObj q.1 (.stringIter r.1 (r.2+(Utf8.decode r.1 r.2).2))).run P w= .ok () {w with heap:=w.heap.setIfInBounds q.1 (.stringIter r.1 (r.2+(Utf8.decode r.1 r.2).2))} :=by simp [setObj,Sem.run,k2]
   simp [Instr.next,hgi,hl,hset,goInt]
theorem findB_rel {b:Nat} :∀{es:List Ent} {l:List MapEntry} {e:Ent},findB b es=some e→ERel ρ es l→∃x,l.find? (fun y=>y.born==b)=some x∧VRel ρ e.1 x.key∧VRel ρ e.2.1 x.val
 |[],l,e,h,_=>by cases h
 |a::r,l,e,h,hr=>by
  obtain ⟨x,l',rfl,h2,h3,h4,h5⟩:=hr
  unfold findB at h
  cases hb:Nat.beq a.2.2 b with
  |true=>
   rw [bif_true _ _ hb] at h
   simp only [Option.some.injEq] at h
   subst h
   exact ⟨x,by simp [h4,beq_true.1 hb],h2,h3⟩
  |false=>
   rw [bif_false _ _ hb] at h
   obtain ⟨y,g1,g2⟩:=findB_rel h h5
   refine ⟨y,?_,g2⟩
   have:¬x.born=b:=fun e=>by rw [h4] at e;rw [beq_true.2 e] at hb;cases hb
   simp [this,g1]
theorem entry_does {it v:AV} {u:Value} (h:entryM it s= .ok v s') (hx:VRel ρ it u) (hw:WRel ρ s.h w):Does P s s' ρ w (Instr.entry u) (fun ρ r=>VRel ρ v r):=by
 unfold entryM at h
 obtain ⟨p,s1,h1,h2⟩:=M.bind_ok.1 h
 obtain ⟨hp,rfl⟩:=M.of_ok.1 h1
 obtain ⟨q,hq,rfl⟩:=addrA_rel hp hx
 cases h0:Nat.beq p.2 0 with
 |false=>simp only [h0,Bool.not_false,cond_true] at h2;exact (M.fail_ok.1 h2).elim
 |true=>
  simp only [h0,Bool.not_true,cond_false] at h2
  have hp0:=beq_true.1 h0
  obtain ⟨o,s2,h3,h4⟩:=M.bind_ok.1 h2
  obtain ⟨g1,g2⟩:=getM_alike h3
  obtain ⟨r,s3,h5,h6⟩:=M.bind_ok.1 h4
  obtain ⟨ho,rfl⟩:=M.of_ok.1 h5
  obtain rfl:=iterO_some ho
  obtain ⟨m',k1,k2,k3⟩:=hw.iter g1 hq
  have hgi:(getObj q.1).run P w= .ok (.mapIter m' r.2.1 r.2.2.1.toArray r.2.2.2) w:=run_getObj_iter k1
  have hof:q.2.1+p.2=0:=by omega
  rw [hof]
  obtain ⟨m,s4,h7,h8⟩:=M.bind_ok.1 h6
  obtain ⟨hm,rfl⟩:=M.of_ok.1 h7
  rw [hm] at k2
  obtain ⟨qm,hqm,rfl⟩:=k2
  obtain ⟨es,s5,h9,h10⟩:=M.bind_ok.1 h8
  obtain ⟨f1,_,f2⟩:=mapM_ok h9
  have hw3:=hw.alike g2
  obtain ⟨es',e1,e2⟩:=hw3.map f1 hqm
  have hgm:(getObj qm.1).run P w= .ok (.map es' es.2) w:=run_getObj_map e1
  have hal:=g2.trans f2
  cases hc:Nat.beq es.2 r.2.2.2 with
  |false=>rw [bif_false _ _ hc] at h10;exact (M.fail_ok.1 h10).elim
  |true=>
   rw [bif_true _ _ hc] at h10
   have hcc:=beq_true.1 hc
   obtain ⟨b,s6,h11,h12⟩:=M.bind_ok.1 h10
   obtain ⟨hb,rfl⟩:=M.of_ok.1 h11
   obtain ⟨en,s7,h13,h14⟩:=M.bind_ok.1 h12
   obtain ⟨hen,rfl⟩:=M.of_ok.1 h13
   obtain ⟨rfl,rfl⟩:=M.pure_ok.1 h14
   obtain ⟨x,x1,x2,x3⟩:=findB_rel hen e2
   refine Does.read hal hw (u:= .tuple #[x.key,x.val]) ?_ (tup2 x2 x3)
   have hbk:r.2.2.1.toArray.back?=some b:=by rw [← hb];simp
   have hfd:es'.find? (fun y=>y.born==b)=some x:=by rw [← Array.find?_toList];exact x1
   simp [Instr.entry,hgi,hbk,hgm,hcc,hfd]
end
end Go.Proofs.YtnkjkgmohmcobaaGreatDoor.Vm
