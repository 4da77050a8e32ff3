/-
  Texts of this claim, joined: KZ, RH, RZl, LB, LG, LH, LI, LJ, LK.
-/
import Derived.RecoverIn
import Derived.Maps.OwnIn
import Derived.Sort.CutIn
import Derived.Test.YtnkjkgmohmcobaaGreatDoorBc06
set_option maxHeartbeats 6400000
set_option maxRecDepth 100000
namespace Go.Proofs.YtnkjkgmohmcobaaGreatDoor
open Go.RowKit Go.Maps
theorem setCells_blk {g:Nat} {t:TypeId} (vs:List Value):∀(w:World) (cs:Array Value) (o:Nat),Blk w g t cs→Blk (w.setCells g o vs) g t (setL cs o vs):=by
 induction vs with
 |nil=>intro w cs o h;exact h
 |cons v r ih=>intro w cs o h;exact ih _ _ _ (h.set_ o v)
theorem setCells_turn {g:Nat} {S:Nat→Prop} (hS:S g) (vs:List Value):∀(a w:World) (o:Nat),Turn S a w→Turn S a (w.setCells g o vs):=by
 induction vs with
 |nil=>intro a w o h;exact h
 |cons v r ih=>intro a w o h;exact ih _ _ _ (h.set (p:=⟨g,o,none⟩) (.inl hS) v)
theorem jobPg_size (d:Nat) (at_:Int) (p:List UInt8) (hp:p.length=512):(jobPg d at_ p).size=515:=by unfold jobPg;simp [hp]
theorem jobPg_set (d:Nat) (at_:Int) (p q:List UInt8) (hp:p.length=512) (hq:q.length=512):setL (jobPg d at_ p) 2 (q.map byteV)=jobPg d at_ q:=by
 have hl:(q.map byteV).length=512:=by simp [hq]
 obtain ⟨h1,h2,h3⟩:=setL_spec (q.map byteV) (jobPg d at_ p) 2 (by rw [jobPg_size _ _ _ hp,hl];omega)
 refine Array.ext (by rw [h1,jobPg_size _ _ _ hp,jobPg_size _ _ _ hq]) (fun i h4 h5=>?_)
 have e:(setL (jobPg d at_ p) 2 (q.map byteV))[i]?=(jobPg d at_ q)[i]?:=by
  rcases Nat.lt_or_ge i 2 with hi|hi
  ·rw [h2 i (.inl hi)]
   unfold jobPg
   match i,hi with
   |0,_=>rfl
   |1,_=>rfl
  ·obtain ⟨k,rfl⟩:∃k,i=2+k:=⟨i-2,by omega⟩
   rcases Nat.lt_or_ge k 512 with hk|hk
   ·have h6:=h3 k ((q.map byteV)[k]'(by omega)) (List.getElem?_eq_getElem (by omega))
    rw [h6]
    unfold jobPg
    rw [List.getElem?_toArray,show 2+k=k+1+1 by omega,List.getElem?_cons_succ,List.getElem?_cons_succ,List.getElem?_append_left (by omega),List.getElem?_eq_getElem (by omega)]
   ·rw [h2 (2+k) (.inr (by omega))]
    unfold jobPg
    rw [List.getElem?_toArray,List.getElem?_toArray,show 2+k=k+1+1 by omega,List.getElem?_cons_succ,List.getElem?_cons_succ,List.getElem?_cons_succ,List.getElem?_cons_succ,List.getElem?_append_right (by simp [hp];omega),List.getElem?_append_right (by simp [hq];omega)]
    simp [hp,hq]
 rw [Array.getElem?_eq_getElem h4,Array.getElem?_eq_getElem h5] at e
 exact Option.some.inj e
theorem jobPg_there {W:World} {j d:Nat} {at_:Int} {p:List UInt8} (k:Blk W j 182 (jobPg d at_ p)) (hp:p.length=512):W.there j 2 512:=fun i hi=>by
 have h:=jobPg_range k i ((p.map byteV)[i]'(by simp [hp];omega)) (List.getElem?_eq_getElem _)
 exact ⟨by rw [h];rfl,k.frozen _⟩
def JobR (w:World) (j d no:Nat) (q:List UInt8) (w':World):Prop:=Blk w' j 182 (jobPg d no q)∧Turn (fun q=>q=j) w w'
theorem jobRead_any (j d m k no g n:Nat) (mf:Int→Option Value) (p sp lp:List UInt8) (G:Array Value) (fs:Bool) (lv:Value) (stale head sure fuse o:Int) (n0:Nat) (xs:List Value) (w:World) (hp:p.length=512) (hno:no<n) (hn:n≤1024) (hn0:n0≤1000000)
  (kd:Blk w d 113 (devF fs (.slice (some ⟨g,0,none⟩) n n) (.map (some m)) lv stale head sure fuse o)) (kj:Blk w j 182 (jobPg d no p)) (hm:MapF w m k mf) (kg:Blk w g 116 G) (hsp:sp.length=512) (hG:∀i u,(sp.map byteV)[i]?=some u→G[no*512+i]?=some u)
  (ho:w.ownsRow 0 116 512 ((mf no).getD (.slice none 0 0)) n0 xs) (hlp:n0≠0→lp.length=512∧∀i u,(lp.map byteV)[i]?=some u→xs[(n0-1)*512+i]?=some u):
  Calls Tryz.prog 106 #[.pointer (some ⟨j,0,none⟩)] w fun e w'=>(∃v,e= .returned v)∧JobR w j d no (if n0=0 then sp else lp) w':=by
 obtain ⟨A,c,hv,junk⟩:=own_slice ho
 have hwf:=wf_no no (by omega)
 have hjm:m≠j:=fun e=>hm.ne kj e.symm
 have hjg:g≠j:=kg.ne_ kj (by decide)
 have hjd:d≠j:=kd.ne_ kj (by decide)
 have hjr:=row_ne ho kj (by decide)
 have HLK:=hide (fun W (h:Turn (fun q=>q=j) w W)=>(h.map hm (by exact hjm)).get1 hwf Tryz.underlying111 zero_pages)
 rw [hv] at HLK ho hjr
 have HKD:=hide (fun W (h:Turn (fun q=>q=j) w W)=>h.blk kd hjd)
 have HKG:=hide (fun W (h:Turn (fun q=>q=j) w W)=>h.blk kg hjg)
 have HKR:=hide (fun W (h:Turn (fun q=>q=j) w W)=>row_keep ho (fun q hq=>h.block q (World.ownsRow.lt ho q hq).2 (fun e=>hjr (by rw [hq,e]))))
 have KD:=hide kd
 have KJ:=hide kj
 have KG:=hide kg
 have HGR:=hide (fun W (k:Blk W g 116 G)=>(show W.rangeAt g (no*512) (sp.map byteV) from fun i u hu=>by rw [k.cell];exact hG i u hu))
 have HSI:=hide (show (Tryz.prog.info? 116).map (·.size)=some (sp.map byteV).length by rw [List.length_map,hsp];exact info_pg)
 have HS2:=hide (show (Tryz.prog.info? 116).map (·.size)=some (sp.map byteV).toArray.size by rw [List.size_toArray,List.length_map,hsp];exact info_pg)
 have HSP:=hide hsp
 have HPL:=hide hp
 have HLP:=hide hlp
 have a1:(no:Int)<n:=by omega
 have a0:(0:Int)≤no:=by omega
 clear kd kj hm kg ho hp hG hlp hsp junk hv hwf hjm hjg hjd hjr
 go_enter Tryz.func106,Tryz.ntmps106
 go_upto_region 0 with (fail)
 refine wp_region_inv_tail 16 [fun v _=>v= .pointer (some ⟨j,0,none⟩),fun v _=>v= .pointer (some ⟨j,0,none⟩),fun v _=>v= .pointer (some ⟨j,0,none⟩),fun v _=>v= .pointer (some ⟨j,0,none⟩),fun v _=>v= .pointer (some ⟨d,0,none⟩),fun v _=>v= .pointer (some ⟨d,0,none⟩),fun v _=>v= .pointer (some ⟨d,0,none⟩),fun v _=>v= .slice (some ⟨g,0,none⟩) n n,fun v _=>v= .pointer (some ⟨j,0,none⟩),fun v _=>v= .pointer (some ⟨j,0,none⟩),fun v _=>v= .pointer (some ⟨j,1,none⟩),fun v _=>v= .int .i64 (no:Nat),fun v _=>v= .pointer (some ⟨g,no*512,none⟩),fun v _=>v= .agg (sp.map byteV).toArray,fun v _=>v= .pointer (some ⟨j,0,none⟩),fun v _=>v= .pointer (some ⟨j,2,none⟩)] (by kernel_rfl) (by kernel_rfl) (by kernel_rfl) (by kernel_rfl) (by kernel_rfl) (by first|simp|decide) (by kernel_rfl) ?st ?steps ?fin
 case st=>
  intro i v W W' hWW h
  match i with
  |0|1|2|3|4|5|6|7|8|9|10|11|12|13|14|15=>exact h
  |(i+16)=>exact h
 case steps=>
  simp only [stepsT,List.take_succ_cons,List.take_zero]
  refine ⟨?_,?_,?_,?_,?_,?_,?_,?_,?_,?_,?_,?_,?_,?_,?_,?_,trivial⟩
  ·intro f W hbW hdp
   simp only [fS,Nat.reduceAdd]
   go_wp2
   exact ⟨rfl,_,rfl,rfl,Below.refl _ _⟩
  ·intro f W hbW hdp
   simp only [fS,Nat.reduceAdd]
   go_wp2
   exact ⟨rfl,_,rfl,rfl,Below.refl _ _⟩
  ·intro f W hbW hdp
   have e1:f 1= .pointer (some ⟨j,0,none⟩):=hdp ⟨1,.data⟩ (mfl (by simp) rfl)
   simp only [fS,Nat.reduceAdd,e1]
   go_wp2
   exact ⟨rfl,_,rfl,rfl,Below.refl _ _⟩
  ·intro f W hbW hdp
   have e2:f 2= .pointer (some ⟨j,0,none⟩):=hdp ⟨2,.data⟩ (mfl (by simp) rfl)
   simp only [fS,Nat.reduceAdd,e2]
   go_wp2
   exact ⟨rfl,_,rfl,rfl,Below.refl _ _⟩
  ·intro f W hbW hdp
   have e3:f 3= .pointer (some ⟨j,0,none⟩):=hdp ⟨3,.data⟩ (mfl (by simp) rfl)
   have q:W.cell? ⟨j,0,none⟩=some _:=(Blk.via hbW KJ.out).cell 0
   simp only [fS,Nat.reduceAdd,e3]
   go_wp2
   exact ⟨rfl,_,rfl,rfl,Below.refl _ _⟩
  ·intro f W hbW hdp
   have e4:f 4= .pointer (some ⟨d,0,none⟩):=hdp ⟨4,.data⟩ (mfl (by simp) rfl)
   simp only [fS,Nat.reduceAdd,e4]
   go_wp2
   exact ⟨rfl,_,rfl,rfl,Below.refl _ _⟩
  ·intro f W hbW hdp
   have e5:f 5= .pointer (some ⟨d,0,none⟩):=hdp ⟨5,.data⟩ (mfl (by simp) rfl)
   simp only [fS,Nat.reduceAdd,e5]
   go_wp2
   exact ⟨rfl,_,rfl,rfl,Below.refl _ _⟩
  ·intro f W hbW hdp
   have e6:f 6= .pointer (some ⟨d,0,none⟩):=hdp ⟨6,.data⟩ (mfl (by simp) rfl)
   have q:W.cell? ⟨d,0,none⟩=some _:=(Blk.via hbW KD.out).cell 0
   simp only [fS,Nat.reduceAdd,e6]
   go_wp2
   exact ⟨rfl,_,rfl,rfl,Below.refl _ _⟩
  ·intro f W hbW hdp
   simp only [fS,Nat.reduceAdd]
   go_wp2
   exact ⟨rfl,_,rfl,rfl,Below.refl _ _⟩
  ·intro f W hbW hdp
   have e8:f 8= .pointer (some ⟨j,0,none⟩):=hdp ⟨8,.data⟩ (mfl (by simp) rfl)
   simp only [fS,Nat.reduceAdd,e8]
   go_wp2
   exact ⟨rfl,_,rfl,rfl,Below.refl _ _⟩
  ·intro f W hbW hdp
   have e9:f 9= .pointer (some ⟨j,0,none⟩):=hdp ⟨9,.data⟩ (mfl (by simp) rfl)
   simp only [fS,Nat.reduceAdd,e9]
   go_wp2
   exact ⟨rfl,_,rfl,rfl,Below.refl _ _⟩
  ·intro f W hbW hdp
   have e10:f 10= .pointer (some ⟨j,1,none⟩):=hdp ⟨10,.data⟩ (mfl (by simp) rfl)
   have q:W.cell? ⟨j,1,none⟩=some _:=(Blk.via hbW KJ.out).cell 1
   simp only [fS,Nat.reduceAdd,e10]
   go_wp2
   exact ⟨rfl,_,rfl,rfl,Below.refl _ _⟩
  ·intro f W hbW hdp
   have e7:f 7= .slice (some ⟨g,0,none⟩) n n:=hdp ⟨7,.data⟩ (mfl (by simp) rfl)
   have e11:f 11= .int .i64 (no:Nat):=hdp ⟨11,.data⟩ (mfl (by simp) rfl)
   simp only [fS,Nat.reduceAdd,e7,e11]
   go_wp2
   exact ⟨rfl,_,rfl,rfl,Below.refl _ _⟩
  ·intro f W hbW hdp
   have e12:f 12= .pointer (some ⟨g,no*512,none⟩):=hdp ⟨12,.data⟩ (mfl (by simp) rfl)
   simp only [fS,Nat.reduceAdd,e12]
   refine wpList_load_mid rfl 116 (.tmp 15) rfl g (no*512) rfl (sp.map byteV) _ (HGR.out W (Blk.via hbW KG.out)) Tryz.underlying116 rfl HSI.out ?_
   exact ⟨rfl,_,rfl,rfl,Below.refl _ _⟩
  ·intro f W hbW hdp
   have e0:f 0= .pointer (some ⟨j,0,none⟩):=hdp ⟨0,.data⟩ (mfl (by simp) rfl)
   simp only [fS,Nat.reduceAdd,e0]
   go_wp2
   exact ⟨rfl,_,rfl,rfl,Below.refl _ _⟩
  ·intro f W hbW hdp
   have e14:f 14= .pointer (some ⟨j,0,none⟩):=hdp ⟨14,.data⟩ (mfl (by simp) rfl)
   simp only [fS,Nat.reduceAdd,e14]
   go_wp2
   exact ⟨rfl,_,rfl,rfl,Below.refl _ _⟩
 case fin=>
  intro f W hbW hA
  have e13:f 13= .agg (sp.map byteV).toArray:=hA 13 (by omega)
  have e15:f 15= .pointer (some ⟨j,2,none⟩):=hA 15 (by omega)
  simp only [List.drop_succ_cons,List.drop_zero,List.take_succ_cons,List.take_zero,fillF,Act.put,List.setIfInBounds_toArray,List.set_cons_succ,List.set_cons_zero,Nat.reduceAdd,e13,e15]
  clear hA e13 e15
  have kj1:=Blk.via hbW KJ.out
  have HT1:=hide (Turn.of_below (S:=fun q=>q=j) hbW)
  refine wpList_store_mid rfl 116 (.tmp 18) (.tmp 16) rfl j 2 (sp.map byteV).toArray rfl rfl (by rw [List.size_toArray,List.length_map,HSP.out];exact jobPg_there kj1 HPL.out) HS2.out (all_oneCell_toArray (bytes_one _)) ?_
  refine nameW (w:=World.setCells _ _ _ _) (R:=fun V=>wpList _ _ _ _ _ V) (fun W1 hW1=>?_)
  have hkj:Blk W1 j 182 (jobPg d no sp):=by
   rw [hW1, ← jobPg_set d no p sp HPL.out HSP.out]
   exact setCells_blk _ _ _ _ kj1
  have hT1:Turn (fun q=>q=j) w W1:=by
   rw [hW1]
   exact setCells_turn (S:=fun q=>q=j) rfl _ _ _ _ HT1.out
  have KJ1:=hide hkj
  have HTT:=hide hT1
  clear hW1 kj1 hbW hkj hT1
  go_upto_region 1 with (fail)
  refine wp_region_inv [fun v _=>v= .pointer (some ⟨j,0,none⟩),fun v _=>v= .pointer (some ⟨j,0,none⟩),fun v _=>v= .pointer (some ⟨j,0,none⟩),fun v _=>v= .pointer (some ⟨d,0,none⟩),fun v _=>v= .pointer (some ⟨d,0,none⟩),fun v _=>v= .pointer (some ⟨d,1,none⟩),fun v _=>v= .map (some m),fun v _=>v= .pointer (some ⟨j,0,none⟩),fun v _=>v= .pointer (some ⟨j,0,none⟩),fun v _=>v= .pointer (some ⟨j,1,none⟩),fun v _=>v= .int .i64 (no:Nat),fun v _=>v= .slice A n0 c,fun v _=>v= .slice A n0 c] (by kernel_rfl) (by kernel_rfl) (by kernel_rfl) ?st ?steps ?fin
  case st=>
   intro i v W W' hWW h
   match i with
   |0|1|2|3|4|5|6|7|8|9|10|11|12=>exact h
   |(i+13)=>exact h
  case steps=>
   simp only [stepsI]
   refine ⟨?_,?_,?_,?_,?_,?_,?_,?_,?_,?_,?_,?_,?_,trivial⟩
   ·intro f W hbW hdp
    simp only [fS,Nat.reduceAdd]
    go_wp2
    exact ⟨rfl,_,rfl,rfl,Below.refl _ _⟩
   ·intro f W hbW hdp
    have e0:f 0= .pointer (some ⟨j,0,none⟩):=hdp ⟨0,.data⟩ (mfl (by simp) rfl)
    simp only [fS,Nat.reduceAdd,e0]
    go_wp2
    exact ⟨rfl,_,rfl,rfl,Below.refl _ _⟩
   ·intro f W hbW hdp
    have e1:f 1= .pointer (some ⟨j,0,none⟩):=hdp ⟨1,.data⟩ (mfl (by simp) rfl)
    simp only [fS,Nat.reduceAdd,e1]
    go_wp2
    exact ⟨rfl,_,rfl,rfl,Below.refl _ _⟩
   ·intro f W hbW hdp
    have e2:f 2= .pointer (some ⟨j,0,none⟩):=hdp ⟨2,.data⟩ (mfl (by simp) rfl)
    have q:W.cell? ⟨j,0,none⟩=some _:=(Blk.via hbW KJ1.out).cell 0
    simp only [fS,Nat.reduceAdd,e2]
    go_wp2
    exact ⟨rfl,_,rfl,rfl,Below.refl _ _⟩
   ·intro f W hbW hdp
    have e3:f 3= .pointer (some ⟨d,0,none⟩):=hdp ⟨3,.data⟩ (mfl (by simp) rfl)
    simp only [fS,Nat.reduceAdd,e3]
    go_wp2
    exact ⟨rfl,_,rfl,rfl,Below.refl _ _⟩
   ·intro f W hbW hdp
    have e4:f 4= .pointer (some ⟨d,0,none⟩):=hdp ⟨4,.data⟩ (mfl (by simp) rfl)
    simp only [fS,Nat.reduceAdd,e4]
    go_wp2
    exact ⟨rfl,_,rfl,rfl,Below.refl _ _⟩
   ·intro f W hbW hdp
    have e5:f 5= .pointer (some ⟨d,1,none⟩):=hdp ⟨5,.data⟩ (mfl (by simp) rfl)
    have q:W.cell? ⟨d,1,none⟩=some _:=(HKD.out W (HTT.out.trans (Turn.of_below hbW))).cell 1
    simp only [fS,Nat.reduceAdd,e5]
    go_wp2
    exact ⟨rfl,_,rfl,rfl,Below.refl _ _⟩
   ·intro f W hbW hdp
    simp only [fS,Nat.reduceAdd]
    go_wp2
    exact ⟨rfl,_,rfl,rfl,Below.refl _ _⟩
   ·intro f W hbW hdp
    have e7:f 7= .pointer (some ⟨j,0,none⟩):=hdp ⟨7,.data⟩ (mfl (by simp) rfl)
    simp only [fS,Nat.reduceAdd,e7]
    go_wp2
    exact ⟨rfl,_,rfl,rfl,Below.refl _ _⟩
   ·intro f W hbW hdp
    have e8:f 8= .pointer (some ⟨j,0,none⟩):=hdp ⟨8,.data⟩ (mfl (by simp) rfl)
    simp only [fS,Nat.reduceAdd,e8]
    go_wp2
    exact ⟨rfl,_,rfl,rfl,Below.refl _ _⟩
   ·intro f W hbW hdp
    have e9:f 9= .pointer (some ⟨j,1,none⟩):=hdp ⟨9,.data⟩ (mfl (by simp) rfl)
    have q:W.cell? ⟨j,1,none⟩=some _:=(Blk.via hbW KJ1.out).cell 1
    simp only [fS,Nat.reduceAdd,e9]
    go_wp2
    exact ⟨rfl,_,rfl,rfl,Below.refl _ _⟩
   ·intro f W hbW hdp
    have e6:f 6= .map (some m):=hdp ⟨6,.data⟩ (mfl (by simp) rfl)
    have e10:f 10= .int .i64 (no:Nat):=hdp ⟨10,.data⟩ (mfl (by simp) rfl)
    have q:=HLK.out W (HTT.out.trans (Turn.of_below hbW))
    simp only [fS,Nat.reduceAdd,e6,e10]
    go_wp2
    exact ⟨rfl,_,rfl,rfl,Below.refl _ _⟩
   ·intro f W hbW hdp
    have e11:f 11= .slice A n0 c:=hdp ⟨11,.data⟩ (mfl (by simp) rfl)
    simp only [fS,Nat.reduceAdd,e11]
    go_wp2
    exact ⟨rfl,_,rfl,rfl,Below.refl _ _⟩
  case fin=>
   intro f W hbW hA
   have e12:f 12= .slice A n0 c:=hA 12 (by simp)
   show wpList Tryz.prog #[] (Exit.then _ _) [] _ _
   simp only [fS,Nat.reduceAdd,e12]
   clear hA e12
   have hT2:=HTT.out.trans (Turn.of_below hbW)
   have KJ2:=hide (Blk.via hbW KJ1.out)
   have HT2:=hide hT2
   have HR2:=hide (HKR.out W hT2)
   clear hbW hT2
   by_cases h0:n0=0
   ·subst h0
    go_wp2
    go_end0
    exact ⟨⟨_,rfl⟩,KJ2.out,HT2.out⟩
   ·obtain ⟨hl512,hlast⟩:=HLP.out h0
    obtain ⟨b,o',hA,hbB,hcell⟩:=(Reads.of_own HR2.out).plain (by omega) (by omega)
    subst hA
    have HN0:=hide h0
    have hrg:W.rangeAt b (o'+(n0-1)*512) (lp.map byteV):=fun i u hu=>by
     rw [Nat.add_assoc]
     exact hcell _ u (hlast i u hu)
    have HRG:=hide hrg
    have HLI:=hide (show (Tryz.prog.info? 116).map (·.size)=some (lp.map byteV).length by rw [List.length_map,hl512];exact info_pg)
    have HLS:=hide (show (Tryz.prog.info? 116).map (·.size)=some (lp.map byteV).toArray.size by rw [List.size_toArray,List.length_map,hl512];exact info_pg)
    have HL5:=hide hl512
    have hpos:(0:Int)<n0:=by omega
    have b1:(0:Int)≤(n0:Int)-1:=by omega
    have b2:(n0:Int)-1<n0:=by omega
    have b3:((n0:Int)-1).toNat=n0-1:=by omega
    clear hrg hlast hcell hl512 h0
    go_wp2_with (first
     |(refine wpList_load_mid rfl 116 (.tmp 39) rfl b (o'+(n0-1)*512) rfl (lp.map byteV) _ HRG.out Tryz.underlying116 rfl HLI.out ?_)
     |(refine wpList_store_mid rfl 116 (.tmp 42) (.tmp 40) rfl j 2 (lp.map byteV).toArray rfl rfl (by rw [List.size_toArray,List.length_map,HL5.out];exact jobPg_there KJ2.out HSP.out) HLS.out (all_oneCell_toArray (bytes_one _)) ?_))
    go_end0
    refine ⟨⟨_,rfl⟩,?_,setCells_turn (S:=fun q=>q=j) rfl _ _ _ _ HT2.out⟩
    rw [← jobPg_set d no sp lp HSP.out HL5.out]
    exact setCells_blk _ _ _ _ KJ2.out
end Go.Proofs.YtnkjkgmohmcobaaGreatDoor
namespace Go.Proofs.YtnkjkgmohmcobaaGreatDoor
open Go.RowKit
structure EntD where
 lsn:Int
 kind:Int
 txn:Int
structure TxD where
 id:Int
 first:Int
 last:Int
 kept:Int
structure TrD where
 tx:TxD
 did:Bool
 over:Bool
def tx1 (head:Int) (o:Option TrD) (e:EntD):TxD:=match o with
 |some t=>⟨t.tx.id,t.tx.first,e.lsn,t.tx.kept⟩
 |none=>⟨e.txn,head,e.lsn,0⟩
def did1 (o:Option TrD) (e:EntD):Bool:=(match o with|some t=>t.did|none=>false) || decide (e.kind=1∨e.kind=2)
def over1 (o:Option TrD) (e:EntD):Bool:=(match o with|some t=>t.over|none=>false) || decide (e.kind=3∨e.kind=4)
def tr1 (head:Int) (o:Option TrD) (e:EntD):TrD:=⟨tx1 head o e,did1 o e,over1 o e⟩
def stepM (st:Int × (Int→Option TrD)) (e:EntD):Int × (Int→Option TrD):=(e.lsn,fun t=>if t=e.txn then some (tr1 st.1 (st.2 t) e) else st.2 t)
def knownP (head:Int) (L:List EntD):Int × (Int→Option TrD):=L.foldl stepM (head,fun _=>none)
def known (head:Int) (L:List EntD):Int→Option TrD:=(knownP head L).2
end Go.Proofs.YtnkjkgmohmcobaaGreatDoor
namespace Go.Proofs.YtnkjkgmohmcobaaGreatDoor
open Go.RowKit Go.Shelf
attribute [local go_sem] Oper.semAt_some
theorem wAll_in (F:Fence) (n:Nat) (hf:F.fn 62) (hro:F.round=none) (l:Value) (hl:∃p,l= .pointer p) (w:World):
  CallsIn F n Tryz.prog 62 #[l] w fun e w'=>e= .returned (.func (.func 120) #[] #[.pointer (some ⟨w.heap.size,0,none⟩)])∧w'=w.alloc (.cells #[l] 78):=by
 obtain ⟨p,rfl⟩:=hl
 refine callsIn_of_wp Tryz.func62 rfl hf ?_ hro
 simp only [Tryz.ntmps62,List.size_toArray,List.length_cons,List.length_nil,Nat.reduceAdd,Nat.reduceSub,Array.replicate_succ,Array.replicate_zero,List.push_toArray,List.append_toArray,List.nil_append,List.cons_append]
 gi_wp2
 go_ret
 exact ⟨rfl,rfl⟩
end Go.Proofs.YtnkjkgmohmcobaaGreatDoor
namespace Go.Proofs.YtnkjkgmohmcobaaGreatDoor
open Go.RowKit Go.Shelf Go.Maps
attribute [local go_sem] Oper.semAt_some
theorem records_any (A:Option Addr) (c:Nat) (w:World):Calls Tryz.prog 116 #[.slice A 0 c] w fun e w'=>e= .returned (.func (.func 170) #[] #[.pointer (some ⟨w.heap.size,0,none⟩)])∧w'=w.alloc (.cells #[.slice A 0 c] 24):=by
 have hmf:∀(fn:Fn) (first cap:Array Value) (w:World),(Instr.makeFunc fn first cap).run Tryz.prog w= .ok (.func fn first cap) w:=fun _ _ _ _=>rfl
 go_enter Tryz.func116,Tryz.ntmps116
 go_wp2
 go_ret
 exact ⟨rfl,rfl⟩
theorem records1_in (n:Nat) (hn:1≤n) (lp Bl:Nat) (A:Option Addr) (c:Nat) (w:World) (hBl:Blk w Bl 24 #[.slice A 0 c]):
  CallsIn Fence.wide n Tryz.prog 170 #[.func (.yield lp) #[] #[],.pointer (some ⟨Bl,0,none⟩)] w fun e W'=>(∃v,e= .returned v)∧Below w.heap.size w W':=by
 have HG:=hide (fun W=>getNil_any A c W)
 have q0:w.cell? ⟨Bl,0,none⟩=some (.slice A 0 c):=hBl.cell 0
 have hX:recZ= #[.int .i64 0,.int .i64 0,.int .i64 0,.int .i64 0,.slice none 0 0,.int .i64 0,.string ⟨#[]⟩,.int .i64 0,.string ⟨#[]⟩,.int .i64 0,.slice none 0 0,.int .i64 0,.int .i64 0,.int .i64 0,.int .i64 0]:=rfl
 rw [hX] at HG
 clear hX
 refine callsIn_of_wp Tryz.func170 rfl trivial ?_ rfl
 simp only [Tryz.ntmps170,List.size_toArray,List.length_cons,List.length_nil,Nat.reduceAdd,Nat.reduceSub,Array.replicate_succ,Array.replicate_zero,List.push_toArray,List.append_toArray,List.nil_append,List.cons_append]
 gi_wp2
 refine wpIn_loop_rounds 1 ?_
 rw [roundsIn_succ]
 gi_upto_region 1 with (refine ⟨trivial,?_⟩;gi_at_call 171;refine (callsIn_wide.2 (HG.out _)).mono ?_;rintro e w1 ⟨rfl,hb1⟩)
 gi_wp2_with fail
 refine ⟨fun f hf=>(by cases hf),?_⟩
 gi_wp2_with fail
 exact bodyPost_ret (v:= .tuple #[]) (by simp [results,Tryz.results170,go_sem]) rfl ⟨⟨_,rfl⟩,hb1.alloc hb1.size _⟩
theorem gen4N {w:World} {c1 c2:Array Value} {t1 t2:TypeId} {R:World→Prop} (h:∀W,MapF W w.heap.size 0 (fun _=>none)→Blk W (w.heap.size+1) t1 c1→Blk W (w.heap.size+1+1) t2 c2→Below w.heap.size w W→w.heap.size+3=W.heap.size→R W):
  R (((w.alloc (.map #[] 0)).alloc (.cells c1 t1)).alloc (.cells c2 t2)):=by
 refine h _ ?_ ?_ ?_ ?_ (by simp)
 ·exact (MapF.start w).kept (by rw [Below.heap_alloc _ _ _ (by simp;omega),Below.heap_alloc _ _ _ (by simp)])
 ·exact ((by simpa using Blk.new (w.alloc (.map #[] 0)) t1 c1:Blk _ (w.heap.size+1) t1 c1).alloc _)
 ·exact (by simpa using Blk.new ((w.alloc (.map #[] 0)).alloc (.cells c1 t1)) t2 c2:Blk _ (w.heap.size+1+1) t2 c2)
 ·exact (((Below.refl _ _).alloc (Nat.le_refl _) _).alloc (by simp) _).alloc (by simp;omega) _
end Go.Proofs.YtnkjkgmohmcobaaGreatDoor
namespace Go.Proofs.YtnkjkgmohmcobaaGreatDoor
open Go.RowKit Go.Maps
theorem do1_fused (bd d:Nat) (o fu:Int) (w:World) (hfu:0<fu) (hfm:fu≤9223372036854775807) (hb:w.cell? ⟨bd,0,none⟩=some (.pointer (some ⟨d,0,none⟩))) (h9:w.cell? ⟨d,9,none⟩=some (.int .i64 o)) (h6:w.cell? ⟨d,6,none⟩=some (.bool true)) (h7:w.cell? ⟨d,7,none⟩=some (.int .i64 fu)) (f9:w.frozen? ⟨d,9,none⟩=false) (f7:w.frozen? ⟨d,7,none⟩=false) (_hbd:bd≠d):
  CallsD Tryz.prog 165 #[.pointer (some ⟨bd,0,none⟩)] .returning w fun e u' w'=>u'= .returning∧(e= .returned (.tuple #[])∧∃o',w'=(w.setCell ⟨d,9,none⟩ (.int .i64 o')).setCell ⟨d,7,none⟩ (.int .i64 (fu-1))):=by
 go_enter_d Tryz.func165,Tryz.ntmps165
 go_wp2
 go_end0
 exact ⟨rfl,_,rfl⟩
def doneW (fs:Bool) (d:Nat) (fu:Int) (W w':World):Prop:=∃o',w'=if fs=true then (W.setCell ⟨d,9,none⟩ (.int .i64 o')).setCell ⟨d,7,none⟩ (.int .i64 (fu-1)) else W.setCell ⟨d,9,none⟩ (.int .i64 o')
def DoRF (bd d:Nat) (fs:Bool) (fu:Int) (R:World→Prop):Prop:=∀W,R W→Blk W bd 77 #[.pointer (some ⟨d,0,none⟩)]∧∃cs o,Blk W d 113 cs∧cs[6]?=some (.bool fs)∧cs[7]?=some (.int .i64 fu)∧cs[9]?=some (.int .i64 o)
theorem doF_any (d F:Nat) (ja:Value) (cs:Array Value) (fs:Bool) (fu:Int) (R:World→Prop) (w:World) (k:Blk w d 113 cs) (h6:cs[6]?=some (.bool fs)) (h7:cs[7]?=some (.int .i64 fu)) (h8:cs[8]?=some (.bool false)) (hfu:fs=true→0<fu∧fu≤9223372036854775807)
  (hR:DoRF w.heap.size d fs fu R) (hcf:∀W,(callFunc F #[ja]).run Tryz.prog W= .ok (.enter F #[ja]) W) (hact:Calls Tryz.prog F #[ja] (w.alloc (.cells #[.pointer (some ⟨d,0,none⟩)] 77)) fun e w'=>(∃v,e= .returned v)∧R w'):
  Calls Tryz.prog 101 #[.pointer (some ⟨d,0,none⟩),.bool true,.func (.func F) #[ja] #[]] w fun e w'=>e= .returned (.int .i64 0)∧∃W,R W∧doneW fs d fu W w':=by
 cases fs
 ·refine (do_any d F ja cs R w k h6 h8 (fun W hW=>?_) hcf hact).mono ?_
  ·obtain ⟨h1,cs2,o,h2,h3,_,h4⟩:=hR W hW
   exact ⟨h1,cs2,o,h2,h3,h4⟩
  ·rintro e w' ⟨he,W,o',hW,hw⟩
   exact ⟨he,W,hW,o',hw⟩
 have hmf:∀(fn:Fn) (first cap:Array Value) (w:World),(Instr.makeFunc fn first cap).run Tryz.prog w= .ok (.func fn first cap) w:=fun _ _ _ _=>rfl
 have c6:w.cell? ⟨d,6,none⟩=some (.bool true):=(k.cell 6).trans h6
 have c7:w.cell? ⟨d,7,none⟩=some (.int .i64 fu):=(k.cell 7).trans h7
 have c8:w.cell? ⟨d,8,none⟩=some (.bool false):=(k.cell 8).trans h8
 have hdl:=k.lt
 have hf0:=(hfu rfl).1
 have hfb:(fu==0)=false:=by rw [beq_eq_false_iff_ne];omega
 have HFU:=hide (hfu rfl)
 have HA:=hide hact
 have HR:=hide hR
 clear hact hR k h6 h7 h8 hfu hf0
 go_enter_defers Tryz.func101,Tryz.ntmps101
 go_wp2_with fail
 refine HA.out.mono ?_
 rintro e w2 ⟨⟨v,rfl⟩,hR2⟩
 obtain ⟨kb,cs2,o2,kd,g6,g7,g9⟩:=HR.out w2 hR2
 have HKB:=hide kb
 have HKD:=hide kd
 have HG6:=hide g6
 have HG7:=hide g7
 have HG9:=hide g9
 have HRR:=hide hR2
 have hne:=hide (kb.ne_ kd (by decide))
 clear kb kd g6 g7 g9 hR2
 go_wp2_with fail
 refine leaves_cons (f:=165) (args:=#[.pointer (some ⟨w.heap.size,0,none⟩)]) (by simp) (by simp [go_sem]) ?_
 refine (do1_fused w.heap.size d o2 fu w2 HFU.out.1 HFU.out.2 (HKB.out.cell 0) ((HKD.out.cell 9).trans HG9.out) ((HKD.out.cell 6).trans HG6.out) ((HKD.out.cell 7).trans HG7.out) (HKD.out.frozen 9) (HKD.out.frozen 7) hne.out).mono ?_
 rintro e u' w'' ⟨rfl,rfl,o',rfl⟩
 exact ⟨_,results_tmp rfl _ _ _,rfl,w2,HRR.out,o',rfl⟩
theorem devHas_any (d no n:Nat) (A:Option Addr) (c:Nat) (cs:Array Value) (w:World) (k:Blk w d 113 cs) (h0:cs[0]?=some (.slice A n c)) (hno:no<n):
  Calls Tryz.prog 102 #[.pointer (some ⟨d,0,none⟩),.int .i64 (no:Nat)] w fun e w'=>e= .returned (.bool true)∧w'=w:=by
 have c0:w.cell? ⟨d,0,none⟩=some (.slice A n c):=(k.cell 0).trans h0
 have l0:=k.lt
 have a0:(0:Int)≤no:=by omega
 have a1:(no:Int)<n:=by omega
 clear k h0
 go_enter Tryz.func102,Tryz.ntmps102
 go_wp2
 go_ret
 exact ⟨rfl,rfl⟩
end Go.Proofs.YtnkjkgmohmcobaaGreatDoor
namespace Go.Proofs.YtnkjkgmohmcobaaGreatDoor
open Go.RowKit Go.Maps
theorem wpList_build_of {P:Program} {ops:Array Oper} {rest:List Oper} {o:Oper} {a:Act} {w:World} {Q:Exit→Act→World→Prop} (hgd:o.guard=none) (t:TypeId) (parts:Array (Nat × Operand)) (ho:o.op= .build t parts) (ps:Array (Nat × Value)) (hps:(parts.map fun (i,x)=>(i,a.eval x))=ps)
  (v:Value) (hrun:(Instr.build t ps).run P w= .ok v w) (h:wpList P ops Q rest (a.put o.dst v) w):wpList P ops Q (o::rest) a w:=
 wpList_plain hgd fun _ hK=>by
  unfold Oper.wp execOp
  simp only [ho,hps,hrun,Sem.run_bind,Result.andThen_ok]
  exact hK _ _ h
theorem job_zero (d:Nat) (no:Int):(Tryz.zeroCells182.setIfInBounds 0 (.pointer (some ⟨d,0,none⟩))).setIfInBounds 1 (.int .i64 no)=jobPg d no (List.replicate 512 0):=by rfl
theorem fill_cons (place:Nat→Option (Nat × Nat)) (cells:Array Value) (i off size:Nat) (v:Value) (rest:List (Nat × Value)) (hp:place i=some (off,size)) (hs:v.cells.size=size) (hf:off+size≤cells.size):Instr.fill place cells ((i,v)::rest)=Instr.fill place (setL cells off v.cells.toList) rest:=by
 have h2:¬((decide (v.cells.size≠size) || decide (off+v.cells.size>cells.size))=true):=by
  rw [hs]
  simp
  exact hf
 have h3:v.cells.zipIdx.foldl (fun cs x=>cs.setIfInBounds (off+x.2) x.1) cells=setL cells off v.cells.toList:=by
  rw [← fold_setL, ← Array.foldl_toList,Array.toList_zipIdx]
  have:∀(l:List Value) (o:Nat) (cs:Array Value),(l.zipIdx o).foldl (fun cs x=>cs.setIfInBounds (off+x.2) x.1) cs=(l.zipIdx (off+o)).foldl (fun cs x=>cs.setIfInBounds x.2 x.1) cs:=by
   intro l
   induction l with
   |nil=>intro o cs;rfl
   |cons x l ih=>intro o cs;exact ih (o+1) _
  exact this _ 0 cells
 rw [Instr.fill,hp]
 simp only
 rw [if_neg h2,h3]
theorem job_zeroV:(Tryz.prog.info? 182).map (·.zero)=some (some (.agg Tryz.zeroCells182)):=by kernel_rfl
theorem job_places:(#[{name:= "d",type:=77,offset:=0,embedded:=false,tag:= "",pkgPath:= "moneyer/dev",byteOffset:=0}, {name:= "at",type:=3,offset:=1,embedded:=false,tag:= "",pkgPath:= "moneyer/dev",byteOffset:=8}, {name:= "page",type:=116,offset:=2,embedded:=false,tag:= "",pkgPath:= "moneyer/dev",byteOffset:=16}, {name:= "b",type:=24,offset:=514,embedded:=false,tag:= "",pkgPath:= "moneyer/dev",byteOffset:=528}]:Array Field).toList.mapM (fun f=>(Tryz.prog.info? f.type).map fun i=>(f.offset,i.size))=some [(0,1),(1,1),(2,512),(514,1)]:=by kernel_rfl
theorem run_build_job (d:Nat) (no:Int) (p:List UInt8) (hp:p.length=512) (W:World):(Instr.build 182 #[(0,.pointer (some ⟨d,0,none⟩)),(1,.int .i64 no),(2,.agg (p.map byteV).toArray)]).run Tryz.prog W= .ok (.agg (jobPg d no p)) W:=by
 have h:Instr.fill (#[(0,1),(1,1),(2,512),(514,1)][·]?) Tryz.zeroCells182 [(0,.pointer (some ⟨d,0,none⟩)),(1,.int .i64 no),(2,.agg (p.map byteV).toArray)]=some (jobPg d no p):=by
  rw [fill_cons _ _ 0 0 1 _ _ rfl rfl (by rw [zeros_job];decide)]
  rw [fill_cons _ _ 1 1 1 _ _ rfl rfl (by show 1+1≤(Tryz.zeroCells182.setIfInBounds 0 _).size;rw [Array.size_setIfInBounds,zeros_job];decide)]
  rw [fill_cons _ _ 2 2 512 _ _ rfl (by show (p.map byteV).toArray.size=512;simp [hp]) (by show 2+512≤((Tryz.zeroCells182.setIfInBounds 0 _).setIfInBounds 1 _).size;rw [Array.size_setIfInBounds,Array.size_setIfInBounds,zeros_job];decide)]
  show some (setL ((Tryz.zeroCells182.setIfInBounds 0 (.pointer (some ⟨d,0,none⟩))).setIfInBounds 1 (.int .i64 no)) 2 (p.map byteV))=_
  rw [job_zero,jobPg_set d no _ p (by simp) hp]
 refine run_build W _ _ _ ?_
 obtain ⟨it,hit,hz⟩:=Option.map_eq_some_iff.1 job_zeroV
 unfold Program.built
 rw [hit,Tryz.underlying182]
 simp only [hz]
 rw [job_places]
 exact h
end Go.Proofs.YtnkjkgmohmcobaaGreatDoor
namespace Go.Proofs.YtnkjkgmohmcobaaGreatDoor
open Go.RowKit Go.Maps
def nilS:Value:= .slice none 0 0
structure DevS (w:World) (d g m n:Nat) (fs:Bool) (fuse:Int) (lv:Value) (stale head sure:Int) (safe:List (List UInt8)) (k:Nat) (mf:Int→Option Value) (wr:Nat→List (List UInt8)):Prop where
 kd:∃o,Blk w d 113 (devF fs (.slice (some ⟨g,0,none⟩) n n) (.map (some m)) lv stale head sure fuse o)
 kg:Blk w g 116 (safe.flatMap (fun p=>p.map byteV)).toArray
 sn:safe.length=n
 sl:∀p∈safe,p.length=512
 hm:MapF w m k mf
 wl:∀i,∀p∈wr i,p.length=512
 fw:∀i:Nat,w.ownsRow 0 116 512 ((mf i).getD (.slice none 0 0)) (wr i).length ((wr i).flatMap (fun p=>p.map byteV))
 gw:∀i:Nat,((mf i).getD (.slice none 0 0)).ownBlock≠some g
 ap:∀i j:Nat,i≠j→∀q,((mf i).getD (.slice none 0 0)).ownBlock=some q→((mf j).getD (.slice none 0 0)).ownBlock≠some q
def DevB (d g m:Nat) (mf:Int→Option Value) (q:Nat):Prop:=q=d∨q=g∨q=m∨∃i:Nat,((mf i).getD (.slice none 0 0)).ownBlock=some q
section
variable {w w':World} {d g m n:Nat} {fs:Bool} {fuse:Int} {lv:Value} {stale head sure:Int} {safe:List (List UInt8)} {k:Nat} {mf:Int→Option Value} {wr:Nat→List (List UInt8)}
theorem DevS.keep (h:DevS w d g m n fs fuse lv stale head sure safe k mf wr) {S:Nat→Prop} (ht:Turn S w w') (hn:∀q,DevB d g m mf q→¬S q):DevS w' d g m n fs fuse lv stale head sure safe k mf wr:=by
 obtain ⟨o,kd⟩:=h.kd
 exact ⟨⟨o,ht.blk kd (hn _ (.inl rfl))⟩,ht.blk h.kg (hn _ (.inr (.inl rfl))),h.sn,h.sl,ht.map h.hm (hn _ (.inr (.inr (.inl rfl)))),h.wl,
  fun i=>row_keep (h.fw i) (fun q hq=>ht.block q (World.ownsRow.lt (h.fw i) q hq).2 (hn _ (.inr (.inr (.inr ⟨i,hq⟩))))),h.gw,h.ap⟩
theorem DevS.via (h:DevS w d g m n fs fuse lv stale head sure safe k mf wr) (hb:Below w.heap.size w w'):DevS w' d g m n fs fuse lv stale head sure safe k mf wr:=
 h.keep (S:=fun _=>False) (Turn.of_below hb) (fun _ _ h=>h)
theorem DevS.turnd (h:DevS w d g m n fs fuse lv stale head sure safe k mf wr) {fs':Bool} {fuse':Int} (ht:Turn (fun q=>q=d) w w') (kd':∃o,Blk w' d 113 (devF fs' (.slice (some ⟨g,0,none⟩) n n) (.map (some m)) lv stale head sure fuse' o)):DevS w' d g m n fs' fuse' lv stale head sure safe k mf wr:=by
 obtain ⟨o,kd⟩:=h.kd
 exact ⟨kd',ht.blk h.kg (h.kg.ne_ kd (by decide)),h.sn,h.sl,ht.map h.hm (fun e=>h.hm.ne kd e.symm),h.wl,
  fun i=>row_keep (h.fw i) (fun q hq=>ht.block q (World.ownsRow.lt (h.fw i) q hq).2 (fun e=>row_ne (h.fw i) kd (by decide) (by rw [hq,e]))),h.gw,h.ap⟩
theorem DevS.lt (h:DevS w d g m n fs fuse lv stale head sure safe k mf wr) (q:Nat) (hq:DevB d g m mf q):q<w.heap.size:=by
 obtain ⟨o,kd⟩:=h.kd
 rcases hq with rfl|rfl|rfl|⟨i,hi⟩
 ·exact kd.lt
 ·exact h.kg.lt
 ·exact h.hm.lt
 ·exact (World.ownsRow.lt (h.fw i) q hi).2
end
theorem flat_snoc (l:List (List UInt8)) (p:List UInt8):(l++[p]).flatMap (fun p=>p.map byteV)=l.flatMap (fun p=>p.map byteV)++p.map byteV:=by simp
def WroteP (w:World) (d g m n:Nat) (fs:Bool) (fuse:Int) (lv:Value) (stale head sure:Int) (safe:List (List UInt8)) (k:Nat) (mf:Int→Option Value) (wr:Nat→List (List UInt8)) (no:Nat) (p:List UInt8) (w':World):Prop:=
 ∃v',DevS w' d g m n fs fuse lv stale head sure safe (k+1) (fun q=>if q=(no:Int) then some v' else mf q) (fun i=>if i=no then wr no++[p] else wr i)∧Turn (DevB d g m mf) w w'∧(v'.ownBlock=((mf no).getD (.slice none 0 0)).ownBlock∨∃q,v'.ownBlock=some q∧w.heap.size≤q)
theorem WroteP.blocks {mf:Int→Option Value} {d g m no:Nat} {v':Value} {L:Nat} (h:v'.ownBlock=((mf no).getD (.slice none 0 0)).ownBlock∨∃q,v'.ownBlock=some q∧L≤q) (q:Nat) (hq:DevB d g m (fun q=>if q=(no:Int) then some v' else mf q) q):DevB d g m mf q∨L≤q:=by
 rcases hq with h1|h1|h1|⟨i,hi⟩
 ·exact .inl (.inl h1)
 ·exact .inl (.inr (.inl h1))
 ·exact .inl (.inr (.inr (.inl h1)))
 ·dsimp only at hi
  by_cases hin:(i:Int)=no
  ·rw [if_pos hin,Option.getD_some] at hi
   rcases h with h|⟨q',h,hl⟩
   ·rw [hi] at h
    exact .inl (.inr (.inr (.inr ⟨no,h.symm⟩)))
   ·rw [hi] at h
    injection h with h
    subst h
    exact .inr hl
  ·rw [if_neg hin] at hi
   exact .inl (.inr (.inr (.inr ⟨i,hi⟩)))
theorem DevS.wrote {w w':World} {d g m n:Nat} {fs:Bool} {fuse:Int} {lv:Value} {stale head sure:Int} {safe:List (List UInt8)} {k:Nat} {mf:Int→Option Value} {wr:Nat→List (List UInt8)} (h:DevS w d g m n fs fuse lv stale head sure safe k mf wr) (no:Nat) (p:List UInt8) (hp:p.length=512)
  (hw:JobW w m k mf no ((mf no).getD (.slice none 0 0)) (wr no).length ((wr no).flatMap (fun p=>p.map byteV)) p w'):WroteP w d g m n fs fuse lv stale head sure safe k mf wr no p w':=by
 obtain ⟨v',hm',ho',hloc,ht⟩:=hw
 obtain ⟨o,kd⟩:=h.kd
 have hne:∀q,q≠m→(∀z,((mf no).getD (.slice none 0 0)).ownBlock=some z→z≠q)→¬(q=m∨some q=((mf no).getD (.slice none 0 0)).ownBlock):=by
  rintro q h1 h2 (h3|h3)
  ·exact h1 h3
  ·exact h2 q h3.symm rfl
 have hgm:g≠m:=h.hm.ne h.kg
 have hdm:d≠m:=h.hm.ne kd
 have hgo:∀z,((mf no).getD (.slice none 0 0)).ownBlock=some z→z≠g:=fun z hz e=>h.gw no (e▸hz)
 have hdo:∀z,((mf no).getD (.slice none 0 0)).ownBlock=some z→z≠d:=fun z hz e=>row_ne (h.fw no) kd (by decide) (by rw [hz,e])
 refine ⟨v',⟨⟨o,ht.blk kd (hne d hdm hdo)⟩,ht.blk h.kg (hne g hgm hgo),h.sn,h.sl,hm',?_,?_,?_,?_⟩,ht.mono ?_,hloc⟩
 ·intro i q hq
  by_cases hi:i=no
  ·rw [if_pos hi] at hq
   rcases List.mem_append.1 hq with hq|hq
   ·exact h.wl no q hq
   ·rw [List.mem_singleton] at hq
    rw [hq]
    exact hp
  ·rw [if_neg hi] at hq
   exact h.wl i q hq
 ·intro i
  by_cases hi:i=no
  ·subst hi
   rw [if_pos rfl,if_pos rfl,flat_snoc,List.length_append,Option.getD_some]
   exact ho'
  ·rw [if_neg hi,if_neg (fun e=>hi (by omega))]
   refine row_keep (h.fw i) (fun q hq=>ht.block q (World.ownsRow.lt (h.fw i) q hq).2 (hne q ?_ (fun z hz e=>h.ap no i (Ne.symm hi) z hz (e▸hq))))
   intro e
   exact row_nem (h.fw i) h.hm (by rw [hq,e])
 ·intro i
  by_cases hi:(i:Int)=no
  ·rw [if_pos hi,Option.getD_some]
   rcases hloc with hl|⟨q,hl,hq⟩
   ·rw [hl];exact h.gw no
   ·rw [hl]
    intro e
    injection e with e
    have:=h.kg.lt
    omega
  ·rw [if_neg hi]
   exact h.gw i
 ·intro i j hij q hq
  by_cases hi:(i:Int)=no
  ·have hj:¬(j:Int)=no:=by omega
   rw [if_pos hi,Option.getD_some] at hq
   rw [if_neg hj]
   rcases hloc with hl|⟨z,hl,hz⟩
   ·rw [hl] at hq
    exact h.ap no j (by omega) q hq
   ·rw [hl] at hq
    injection hq with hq
    intro e
    have:=(World.ownsRow.lt (h.fw j) q e).2
    omega
  ·rw [if_neg hi] at hq
   by_cases hj:(j:Int)=no
   ·rw [if_pos hj,Option.getD_some]
    rcases hloc with hl|⟨z,hl,hz⟩
    ·rw [hl]
     exact h.ap i no (by omega) q hq
    ·rw [hl]
     intro e
     injection e with e
     have:=(World.ownsRow.lt (h.fw i) q hq).2
     omega
   ·rw [if_neg hj]
    exact h.ap i j hij q hq
 ·rintro q _ (h1|h1)
  ·exact .inr (.inr (.inl h1))
  ·exact .inr (.inr (.inr ⟨no,h1.symm⟩))
theorem devWrite_any (w:World) (d g m n:Nat) (lv:Value) (stale head sure:Int) (safe:List (List UInt8)) (k:Nat) (mf:Int→Option Value) (wr:Nat→List (List UInt8)) (no:Nat) (p:List UInt8) (fuse:Int)
  (h:DevS w d g m n false fuse lv stale head sure safe k mf wr) (hno:no<n) (hn:n≤1024) (hk:k≤1000000) (hw:(wr no).length≤1000000) (hp:p.length=512):
  Calls Tryz.prog 55 #[.pointer (some ⟨d,0,none⟩),.int .i64 (no:Nat),pgV p] w fun e w'=>e= .returned (.int .i64 0)∧WroteP w d g m n false fuse lv stale head sure safe k mf wr no p w':=by
 have hmf:∀(fn:Fn) (first cap:Array Value) (w:World),(Instr.makeFunc fn first cap).run Tryz.prog w= .ok (.func fn first cap) w:=fun _ _ _ _=>rfl
 have HS:=hide h
 have hBJ:=run_build_job d (no:Int) p hp
 obtain ⟨J,hJ⟩:∃J,J=jobPg d (no:Int) p:=⟨_,rfl⟩
 rw [← hJ] at hBJ
 have HJ:=hide hJ
 have HPL:=hide hp
 have hsz:J.size=515:=by rw [hJ];exact jobPg_size _ _ _ hp
 have h1c:J.all (·.oneCell')=true:=by
  rw [hJ]
  refine all_oneCell_toArray ?_
  intro v hv
  simp only [List.mem_cons,List.mem_append] at hv
  rcases hv with rfl|rfl|hv|hv
  ·rfl
  ·rfl
  ·exact bytes_one _ v hv
  ·simp at hv
   rw [hv]
   rfl
 have HII:=hide (show (Tryz.prog.info? 182).map (·.size)=some J.size by rw [hsz];exact info_job)
 have HZ:=hide (show Tryz.zeroCells182.size=J.size by rw [hsz];exact zeros_job)
 have H1:=hide h1c
 have HPI:=hide (show (Tryz.prog.info? 116).map (·.size)=some ((p.map byteV).toArray).size by rw [pg_size p hp];exact info_pg)
 unfold pgV
 generalize hX:(p.map byteV).toArray=X at*
 have HB:=hide hBJ
 clear h hJ hBJ hsz h1c hX hp
 go_enter Tryz.func55,Tryz.ntmps55
 go_upto_region 3 with (fail)
 refine gen1 (R:=fun W=>Code.wp _ _ _ _ W) (fun W1 kB hb1 hz1=>?_)
 have HKB:=hide kB
 have HB1:=hide hb1
 clear kB hb1
 go_wp2_with (first
  |(refine wpList_load_row rfl 116 (.tmp 5) rfl w.heap.size rfl 116 X (0,0) _ HKB.out Tryz.underlying116 rfl HPI.out ?_)
  |(refine wpList_build_of rfl 182 _ rfl #[(0,.pointer (some ⟨d,0,none⟩)),(1,.int .i64 (no:Nat)),(2,.agg X)] (by simp only [List.map_toArray,List.map_cons,List.map_nil];rfl) (.agg J) (HB.out _) ?_)
  |(refine wpList_store_row rfl 182 (.tmp 7) (.tmp 13) rfl W1.heap.size J rfl rfl 182 _ (Blk.new W1 _ _) HII.out HZ.out H1.out ?_))
 refine nameW (w:=World.setRow _ W1.heap.size J) (R:=fun W=>Calls Tryz.prog _ _ W _) (fun W2 hW2=>?_)
 have kj2:Blk W2 W1.heap.size 182 J:=by
  rw [hW2]
  exact setRow_heap _ W1.heap.size _ _ _ _ (Blk.new W1 _ _)
 have hb2:Below W1.heap.size W1 W2:=by
  rw [hW2]
  exact (touch_setRow _ W1.heap.size J).below ((Below.refl W1.heap.size W1).alloc (Nat.le_refl _) _) (Nat.le_refl _)
 have hl2:Below w.heap.size w W2:=HB1.out.trans (hb2.mono HB1.out.size)
 have hs2:=HS.out.via hl2
 have hz2:=kj2.lt
 have hz1':=HB1.out.size
 obtain ⟨o,kd2⟩:=hs2.kd
 have hdl:d<w.heap.size:=by obtain ⟨o',kd⟩:=HS.out.kd;exact kd.lt
 clear hW2
 refine (devHas_any d no n _ n _ W2 kd2 rfl hno).mono ?_
 rintro e w' ⟨rfl,hw'⟩
 obtain rfl:=hw'.symm
 go_wp2_with fail
 have hb4:Below W2.heap.size W2 (W2.alloc (.cells #[.pointer (some ⟨d,0,none⟩)] 77)):=(Below.refl _ _).alloc (Nat.le_refl _) _
 have hs4:=hs2.via hb4
 obtain ⟨o4,kd4⟩:=hs4.kd
 have kb4:=Blk.new W2 77 #[.pointer (some ⟨d,0,none⟩)]
 have hact:=jobWrite_any W1.heap.size d m k no mf p false (.slice (some ⟨g,0,none⟩) n n) lv stale head sure fuse o4 (wr no).length ((wr no).flatMap (fun p=>p.map byteV)) (W2.alloc (.cells #[.pointer (some ⟨d,0,none⟩)] 77)) HPL.out (by omega) hk hw kd4 (HJ.out▸Blk.via hb4 kj2) hs4.hm (hs4.fw no)
 have hR:DoRF W2.heap.size d false fuse (fun W=>WroteP (W2.alloc (.cells #[.pointer (some ⟨d,0,none⟩)] 77)) d g m n false fuse lv stale head sure safe k mf wr no p W):=by
  rintro W ⟨v',g1,g2,g3⟩
  obtain ⟨o5,kd5⟩:=g1.kd
  refine ⟨g2.blk kb4 (fun hq=>?_),_,o5,kd5,rfl,rfl,rfl⟩
  have:=hs2.lt _ hq
  omega
 have hact':Calls Tryz.prog 103 #[.pointer (some ⟨W1.heap.size,0,none⟩)] (W2.alloc (.cells #[.pointer (some ⟨d,0,none⟩)] 77)) (fun e w'=>(∃v,e= .returned v)∧WroteP (W2.alloc (.cells #[.pointer (some ⟨d,0,none⟩)] 77)) d g m n false fuse lv stale head sure safe k mf wr no p w'):=Calls.mono hact (fun e w' h=>⟨h.1,hs4.wrote no p HPL.out h.2⟩)
 have HD:=hide (doF_any d 103 (.pointer (some ⟨W1.heap.size,0,none⟩)) _ false fuse _ W2 kd2 rfl rfl rfl (fun h=>by cases h) hR (fun W=>by simp [go_sem]) hact')
 have HF:=hide (show ∀w',(∃W,WroteP (W2.alloc (.cells #[.pointer (some ⟨d,0,none⟩)] 77)) d g m n false fuse lv stale head sure safe k mf wr no p W∧doneW false d fuse W w')→WroteP w d g m n false fuse lv stale head sure safe k mf wr no p w' from by
  rintro w' ⟨W,⟨v',g1,g2,g3⟩,o',hw'⟩
  obtain rfl:w'=W.setCell ⟨d,9,none⟩ (.int .i64 o'):=hw'
  obtain ⟨o5,kd5⟩:=g1.kd
  refine ⟨v',g1.turnd (Turn.set (S:=fun q=>q=d) (Turn.of_below (Below.refl _ _)) (p:=⟨d,9,none⟩) (.inl rfl) _) ⟨o',kd5.set_ 9 _⟩,Turn.set (S:=DevB d g m mf) ((Turn.of_below hl2).trans ((Turn.of_below hb4).trans g2)) (p:=⟨d,9,none⟩) (.inl (.inl rfl)) _,g3.imp id (fun ⟨q,h1,h2⟩=>⟨q,h1,?_⟩)⟩
  simp at h2
  omega)
 clear hact hact' hR kb4 kd4 hs4 hb4 kd2 hs2 hl2 hb2 kj2
 refine HD.out.mono ?_
 rintro e w' ⟨rfl,hw'⟩
 have HL:=hide (HF.out w' hw')
 clear hw'
 go_wp2
 go_ret
 exact ⟨rfl,HL.out⟩
end Go.Proofs.YtnkjkgmohmcobaaGreatDoor
namespace Go.Proofs.YtnkjkgmohmcobaaGreatDoor
open Go.RowKit Go.Maps
def pgOf (safe:List (List UInt8)) (wr:Nat→List (List UInt8)) (no:Nat):List UInt8:=if (wr no).length=0 then safe.getD no [] else (wr no).getD ((wr no).length-1) []
theorem flat_pages {l:List (List UInt8)} (h:∀p∈l,p.length=512) {i:Nat} {p:List UInt8} (hi:l[i]?=some p):∀(j:Nat) u,(p.map byteV)[j]?=some u→(l.flatMap (fun p=>p.map byteV))[i*512+j]?=some u:=by
 induction l generalizing i with
 |nil=>simp at hi
 |cons q t ih=>
  intro j u hu
  have hq:(q.map byteV).length=512:=by rw [List.length_map];exact h q List.mem_cons_self
  have hj:j<512:=by
   have:=(List.getElem?_eq_some_iff.1 hu).1
   rw [List.length_map] at this
   have h2:=h p (List.mem_of_getElem? hi)
   omega
  rw [List.flatMap_cons]
  cases i with
  |zero=>
   obtain rfl:q=p:=by simpa using hi
   rw [Nat.zero_mul,Nat.zero_add,List.getElem?_append_left (by omega)]
   exact hu
  |succ i=>
   rw [List.getElem?_append_right (by omega),show (i+1)*512+j-(q.map byteV).length=i*512+j by omega]
   exact ih (fun p hp=>h p (List.mem_cons_of_mem _ hp)) (by simpa using hi) j u hu
theorem pgOf_length {w:World} {d g m n:Nat} {fs:Bool} {fuse:Int} {lv:Value} {stale head sure:Int} {safe:List (List UInt8)} {k:Nat} {mf:Int→Option Value} {wr:Nat→List (List UInt8)} (h:DevS w d g m n fs fuse lv stale head sure safe k mf wr) {no:Nat} (hno:no<n):(pgOf safe wr no).length=512:=by
 unfold pgOf
 split
 ·have hl:no<safe.length:=by rw [h.sn];exact hno
  rw [List.getD_eq_getElem?_getD,List.getElem?_eq_getElem hl]
  exact h.sl _ (List.getElem_mem _)
 ·rename_i h0
  have hl:(wr no).length-1<(wr no).length:=by omega
  rw [List.getD_eq_getElem?_getD,List.getElem?_eq_getElem hl]
  exact h.wl no _ (List.getElem_mem _)
def ReadD (w:World) (d g m n:Nat) (fs:Bool) (fuse:Int) (lv:Value) (stale head sure:Int) (safe:List (List UInt8)) (k:Nat) (mf:Int→Option Value) (wr:Nat→List (List UInt8)) (w':World):Prop:=
 DevS w' d g m n fs (if fs=true then fuse-1 else fuse) lv stale head sure safe k mf wr∧Turn (fun q=>q=d) w w'
theorem doneW.turn {fs:Bool} {d:Nat} {fu:Int} {W w':World} (h:doneW fs d fu W w'):Turn (fun q=>q=d) W w':=by
 obtain ⟨o',rfl⟩:=h
 split
 ·exact Turn.set (S:=fun q=>q=d) (Turn.set (S:=fun q=>q=d) (Turn.of_below (Below.refl _ _)) (p:=⟨d,9,none⟩) (.inl rfl) _) (p:=⟨d,7,none⟩) (.inl rfl) _
 ·exact Turn.set (S:=fun q=>q=d) (Turn.of_below (Below.refl _ _)) (p:=⟨d,9,none⟩) (.inl rfl) _
theorem doneW.dev {fs:Bool} {d:Nat} {fu:Int} {W w':World} {sv mv lv:Value} {stale head sure o:Int} (h:doneW fs d fu W w') (k:Blk W d 113 (devF fs sv mv lv stale head sure fu o)):∃o',Blk w' d 113 (devF fs sv mv lv stale head sure (if fs=true then fu-1 else fu) o'):=by
 obtain ⟨o',rfl⟩:=h
 cases fs
 ·exact ⟨o',k.set_ 9 _⟩
 ·exact ⟨o',(k.set_ 9 (.int .i64 o')).set_ 7 (.int .i64 (fu-1))⟩
theorem Turn.setRow {S:Nat→Prop} {a w:World} (h:Turn S a w) {g:Nat} (hg:a.heap.size≤g) (cs:Array Value):Turn S a (w.setRow g cs):=
 have t:=touch_setRow w g cs
 ⟨t.os.trans h.os,t.tape.trans h.tape,t.output.trans h.output,by rw [t.size];exact h.size,fun k hk hn=>(t.block k (.inl (by omega))).trans (h.block k hk hn)⟩
theorem Turn.then_new {S:Nat→Prop} {a b c:World} {r:Nat} (h:Turn S a b) (k:Turn (fun q=>q=r) b c) (hr:a.heap.size≤r):Turn S a c:=
 ⟨k.os.trans h.os,k.tape.trans h.tape,k.output.trans h.output,Nat.le_trans h.size k.size,fun i hi hn=>(k.block i (Nat.lt_of_lt_of_le hi h.size) (by omega)).trans (h.block i hi hn)⟩
theorem zeros_page:Tryz.zeroCells116.size=512:=by kernel_rfl
theorem devRead_any (w:World) (d g m n:Nat) (fs:Bool) (fuse:Int) (lv:Value) (stale head sure:Int) (safe:List (List UInt8)) (k:Nat) (mf:Int→Option Value) (wr:Nat→List (List UInt8)) (no:Nat)
  (h:DevS w d g m n fs fuse lv stale head sure safe k mf wr) (hno:no<n) (hn:n≤1024) (hw:(wr no).length≤1000000) (hfu:fs=true→0<fuse∧fuse≤9223372036854775807):
  Calls Tryz.prog 58 #[.pointer (some ⟨d,0,none⟩),.int .i64 (no:Nat)] w fun e w'=>e= .returned (.tuple #[pgV (pgOf safe wr no),.int .i64 0])∧ReadD w d g m n fs fuse lv stale head sure safe k mf wr w':=by
 have hmf:∀(fn:Fn) (first cap:Array Value) (w:World),(Instr.makeFunc fn first cap).run Tryz.prog w= .ok (.func fn first cap) w:=fun _ _ _ _=>rfl
 have HS:=hide h
 have HFU:=hide hfu
 obtain ⟨J,hJ⟩:∃J,J=(Tryz.zeroCells182.setIfInBounds 0 (.pointer (some ⟨d,0,none⟩))).setIfInBounds 1 (.int .i64 (no:Nat)):=⟨_,rfl⟩
 have hJ2:J=jobPg d (no:Nat) (List.replicate 512 0):=hJ.trans (job_zero d _)
 have hsz:J.size=515:=by rw [hJ2];exact jobPg_size _ _ _ (by simp)
 have h1c:J.all (·.oneCell')=true:=by
  rw [hJ]
  exact all_set (all_set zero_job_one 0 rfl) 1 rfl
 have HII:=hide (show (Tryz.prog.info? 182).map (·.size)=some J.size by rw [hsz];exact info_job)
 have HZ:=hide (show Tryz.zeroCells182.size=J.size by rw [hsz];exact zeros_job)
 have H1:=hide h1c
 have HJ:=hide hJ
 have HJ2:=hide hJ2
 clear h hfu hJ hJ2 hsz h1c
 go_enter Tryz.func58,Tryz.ntmps58
 go_upto_region 1 with (fail)
 refine gen1 (R:=fun W=>Code.wp _ _ _ _ W) (fun W1 kT hb1 hz1=>?_)
 have HKT:=hide kT
 have HB1:=hide hb1
 clear kT hb1
 go_wp2_with (refine wpList_store_row rfl 182 (.tmp 6) (.tmp 13) rfl W1.heap.size J rfl (by rw [HJ.out];rfl) 182 _ (Blk.new W1 _ _) HII.out HZ.out H1.out ?_)
 refine nameW (w:=World.setRow _ W1.heap.size J) (R:=fun W=>Calls Tryz.prog _ _ W _) (fun W2 hW2=>?_)
 have kj2:Blk W2 W1.heap.size 182 J:=by
  rw [hW2]
  exact setRow_heap _ W1.heap.size _ _ _ _ (Blk.new W1 _ _)
 have hb2:Below W1.heap.size W1 W2:=by
  rw [hW2]
  exact (touch_setRow _ W1.heap.size J).below ((Below.refl W1.heap.size W1).alloc (Nat.le_refl _) _) (Nat.le_refl _)
 have hl2:Below w.heap.size w W2:=HB1.out.trans (hb2.mono HB1.out.size)
 have hs2:=HS.out.via hl2
 have hz2:=kj2.lt
 have hz1':=HB1.out.size
 have kT2:=Blk.via hb2 HKT.out
 obtain ⟨o,kd2⟩:=hs2.kd
 have hdl:d<w.heap.size:=by obtain ⟨o',kd⟩:=HS.out.kd;exact kd.lt
 clear hW2
 refine (devHas_any d no n _ n _ W2 kd2 rfl hno).mono ?_
 rintro e w' ⟨rfl,hw'⟩
 obtain rfl:=hw'.symm
 go_wp2_with fail
 have hb4:Below W2.heap.size W2 (W2.alloc (.cells #[.pointer (some ⟨d,0,none⟩)] 77)):=(Below.refl _ _).alloc (Nat.le_refl _) _
 have hs4:=hs2.via hb4
 obtain ⟨o4,kd4⟩:=hs4.kd
 have kb4:=Blk.new W2 77 #[.pointer (some ⟨d,0,none⟩)]
 have kj4:=Blk.via hb4 kj2
 have kT4:=Blk.via hb4 kT2
 have hql:=pgOf_length HS.out hno
 have hact:=jobRead_any W1.heap.size d m k no g n mf (List.replicate 512 0) (safe.getD no []) ((wr no).getD ((wr no).length-1) []) (safe.flatMap (fun p=>p.map byteV)).toArray fs lv stale head sure fuse o4 (wr no).length ((wr no).flatMap (fun p=>p.map byteV)) (W2.alloc (.cells #[.pointer (some ⟨d,0,none⟩)] 77)) (by simp) hno hn hw kd4 (HJ2.out▸kj4) hs4.hm hs4.kg
  (by
   have hl:no<safe.length:=by rw [HS.out.sn];exact hno
   rw [List.getD_eq_getElem?_getD,List.getElem?_eq_getElem hl]
   exact HS.out.sl _ (List.getElem_mem _))
  (by
   have hl:no<safe.length:=by rw [HS.out.sn];exact hno
   intro i u hu
   rw [List.getElem?_toArray]
   refine flat_pages HS.out.sl (p:=safe.getD no []) ?_ i u hu
   rw [List.getD_eq_getElem?_getD,List.getElem?_eq_getElem hl]
   rfl)
  (hs4.fw no)
  (by
   intro h0
   have hl:(wr no).length-1<(wr no).length:=by omega
   have he:(wr no)[(wr no).length-1]?=some ((wr no).getD ((wr no).length-1) []):=by
    rw [List.getD_eq_getElem?_getD,List.getElem?_eq_getElem hl]
    rfl
   exact ⟨HS.out.wl no _ (List.mem_of_getElem? he),fun i u hu=>flat_pages (HS.out.wl no) he i u hu⟩)
 have hact2:Calls Tryz.prog 106 #[.pointer (some ⟨W1.heap.size,0,none⟩)] (W2.alloc (.cells #[.pointer (some ⟨d,0,none⟩)] 77)) (fun e w'=>(∃v,e= .returned v)∧JobR (W2.alloc (.cells #[.pointer (some ⟨d,0,none⟩)] 77)) W1.heap.size d no (pgOf safe wr no) w'):=hact
 have hR:DoRF W2.heap.size d fs fuse (fun W=>JobR (W2.alloc (.cells #[.pointer (some ⟨d,0,none⟩)] 77)) W1.heap.size d no (pgOf safe wr no) W):=by
  rintro W ⟨g1,g2⟩
  exact ⟨g2.blk kb4 (by omega),_,o4,g2.blk kd4 (by omega),rfl,rfl,rfl⟩
 have HD:=hide (doF_any d 106 (.pointer (some ⟨W1.heap.size,0,none⟩)) _ fs fuse _ W2 kd2 rfl rfl rfl HFU.out hR (fun W=>by simp [go_sem]) hact2)
 generalize hq:pgOf safe wr no=q at*
 have HQ:=hide hq
 clear hq
 have HPI:=hide (show (Tryz.prog.info? 116).map (·.size)=some (q.map byteV).length by rw [List.length_map,hql];exact info_pg)
 have HPS:=hide (show (Tryz.prog.info? 116).map (·.size)=some (q.map byteV).toArray.size by rw [List.size_toArray,List.length_map,hql];exact info_pg)
 have HZP:=hide (show Tryz.zeroCells116.size=(q.map byteV).toArray.size by rw [zeros_page,List.size_toArray,List.length_map,hql])
 have HF:=hide (show ∀w',(∃W,JobR (W2.alloc (.cells #[.pointer (some ⟨d,0,none⟩)] 77)) W1.heap.size d no q W∧doneW fs d fuse W w')→(Blk w' W1.heap.size 182 (jobPg d no q)∧Blk w' w.heap.size 116 Tryz.zeroCells116∧Turn (fun q=>q=d) w w'∧∃o,Blk w' d 113 (devF fs (.slice (some ⟨g,0,none⟩) n n) (.map (some m)) lv stale head sure (if fs=true then fuse-1 else fuse) o)) from by
  rintro w' ⟨W,⟨g1,g2⟩,g3⟩
  have ht:=doneW.turn g3
  refine ⟨ht.blk g1 (by omega),ht.blk (g2.blk kT4 (by omega)) (by omega),?_,doneW.dev g3 (g2.blk kd4 (by omega))⟩
  exact (Turn.then_new ((Turn.of_below hl2).trans (Turn.of_below hb4)) g2 hz1').trans ht)
 clear hact hact2 hR kb4 kd4 kj4 kT4 hs4 hb4 kd2 hs2 hl2 hb2 kj2 kT2 hql
 refine HD.out.mono ?_
 rintro e w3 ⟨rfl,hw'⟩
 obtain ⟨k1,k2,k3,o5,k4⟩:=HF.out w3 hw'
 have K1:=hide k1
 have K2:=hide k2
 have K3:=hide k3
 have K4:=hide k4
 have hl3:=k2.lt
 have hl4:=k1.lt
 clear hw' k1 k2 k3 k4
 go_wp2_with (first
  |(refine wpList_load_mid rfl 116 (.tmp 20) rfl W1.heap.size 2 rfl (q.map byteV) _ (jobPg_range K1.out) Tryz.underlying116 rfl HPI.out ?_)
  |(refine wpList_store_row rfl 116 (.tmp 4) (.tmp 21) rfl w.heap.size (q.map byteV).toArray rfl rfl 116 _ K2.out HPS.out HZP.out (all_oneCell_toArray (bytes_one _)) ?_))
 refine bodyPost_ret (results_row_1 Tryz.results58 _ _ w.heap.size (q.map byteV).toArray rfl (run_loadVar_row _ _ _ _ (q.map byteV).toArray (0,0) _ (setRow_heap w3 w.heap.size _ _ _ _ K2.out) Tryz.underlying116 rfl HPS.out)) rfl ⟨by rw [HQ.out];rfl,?_⟩
 have hT:=K3.out.setRow (Nat.le_refl _) (q.map byteV).toArray
 exact ⟨HS.out.turnd hT ⟨o5,(touch_setRow w3 w.heap.size _).blk K4.out (.inl hdl)⟩,hT⟩
end Go.Proofs.YtnkjkgmohmcobaaGreatDoor
namespace Go.Proofs.YtnkjkgmohmcobaaGreatDoor
open Go.RowKit Go.Shelf Go.Maps
theorem devHeadF_any (fs:Bool) (d:Nat) (sv mv lv:Value) (stale head sure fuse o:Int) (w:World) (k:Blk w d 113 (devF fs sv mv lv stale head sure fuse o)):
  Calls Tryz.prog 115 #[.pointer (some ⟨d,0,none⟩)] w fun e w'=>e= .returned (.int .i64 head)∧w'=w:=by
 have c4:w.cell? ⟨d,4,none⟩=some _:=k.cell 4
 clear k
 go_enter Tryz.func115,Tryz.ntmps115
 go_wp2
 go_ret
 exact ⟨rfl,rfl⟩
theorem devPagesF_any (fs:Bool) (d:Nat) (A:Option Addr) (n c:Nat) (mv lv:Value) (stale head sure fuse o:Int) (w:World) (k:Blk w d 113 (devF fs (.slice A n c) mv lv stale head sure fuse o)):
  Calls Tryz.prog 52 #[.pointer (some ⟨d,0,none⟩)] w fun e w'=>e= .returned (.int .i64 (n:Nat))∧w'=w:=by
 have c0:w.cell? ⟨d,0,none⟩=some (.slice A n c):=k.cell 0
 have ld:=k.lt
 clear k
 go_enter Tryz.func52,Tryz.ntmps52
 go_wp2
 go_ret
 exact ⟨rfl,rfl⟩
theorem devEndF_any (fs:Bool) (d:Nat) (sv mv:Value) (A:Option Addr) (n c:Nat) (stale head sure fuse o:Int) (w:World) (hh:0≤head) (hh2:head≤100000000) (hn:n≤100000000) (k:Blk w d 113 (devF fs sv mv (.slice A n c) stale head sure fuse o)):
  Calls Tryz.prog 88 #[.pointer (some ⟨d,0,none⟩)] w fun e w'=>e= .returned (.int .i64 (head+n))∧Below w.heap.size w w':=by
 have c4:w.cell? ⟨d,4,none⟩=some (.int .i64 head):=k.cell 4
 have c2:w.cell? ⟨d,2,none⟩=some (.slice A n c):=k.cell 2
 clear k
 go_enter Tryz.func88,Tryz.ntmps88
 go_upto_region 3 with (fail)
 go_quiet (fail)
 go_wp2
 go_ret
 exact ⟨rfl,below_of_drewN _ _⟩
theorem spansF_any (fs:Bool) (d:Nat) (p:Int) (sv mv:Value) (A:Option Addr) (n c:Nat) (stale head sure fuse o:Int) (w:World) (hh:0≤head) (hh2:head≤100000000) (hn:n≤100000000) (hp1:head≤p) (hp2:p≤head+n) (k:Blk w d 113 (devF fs sv mv (.slice A n c) stale head sure fuse o)):
  Calls Tryz.prog 160 #[.pointer (some ⟨d,0,none⟩),.int .i64 p] w fun e w'=>e= .returned (.bool true)∧Below w.heap.size w w':=by
 have HE:=hide (devEndF_any fs d sv mv A n c stale head sure fuse o w hh hh2 hn k)
 have c4:w.cell? ⟨d,4,none⟩=some (.int .i64 head):=k.cell 4
 clear k
 go_enter Tryz.func160,Tryz.ntmps160
 go_wp2_with (refine HE.out.mono ?_;rintro e w1 ⟨rfl,hb1⟩)
 go_ret
 exact ⟨rfl,hb1⟩
theorem devLogF_any (fs:Bool) (d:Nat) (sv mv:Value) (stale head sure fuse o:Int) (w:World) (k:Blk w d 113 (devF fs sv mv (.slice none 0 0) stale head sure fuse o)):
  Calls Tryz.prog 117 #[.pointer (some ⟨d,0,none⟩)] w fun e w'=>(∃A c,e= .returned (.slice A 0 c))∧Below w.heap.size w w':=by
 have HC:=hide (fun W=>cloneB_any none 0 0 [] 0 W (Nat.zero_le _) (by omega) Reads.none_ (fun _=>rfl) (fun _ h=>by cases h))
 have c2:w.cell? ⟨d,2,none⟩=some (.slice none 0 0):=k.cell 2
 have l2:=k.lt
 clear k
 go_enter Tryz.func117,Tryz.ntmps117
 go_wp2_with (go_at_call 133;refine (HC.out _).mono ?_;rintro e w1 ⟨A2,c2',rfl,_,hb2⟩)
 go_ret
 exact ⟨⟨_,_,rfl⟩,hb2⟩
theorem jobCutF_any (fs:Bool) (j d:Nat) (bv sv mv:Value) (stale fuse o:Int) (w:World) (k:Blk w d 113 (devF fs sv mv (.slice none 0 0) stale 0 0 fuse o)) (js:Array Value) (kj:Blk w j 182 js) (hj:JobC js d 0 bv):
  Calls Tryz.prog 172 #[.pointer (some ⟨j,0,none⟩)] w fun e w'=>(∃v,e= .returned v)∧Blk w' d 113 (devF fs sv mv (.slice none 0 0) stale 0 0 fuse o)∧Turn (fun k=>k=d) w w':=by
 obtain ⟨j0,j1,_⟩:=hj
 have hjd:=kj.ne_ k (by decide)
 have KD:=hide k
 have KJ:=hide kj
 have HJ0:=hide j0
 have HJ1:=hide j1
 have ld:=k.lt
 have lj:=kj.lt
 clear k kj j0 j1
 go_enter Tryz.func172,Tryz.ntmps172
 go_upto_region 0 with (fail)
 refine wp_region_inv_tail 26 [fun v _=>v= .pointer (some ⟨j,0,none⟩),fun v _=>v= .pointer (some ⟨j,0,none⟩),fun v _=>v= .pointer (some ⟨j,0,none⟩),fun v _=>v= .pointer (some ⟨d,0,none⟩),fun v _=>v= .pointer (some ⟨j,0,none⟩),fun v _=>v= .pointer (some ⟨j,0,none⟩),fun v _=>v= .pointer (some ⟨j,0,none⟩),fun v _=>v= .pointer (some ⟨d,0,none⟩),fun v _=>v= .pointer (some ⟨d,0,none⟩),fun v _=>v= .pointer (some ⟨d,2,none⟩),fun v _=>v= .slice none 0 0,fun v _=>v= .pointer (some ⟨j,0,none⟩),fun v _=>v= .pointer (some ⟨j,0,none⟩),fun v _=>v= .pointer (some ⟨j,1,none⟩),fun v _=>v= .int .i64 0,fun v _=>v= .pointer (some ⟨j,0,none⟩),fun v _=>v= .pointer (some ⟨j,0,none⟩),fun v _=>v= .pointer (some ⟨j,0,none⟩),fun v _=>v= .pointer (some ⟨d,0,none⟩),fun v _=>v= .pointer (some ⟨d,0,none⟩),fun v _=>v= .pointer (some ⟨d,4,none⟩),fun v _=>v= .int .i64 0,fun v _=>v= .int .i64 0,fun v _=>v= .slice none 0 0,fun v _=>v= .pointer (some ⟨d,0,none⟩),fun v _=>v= .pointer (some ⟨d,2,none⟩)] (by kernel_rfl) (by kernel_rfl) (by kernel_rfl) (by kernel_rfl) (by kernel_rfl) (by first|simp|decide) (by kernel_rfl) ?st ?steps ?fin
 case st=>
  intro i v W W' hWW h
  match i with
  |0|1|2|3|4|5|6|7|8|9|10|11|12|13|14|15|16|17|18|19|20|21|22|23|24|25=>exact h
  |(i+26)=>exact h
 case steps=>
  simp only [stepsT,List.take_succ_cons,List.take_zero]
  refine ⟨?_,?_,?_,?_,?_,?_,?_,?_,?_,?_,?_,?_,?_,?_,?_,?_,?_,?_,?_,?_,?_,?_,?_,?_,?_,?_,trivial⟩
  ·intro f W hbW hdp
   simp only [fS,Nat.reduceAdd]
   go_wp2
   exact ⟨rfl,_,rfl,rfl,Below.refl _ _⟩
  ·intro f W hbW hdp
   have e0:f 0= .pointer (some ⟨j,0,none⟩):=hdp ⟨0,.data⟩ (mfl (by simp) rfl)
   simp only [fS,Nat.reduceAdd,e0]
   go_wp2
   exact ⟨rfl,_,rfl,rfl,Below.refl _ _⟩
  ·intro f W hbW hdp
   have e1:f 1= .pointer (some ⟨j,0,none⟩):=hdp ⟨1,.data⟩ (mfl (by simp) rfl)
   simp only [fS,Nat.reduceAdd,e1]
   go_wp2
   exact ⟨rfl,_,rfl,rfl,Below.refl _ _⟩
  ·intro f W hbW hdp
   have e2:f 2= .pointer (some ⟨j,0,none⟩):=hdp ⟨2,.data⟩ (mfl (by simp) rfl)
   have q:W.cell? ⟨j,0,none⟩=some _:=((Blk.via hbW KJ.out).cell 0).trans HJ0.out
   simp only [fS,Nat.reduceAdd,e2]
   go_wp2
   exact ⟨rfl,_,rfl,rfl,Below.refl _ _⟩
  ·intro f W hbW hdp
   simp only [fS,Nat.reduceAdd]
   go_wp2
   exact ⟨rfl,_,rfl,rfl,Below.refl _ _⟩
  ·intro f W hbW hdp
   have e4:f 4= .pointer (some ⟨j,0,none⟩):=hdp ⟨4,.data⟩ (mfl (by simp) rfl)
   simp only [fS,Nat.reduceAdd,e4]
   go_wp2
   exact ⟨rfl,_,rfl,rfl,Below.refl _ _⟩
  ·intro f W hbW hdp
   have e5:f 5= .pointer (some ⟨j,0,none⟩):=hdp ⟨5,.data⟩ (mfl (by simp) rfl)
   simp only [fS,Nat.reduceAdd,e5]
   go_wp2
   exact ⟨rfl,_,rfl,rfl,Below.refl _ _⟩
  ·intro f W hbW hdp
   have e6:f 6= .pointer (some ⟨j,0,none⟩):=hdp ⟨6,.data⟩ (mfl (by simp) rfl)
   have q:W.cell? ⟨j,0,none⟩=some _:=((Blk.via hbW KJ.out).cell 0).trans HJ0.out
   simp only [fS,Nat.reduceAdd,e6]
   go_wp2
   exact ⟨rfl,_,rfl,rfl,Below.refl _ _⟩
  ·intro f W hbW hdp
   have e7:f 7= .pointer (some ⟨d,0,none⟩):=hdp ⟨7,.data⟩ (mfl (by simp) rfl)
   simp only [fS,Nat.reduceAdd,e7]
   go_wp2
   exact ⟨rfl,_,rfl,rfl,Below.refl _ _⟩
  ·intro f W hbW hdp
   have e8:f 8= .pointer (some ⟨d,0,none⟩):=hdp ⟨8,.data⟩ (mfl (by simp) rfl)
   simp only [fS,Nat.reduceAdd,e8]
   go_wp2
   exact ⟨rfl,_,rfl,rfl,Below.refl _ _⟩
  ·intro f W hbW hdp
   have e9:f 9= .pointer (some ⟨d,2,none⟩):=hdp ⟨9,.data⟩ (mfl (by simp) rfl)
   have q:W.cell? ⟨d,2,none⟩=some (.slice none 0 0):=(Blk.via hbW KD.out).cell 2
   simp only [fS,Nat.reduceAdd,e9]
   go_wp2
   exact ⟨rfl,_,rfl,rfl,Below.refl _ _⟩
  ·intro f W hbW hdp
   simp only [fS,Nat.reduceAdd]
   go_wp2
   exact ⟨rfl,_,rfl,rfl,Below.refl _ _⟩
  ·intro f W hbW hdp
   have e11:f 11= .pointer (some ⟨j,0,none⟩):=hdp ⟨11,.data⟩ (mfl (by simp) rfl)
   simp only [fS,Nat.reduceAdd,e11]
   go_wp2
   exact ⟨rfl,_,rfl,rfl,Below.refl _ _⟩
  ·intro f W hbW hdp
   have e12:f 12= .pointer (some ⟨j,0,none⟩):=hdp ⟨12,.data⟩ (mfl (by simp) rfl)
   simp only [fS,Nat.reduceAdd,e12]
   go_wp2
   exact ⟨rfl,_,rfl,rfl,Below.refl _ _⟩
  ·intro f W hbW hdp
   have e13:f 13= .pointer (some ⟨j,1,none⟩):=hdp ⟨13,.data⟩ (mfl (by simp) rfl)
   have q:W.cell? ⟨j,1,none⟩=some _:=((Blk.via hbW KJ.out).cell 1).trans HJ1.out
   simp only [fS,Nat.reduceAdd,e13]
   go_wp2
   exact ⟨rfl,_,rfl,rfl,Below.refl _ _⟩
  ·intro f W hbW hdp
   simp only [fS,Nat.reduceAdd]
   go_wp2
   exact ⟨rfl,_,rfl,rfl,Below.refl _ _⟩
  ·intro f W hbW hdp
   have e15:f 15= .pointer (some ⟨j,0,none⟩):=hdp ⟨15,.data⟩ (mfl (by simp) rfl)
   simp only [fS,Nat.reduceAdd,e15]
   go_wp2
   exact ⟨rfl,_,rfl,rfl,Below.refl _ _⟩
  ·intro f W hbW hdp
   have e16:f 16= .pointer (some ⟨j,0,none⟩):=hdp ⟨16,.data⟩ (mfl (by simp) rfl)
   simp only [fS,Nat.reduceAdd,e16]
   go_wp2
   exact ⟨rfl,_,rfl,rfl,Below.refl _ _⟩
  ·intro f W hbW hdp
   have e17:f 17= .pointer (some ⟨j,0,none⟩):=hdp ⟨17,.data⟩ (mfl (by simp) rfl)
   have q:W.cell? ⟨j,0,none⟩=some _:=((Blk.via hbW KJ.out).cell 0).trans HJ0.out
   simp only [fS,Nat.reduceAdd,e17]
   go_wp2
   exact ⟨rfl,_,rfl,rfl,Below.refl _ _⟩
  ·intro f W hbW hdp
   have e18:f 18= .pointer (some ⟨d,0,none⟩):=hdp ⟨18,.data⟩ (mfl (by simp) rfl)
   simp only [fS,Nat.reduceAdd,e18]
   go_wp2
   exact ⟨rfl,_,rfl,rfl,Below.refl _ _⟩
  ·intro f W hbW hdp
   have e19:f 19= .pointer (some ⟨d,0,none⟩):=hdp ⟨19,.data⟩ (mfl (by simp) rfl)
   simp only [fS,Nat.reduceAdd,e19]
   go_wp2
   exact ⟨rfl,_,rfl,rfl,Below.refl _ _⟩
  ·intro f W hbW hdp
   have e20:f 20= .pointer (some ⟨d,4,none⟩):=hdp ⟨20,.data⟩ (mfl (by simp) rfl)
   have q:W.cell? ⟨d,4,none⟩=some (.int .i64 0):=(Blk.via hbW KD.out).cell 4
   simp only [fS,Nat.reduceAdd,e20]
   go_wp2
   exact ⟨rfl,_,rfl,rfl,Below.refl _ _⟩
  ·intro f W hbW hdp
   have e14:f 14= .int .i64 0:=hdp ⟨14,.data⟩ (mfl (by simp) rfl)
   have e21:f 21= .int .i64 0:=hdp ⟨21,.data⟩ (mfl (by simp) rfl)
   simp only [fS,Nat.reduceAdd,e14,e21]
   go_wp2
   exact ⟨rfl,_,rfl,rfl,Below.refl _ _⟩
  ·intro f W hbW hdp
   have e10:f 10= .slice none 0 0:=hdp ⟨10,.data⟩ (mfl (by simp) rfl)
   have e22:f 22= .int .i64 0:=hdp ⟨22,.data⟩ (mfl (by simp) rfl)
   simp only [fS,Nat.reduceAdd,e10,e22]
   go_wp2
   exact ⟨rfl,_,rfl,rfl,Below.refl _ _⟩
  ·intro f W hbW hdp
   have e3:f 3= .pointer (some ⟨d,0,none⟩):=hdp ⟨3,.data⟩ (mfl (by simp) rfl)
   simp only [fS,Nat.reduceAdd,e3]
   go_wp2
   exact ⟨rfl,_,rfl,rfl,Below.refl _ _⟩
  ·intro f W hbW hdp
   have e24:f 24= .pointer (some ⟨d,0,none⟩):=hdp ⟨24,.data⟩ (mfl (by simp) rfl)
   simp only [fS,Nat.reduceAdd,e24]
   go_wp2
   exact ⟨rfl,_,rfl,rfl,Below.refl _ _⟩
 case fin=>
  intro f W hbW hA
  have e23:f 23= .slice none 0 0:=hA 23 (by omega)
  have e25:f 25= .pointer (some ⟨d,2,none⟩):=hA 25 (by omega)
  simp only [List.drop_succ_cons,List.drop_zero,List.take_succ_cons,List.take_zero,fillF,Act.put,List.setIfInBounds_toArray,List.set_cons_succ,List.set_cons_zero,Nat.reduceAdd,e23,e25]
  clear hA e23 e25
  have kd:=Blk.via hbW KD.out
  have l2:=kd.lt
  have f2:=kd.frozen 2
  have c2:=kd.cell 2
  have HKDW:=hide kd
  have HBW:=hide hbW
  clear hbW kd
  go_wp2_with fail
  refine nameW (w:=World.setCell _ _ _) (R:=fun W=>Code.wp _ _ _ _ W) (fun W2 hW2=>?_)
  have k2:Blk W2 d 113 (devF fs sv mv (.slice none 0 0) stale 0 0 fuse o):=hW2▸HKDW.out.set_ 2 _
  have kj2:Blk W2 j 182 js:=hW2▸(Blk.via HBW.out KJ.out).far hjd _
  have ht2:Turn (fun k=>k=d) w W2:=hW2▸Turn.set (S:=fun k=>k=d) (Turn.of_below HBW.out) (p:=⟨d,2,none⟩) (.inl rfl) _
  have K2:=hide k2
  have KJ2:=hide kj2
  have HT2:=hide ht2
  clear hW2 k2 kj2 ht2 l2 f2 c2
  refine wp_region_inv_tail 18 [fun v _=>v= .pointer (some ⟨j,0,none⟩),fun v _=>v= .pointer (some ⟨j,0,none⟩),fun v _=>v= .pointer (some ⟨j,0,none⟩),fun v _=>v= .pointer (some ⟨d,0,none⟩),fun v _=>v= .pointer (some ⟨j,0,none⟩),fun v _=>v= .pointer (some ⟨j,0,none⟩),fun v _=>v= .pointer (some ⟨j,0,none⟩),fun v _=>v= .pointer (some ⟨d,0,none⟩),fun v _=>v= .pointer (some ⟨d,0,none⟩),fun v _=>v= .pointer (some ⟨d,5,none⟩),fun v _=>v= .int .i64 0,fun v _=>v= .pointer (some ⟨j,0,none⟩),fun v _=>v= .pointer (some ⟨j,0,none⟩),fun v _=>v= .pointer (some ⟨j,1,none⟩),fun v _=>v= .int .i64 0,fun v _=>v= .int .i64 0,fun v _=>v= .pointer (some ⟨d,0,none⟩),fun v _=>v= .pointer (some ⟨d,5,none⟩)] (by kernel_rfl) (by kernel_rfl) (by kernel_rfl) (by kernel_rfl) (by kernel_rfl) (by first|simp|decide) (by kernel_rfl) ?st ?steps ?fin
  case st=>
   intro i v W W' hWW h
   match i with
   |0|1|2|3|4|5|6|7|8|9|10|11|12|13|14|15|16|17=>exact h
   |(i+18)=>exact h
  case steps=>
   simp only [stepsT,List.take_succ_cons,List.take_zero]
   refine ⟨?_,?_,?_,?_,?_,?_,?_,?_,?_,?_,?_,?_,?_,?_,?_,?_,?_,?_,trivial⟩
   ·intro f W hbW hdp
    simp only [fS,Nat.reduceAdd]
    go_wp2
    exact ⟨rfl,_,rfl,rfl,Below.refl _ _⟩
   ·intro f W hbW hdp
    have e0:f 0= .pointer (some ⟨j,0,none⟩):=hdp ⟨0,.data⟩ (mfl (by simp) rfl)
    simp only [fS,Nat.reduceAdd,e0]
    go_wp2
    exact ⟨rfl,_,rfl,rfl,Below.refl _ _⟩
   ·intro f W hbW hdp
    have e1:f 1= .pointer (some ⟨j,0,none⟩):=hdp ⟨1,.data⟩ (mfl (by simp) rfl)
    simp only [fS,Nat.reduceAdd,e1]
    go_wp2
    exact ⟨rfl,_,rfl,rfl,Below.refl _ _⟩
   ·intro f W hbW hdp
    have e2:f 2= .pointer (some ⟨j,0,none⟩):=hdp ⟨2,.data⟩ (mfl (by simp) rfl)
    have q:W.cell? ⟨j,0,none⟩=some _:=((Blk.via hbW KJ2.out).cell 0).trans HJ0.out
    simp only [fS,Nat.reduceAdd,e2]
    go_wp2
    exact ⟨rfl,_,rfl,rfl,Below.refl _ _⟩
   ·intro f W hbW hdp
    simp only [fS,Nat.reduceAdd]
    go_wp2
    exact ⟨rfl,_,rfl,rfl,Below.refl _ _⟩
   ·intro f W hbW hdp
    have e4:f 4= .pointer (some ⟨j,0,none⟩):=hdp ⟨4,.data⟩ (mfl (by simp) rfl)
    simp only [fS,Nat.reduceAdd,e4]
    go_wp2
    exact ⟨rfl,_,rfl,rfl,Below.refl _ _⟩
   ·intro f W hbW hdp
    have e5:f 5= .pointer (some ⟨j,0,none⟩):=hdp ⟨5,.data⟩ (mfl (by simp) rfl)
    simp only [fS,Nat.reduceAdd,e5]
    go_wp2
    exact ⟨rfl,_,rfl,rfl,Below.refl _ _⟩
   ·intro f W hbW hdp
    have e6:f 6= .pointer (some ⟨j,0,none⟩):=hdp ⟨6,.data⟩ (mfl (by simp) rfl)
    have q:W.cell? ⟨j,0,none⟩=some _:=((Blk.via hbW KJ2.out).cell 0).trans HJ0.out
    simp only [fS,Nat.reduceAdd,e6]
    go_wp2
    exact ⟨rfl,_,rfl,rfl,Below.refl _ _⟩
   ·intro f W hbW hdp
    have e7:f 7= .pointer (some ⟨d,0,none⟩):=hdp ⟨7,.data⟩ (mfl (by simp) rfl)
    simp only [fS,Nat.reduceAdd,e7]
    go_wp2
    exact ⟨rfl,_,rfl,rfl,Below.refl _ _⟩
   ·intro f W hbW hdp
    have e8:f 8= .pointer (some ⟨d,0,none⟩):=hdp ⟨8,.data⟩ (mfl (by simp) rfl)
    simp only [fS,Nat.reduceAdd,e8]
    go_wp2
    exact ⟨rfl,_,rfl,rfl,Below.refl _ _⟩
   ·intro f W hbW hdp
    have e9:f 9= .pointer (some ⟨d,5,none⟩):=hdp ⟨9,.data⟩ (mfl (by simp) rfl)
    have q:W.cell? ⟨d,5,none⟩=some (.int .i64 0):=(Blk.via hbW K2.out).cell 5
    simp only [fS,Nat.reduceAdd,e9]
    go_wp2
    exact ⟨rfl,_,rfl,rfl,Below.refl _ _⟩
   ·intro f W hbW hdp
    simp only [fS,Nat.reduceAdd]
    go_wp2
    exact ⟨rfl,_,rfl,rfl,Below.refl _ _⟩
   ·intro f W hbW hdp
    have e11:f 11= .pointer (some ⟨j,0,none⟩):=hdp ⟨11,.data⟩ (mfl (by simp) rfl)
    simp only [fS,Nat.reduceAdd,e11]
    go_wp2
    exact ⟨rfl,_,rfl,rfl,Below.refl _ _⟩
   ·intro f W hbW hdp
    have e12:f 12= .pointer (some ⟨j,0,none⟩):=hdp ⟨12,.data⟩ (mfl (by simp) rfl)
    simp only [fS,Nat.reduceAdd,e12]
    go_wp2
    exact ⟨rfl,_,rfl,rfl,Below.refl _ _⟩
   ·intro f W hbW hdp
    have e13:f 13= .pointer (some ⟨j,1,none⟩):=hdp ⟨13,.data⟩ (mfl (by simp) rfl)
    have q:W.cell? ⟨j,1,none⟩=some _:=((Blk.via hbW KJ2.out).cell 1).trans HJ1.out
    simp only [fS,Nat.reduceAdd,e13]
    go_wp2
    exact ⟨rfl,_,rfl,rfl,Below.refl _ _⟩
   ·intro f W hbW hdp
    have e10:f 10= .int .i64 0:=hdp ⟨10,.data⟩ (mfl (by simp) rfl)
    have e14:f 14= .int .i64 0:=hdp ⟨14,.data⟩ (mfl (by simp) rfl)
    simp only [fS,Nat.reduceAdd,e10,e14]
    go_wp2
    exact ⟨rfl,_,rfl,rfl,Below.refl _ _⟩
   ·intro f W hbW hdp
    have e3:f 3= .pointer (some ⟨d,0,none⟩):=hdp ⟨3,.data⟩ (mfl (by simp) rfl)
    simp only [fS,Nat.reduceAdd,e3]
    go_wp2
    exact ⟨rfl,_,rfl,rfl,Below.refl _ _⟩
   ·intro f W hbW hdp
    have e16:f 16= .pointer (some ⟨d,0,none⟩):=hdp ⟨16,.data⟩ (mfl (by simp) rfl)
    simp only [fS,Nat.reduceAdd,e16]
    go_wp2
    exact ⟨rfl,_,rfl,rfl,Below.refl _ _⟩
  case fin=>
   intro f W hbW hA
   have e15:f 15= .int .i64 0:=hA 15 (by omega)
   have e17:f 17= .pointer (some ⟨d,5,none⟩):=hA 17 (by omega)
   simp only [List.drop_succ_cons,List.drop_zero,List.take_succ_cons,List.take_zero,fillF,Act.put,List.setIfInBounds_toArray,List.set_cons_succ,List.set_cons_zero,Nat.reduceAdd,e15,e17]
   clear hA e15 e17
   have kd:=Blk.via hbW K2.out
   have l5:=kd.lt
   have f5:=kd.frozen 5
   have c5:=kd.cell 5
   have HKDW3:=hide kd
   have HBW3:=hide hbW
   clear hbW kd
   go_wp2_with fail
   go_end0
   exact ⟨⟨_,rfl⟩,HKDW3.out.set_ 5 _,Turn.set (S:=fun k=>k=d) (HT2.out.trans (Turn.of_below HBW3.out)) (p:=⟨d,5,none⟩) (.inl rfl) _⟩
def CutPF (fs:Bool) (w:World) (d:Nat) (sv mv:Value) (stale fuse:Int) (e:Ending) (w':World):Prop:=
 e= .returned (.int .i64 0)∧∃o',Blk w' d 113 (devF fs sv mv (.slice none 0 0) stale 0 0 (if fs=true then fuse-1 else fuse) o')∧Turn (fun k=>k=d) w w'
theorem devCutF_any (fs:Bool) (d:Nat) (sv mv:Value) (stale fuse o:Int) (w:World) (hfu:fs=true→0<fuse∧fuse≤9223372036854775807) (k:Blk w d 113 (devF fs sv mv (.slice none 0 0) stale 0 0 fuse o)):
  Calls Tryz.prog 119 #[.pointer (some ⟨d,0,none⟩),.int .i64 0] w (CutPF fs w d sv mv stale fuse):=by
 have hmf:∀(fn:Fn) (first cap:Array Value) (w:World),(Instr.makeFunc fn first cap).run Tryz.prog w= .ok (.func fn first cap) w:=fun _ _ _ _=>rfl
 have HK:=hide k
 have HFU:=hide hfu
 clear k hfu
 obtain ⟨X,hX⟩:∃X,X=(Tryz.zeroCells182.setIfInBounds 0 (.pointer (some ⟨d,0,none⟩))).setIfInBounds 1 (.int .i64 0):=⟨_,rfl⟩
 have HX:=hide hX
 have hJ:JobC X d 0 (.slice none 0 0):=by
  rw [hX]
  refine ⟨?_,?_,?_⟩
  ·rw [Array.getElem?_setIfInBounds,if_neg (by decide),Array.getElem?_setIfInBounds,if_pos rfl,if_pos (by rw [zeros_job];decide)]
  ·rw [Array.getElem?_setIfInBounds,if_pos rfl,if_pos (by rw [Array.size_setIfInBounds,zeros_job];decide)]
  ·rw [Array.getElem?_setIfInBounds,if_neg (by decide),Array.getElem?_setIfInBounds,if_neg (by decide)]
   kernel_rfl
 have hsz:X.size=515:=by rw [hX,Array.size_setIfInBounds,Array.size_setIfInBounds,zeros_job]
 have h1c:X.all (·.oneCell')=true:=by
  rw [hX]
  exact all_set (all_set zero_job_one 0 rfl) 1 rfl
 have HII:=hide (show (Tryz.prog.info? 182).map (·.size)=some X.size by rw [hsz];exact info_job)
 have HZ:=hide (show Tryz.zeroCells182.size=X.size by rw [hsz];exact zeros_job)
 have H1:=hide h1c
 have HJ:=hide hJ
 clear hX hJ hsz h1c
 go_enter Tryz.func119,Tryz.ntmps119
 go_wp2_with (refine wpList_store_row rfl 182 (.tmp 5) (.tmp 10) rfl w.heap.size X rfl (by rw [HX.out];rfl) 182 _ (Blk.new w _ _) HII.out HZ.out H1.out ?_)
 refine nameW (w:=World.setRow _ w.heap.size X) (R:=fun W=>Calls Tryz.prog _ _ W _) (fun W2 hW2=>?_)
 have kj2:Blk W2 w.heap.size 182 X:=by
  rw [hW2]
  exact setRow_heap _ w.heap.size _ _ _ _ (Blk.new w _ _)
 have hb2:Below w.heap.size w W2:=by
  rw [hW2]
  exact (touch_setRow _ w.heap.size X).below ((Below.refl w.heap.size w).alloc (Nat.le_refl _) _) (Nat.le_refl _)
 have hdl:=HK.out.lt
 have hz2:=kj2.lt
 clear hW2
 refine (spansF_any fs d 0 sv mv none 0 0 stale 0 0 fuse o W2 (by omega) (by omega) (by omega) (by omega) (by omega) (Blk.via hb2 HK.out)).mono ?_
 rintro e W3 ⟨rfl,hb3⟩
 go_wp2_with fail
 have kj3:=Blk.via hb3 kj2
 have kd3:=Blk.via hb3 (Blk.via hb2 HK.out)
 have hz3:=hb3.size
 have hb4:Below W3.heap.size W3 (W3.alloc (.cells #[.pointer (some ⟨d,0,none⟩)] 77)):=(Below.refl _ _).alloc (Nat.le_refl _) _
 have kd4:=Blk.via hb4 kd3
 have kb4:=Blk.new W3 77 #[.pointer (some ⟨d,0,none⟩)]
 have hact:=jobCutF_any fs w.heap.size d (.slice none 0 0) sv mv stale fuse o (W3.alloc (.cells #[.pointer (some ⟨d,0,none⟩)] 77)) kd4 X (Blk.via hb4 kj3) HJ.out
 have hR:DoRF W3.heap.size d fs fuse (fun W=>Blk W d 113 (devF fs sv mv (.slice none 0 0) stale 0 0 fuse o)∧Turn (fun k=>k=d) (W3.alloc (.cells #[.pointer (some ⟨d,0,none⟩)] 77)) W):=by
  rintro W ⟨g1,g3⟩
  exact ⟨(g3.block _ kb4.lt (by omega)).trans kb4,_,o,g1,rfl,rfl,rfl⟩
 have HD:=hide (doF_any d 172 (.pointer (some ⟨w.heap.size,0,none⟩)) _ fs fuse _ W3 kd3 rfl rfl rfl HFU.out hR (fun W=>by simp [go_sem]) hact)
 have HF:=hide (show ∀w',(∃W,(Blk W d 113 (devF fs sv mv (.slice none 0 0) stale 0 0 fuse o)∧Turn (fun k=>k=d) (W3.alloc (.cells #[.pointer (some ⟨d,0,none⟩)] 77)) W)∧doneW fs d fuse W w')→CutPF fs w d sv mv stale fuse (.returned (.int .i64 0)) w' from by
  rintro w' ⟨W,⟨g1,g3⟩,hd⟩
  have hT:Turn (fun k=>k=d) w W:=(Turn.of_below hb2).trans ((Turn.of_below hb3).trans ((Turn.of_below hb4).trans g3))
  obtain ⟨o',k'⟩:=doneW.dev hd g1
  exact ⟨rfl,o',k',hT.trans (doneW.turn hd)⟩)
 clear hact hR kb4 kd4 hb4 kd3 kj3 hb3 hb2 kj2
 refine HD.out.mono ?_
 rintro e w' ⟨rfl,hw'⟩
 have HL:=hide (HF.out w' hw')
 clear hw'
 go_wp2
 go_ret
 exact HL.out
theorem walEndF_any (fs:Bool) (l d:Nat) (limit kept forced:Int) (m:Nat) (pv sv mv:Value) (A:Option Addr) (n c:Nat) (stale head sure fuse o:Int) (w:World) (hh:0≤head) (hh2:head≤100000000) (hn:n≤100000000) (kl:Blk w l 165 (logC d limit kept forced m pv)) (kd:Blk w d 113 (devF fs sv mv (.slice A n c) stale head sure fuse o)):
  Calls Tryz.prog 47 #[.pointer (some ⟨l,0,none⟩)] w fun e w'=>e= .returned (.int .i64 (head+n))∧Below w.heap.size w w':=by
 have HD:=hide (devEndF_any fs d sv mv A n c stale head sure fuse o w hh hh2 hn kd)
 have c0:w.cell? ⟨l,0,none⟩=some _:=kl.cell 0
 clear kl kd
 go_enter Tryz.func47,Tryz.ntmps47
 go_wp2_with (refine HD.out.mono ?_;rintro e w1 ⟨rfl,hb1⟩)
 go_ret
 exact ⟨rfl,hb1⟩
end Go.Proofs.YtnkjkgmohmcobaaGreatDoor
