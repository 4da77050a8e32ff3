/-
  Texts of this claim, joined: KX, KY, JF.
-/
import Derived.Great.BuildSlice
import Derived.Test.YtnkjkgmohmcobaaGreatDoorBc05
set_option maxHeartbeats 6400000
set_option maxRecDepth 100000
namespace Go.Proofs.YtnkjkgmohmcobaaGreatDoor
open Go.RowKit
theorem Turn.below {B r:Nat} {w W W':World} (ht:Turn (fun q=>q=r) W W') (hb:Below B w W) (hr:B≤r) (hl:r<W.heap.size):Below B w W':=
 ⟨ht.os.trans hb.os,ht.tape.trans hb.tape,ht.output.trans hb.output,Nat.le_trans hb.size ht.size,fun k hk=>(ht.block k (by omega) (by omega)).trans (hb.block k hk)⟩
structure RdS (W:World) (r g o n:Nat) (bs:List UInt8):Prop where
 k:Blk W r 253 #[.slice (some ⟨g,o,none⟩) n n,.bool false]
 len:bs.length=n
 rd:Reads W r 1 (some ⟨g,o,none⟩) n (bs.map byteV)
theorem RdS.step {W:World} {r g o n:Nat} {bs:List UInt8} (h:RdS W r g o n bs) (h8:n≤8) (width:Nat) (h1:1≤width) (hw:width<n):
  Calls Tryz.prog 109 #[.pointer (some ⟨r,0,none⟩),.int .i64 (width:Nat)] W fun e w'=>e= .returned (.int .i64 (numI (cutB bs 0 width)))∧RdS w' r g (o+width) (n-width) (bs.drop width)∧Turn (fun q=>q=r) W w':=by
 refine (beNum_any r g o n width bs W h.k h.len h8 h1 (by omega) h.rd).mono ?_
 rintro e w' ⟨rfl,A',k',hA,ht⟩
 obtain rfl:=hA hw
 refine ⟨rfl,⟨k',by rw [List.length_drop,h.len],?_⟩,ht⟩
 have h2:=h.rd.cut (k:=width) (cap:=n) (by omega) (Nat.le_refl _)
 rw [if_neg (by omega),Option.map_some,add_plain,Nat.mul_one, ← List.map_drop] at h2
 have hl:=h.k.lt
 exact h2.keep (fun p hp=>World.cell?_of_block (ht.block p.block (by omega) (by omega)))
theorem RdS.last {W:World} {r g o n:Nat} {bs:List UInt8} (h:RdS W r g o n bs) (h8:n≤8) (h1:1≤n):
  Calls Tryz.prog 109 #[.pointer (some ⟨r,0,none⟩),.int .i64 (n:Nat)] W fun e w'=>e= .returned (.int .i64 (numI (cutB bs 0 n)))∧Turn (fun q=>q=r) W w':=by
 refine (beNum_any r g o n n bs W h.k h.len h8 h1 (Nat.le_refl _) h.rd).mono ?_
 rintro e w' ⟨rfl,A',k',_,ht⟩
 exact ⟨rfl,ht⟩
def MetaE (w:World) (o:Option (ConfD × Int)) (e:Ending) (w':World):Prop:=
 ((o=none∧e= .returned (.tuple #[confV ⟨0,0,0,0,0⟩,.int .i64 0,.int .i64 14]))∨(∃x u,o=some (x,u)∧e= .returned (.tuple #[confV x,.int .i64 u,.int .i64 0])))∧Below w.heap.size w w'
theorem metaGet_any (bs:List UInt8) (hl:bs.length=512) (w:World):Calls Tryz.prog 59 #[pgV bs] w (MetaE w (metaG bs)):=by
 have HNT:=hide (fun W=>pNote_any bs hl W)
 have HNO:=hide (fun W=>pNo_any bs hl W)
 have HNX:=hide (fun W=>pNext_any bs hl W)
 have HPT:=hide (fun (x:Int) W=>put_gives 8 x W (by omega) (by omega))
 have hcl:(cutB bs 16 8).length=8:=by unfold cutB;rw [List.length_take,List.length_drop];omega
 have HBB:=hide (beB_numI (cutB bs 16 8) hcl)
 have HII:=hide (show (Tryz.prog.info? 116).map (·.size)=some ((bs.map byteV).toArray).size by rw [pg_size bs hl];exact info_pg)
 obtain ⟨x16,hx⟩:∃x,bs[16]?=some x:=⟨_,List.getElem?_eq_getElem (by omega)⟩
 have hx1:=numI_one bs 16 x16 hx
 have HG:=hide (show metaG bs=(if numI (cutB bs 12 2)=0∧numI (cutB bs 16 1)=0∧confOk ⟨numI (cutB bs 17 1),numI (cutB bs 18 2),numI (cutB bs 20 1),numI (cutB bs 21 1),numI (cutB bs 22 2)⟩=true∧numI (cutB bs 17 1)<numI (cutB bs 14 2)∧numI (cutB bs 14 2)≤numI (cutB bs 18 2) then some (⟨numI (cutB bs 17 1),numI (cutB bs 18 2),numI (cutB bs 20 1),numI (cutB bs 21 1),numI (cutB bs 22 2)⟩,numI (cutB bs 14 2)) else none) by
  unfold metaG confB
  rw [show bs.getD 16 0=x16 by rw [List.getD_eq_getElem?_getD,hx];rfl,hx1]
  congr 2
  rw [eq_iff_iff]
  constructor
  ·rintro ⟨q2,q3⟩;exact ⟨by rw [q2];rfl,q3⟩
  ·rintro ⟨q2,q3⟩;exact ⟨by simpa using q2,q3⟩)
 have HCL:=hide hcl
 unfold pgV at*
 generalize hX:(bs.map byteV).toArray=X at*
 clear hX hl hx hx1 hcl
 go_enter Tryz.func59,Tryz.ntmps59
 go_upto_region 1 with (fail)
 refine gen2 (R:=fun W=>Code.wp _ _ _ _ W) (fun W1 kB kR hb1 hz1=>?_)
 have HKB1:=hide kB
 have HKR1:=hide kR
 have HB1:=hide hb1
 clear kB kR hb1
 go_wp2_with (refine wpList_load_row rfl 116 (.tmp 1) rfl w.heap.size rfl 116 X (0,0) _ HKB1.out Tryz.underlying116 rfl HII.out ?_)
 refine (HNT.out _).mono ?_
 rintro e W2 ⟨rfl,hb2⟩
 go_wp2_with fail
 refine (HPT.out _ _).mono ?_
 rintro e W3 ⟨A3,c3,rfl,hn3,ho3,hr3,hb3⟩
 rw [HBB.out] at hr3
 have HRE:=hide (beRead_any A3 c3 (cutB bs 16 8) W3.heap.size W3 (Nat.le_refl _) HCL.out hr3)
 have HL3:=hide (HB1.out.trans ((hb2.trans (hb3.mono hb2.size)).mono HB1.out.size))
 have HKB3:=hide (Blk.via hb3 (Blk.via hb2 HKB1.out))
 have HKR3:=hide (Blk.via hb3 (Blk.via hb2 HKR1.out))
 clear hn3 ho3 hr3 hb3 hb2
 have hmf:∀(fn:Fn) (first cap:Array Value) (w:World),(Instr.makeFunc fn first cap).run Tryz.prog w= .ok (.func fn first cap) w:=fun _ _ _ _=>rfl
 go_wp2_with fail
 refine HRE.out.mono ?_
 rintro e W4 ⟨r,g,rfl,kr,hrd,hr4,hb4⟩
 have hlr:=kr.lt
 have hrw:w.heap.size+1<r:=by have:=HKR3.out.lt;omega
 have HL4:=hide (HL3.out.trans (hb4.mono HL3.out.size))
 have HKB4:=hide (Blk.via hb4 HKB3.out)
 have HKR4:=hide (Blk.via hb4 HKR3.out)
 obtain ⟨L0,hL0⟩:∃L,L=(cutB bs 16 8).drop 0:=⟨_,rfl⟩
 have HLL0:=hide hL0
 rw [List.drop_zero] at hL0
 have hst:RdS W4 r g 0 8 L0:=hL0▸⟨kr,HCL.out,hrd⟩
 clear kr hrd hb4 hL0
 obtain ⟨z,hz⟩:∃x,x=numI (cutB L0 0 1):=⟨_,rfl⟩
 have HV0:=hide (show z=numI (cutB bs (16+0) 1) by rw [hz,HLL0.out,cutB_cutB bs 16 8 0 1 (by omega)])
 have hS:=hst.step (by omega) 1 (by omega) (by omega)
 obtain ⟨L1,hL1⟩:∃L,L=L0.drop 1:=⟨_,rfl⟩
 have HLL1:=hide (show L1=(cutB bs 16 8).drop 1 by rw [hL1,HLL0.out,List.drop_drop])
 rw [← hz, ← hL1] at hS
 have HS:=hide hS
 clear hst hS hz hL1
 go_wp2_with fail
 refine HS.out.mono ?_
 rintro e W5 ⟨rfl,hst1,ht⟩
 have HL5:=hide (ht.below HL4.out (by omega) hlr)
 have HKB5:=hide (show Blk W5 w.heap.size 116 X from (ht.block _ HKB4.out.lt (by omega)).trans HKB4.out)
 have HKR5:=hide (show Blk W5 (w.heap.size+1) 23 _ from (ht.block _ HKR4.out.lt (by omega)).trans HKR4.out)
 have hlr:=Nat.lt_of_lt_of_le hlr ht.size
 clear ht HS
 obtain ⟨v1,hv1⟩:∃x,x=numI (cutB L1 0 1):=⟨_,rfl⟩
 have HV1:=hide (show v1=numI (cutB bs (16+1) 1) by rw [hv1,HLL1.out,cutB_cutB bs 16 8 1 1 (by omega)])
 have hS:=hst1.step (by omega) 1 (by omega) (by omega)
 obtain ⟨L2,hL2⟩:∃L,L=L1.drop 1:=⟨_,rfl⟩
 have HLL2:=hide (show L2=(cutB bs 16 8).drop 2 by rw [hL2,HLL1.out,List.drop_drop])
 rw [← hv1, ← hL2] at hS
 have HS:=hide hS
 clear hst1 hS hv1 hL2
 go_wp2_with fail
 refine HS.out.mono ?_
 rintro e W6 ⟨rfl,hst2,ht⟩
 have HL6:=hide (ht.below HL5.out (by omega) hlr)
 have HKB6:=hide (show Blk W6 w.heap.size 116 X from (ht.block _ HKB5.out.lt (by omega)).trans HKB5.out)
 have HKR6:=hide (show Blk W6 (w.heap.size+1) 23 _ from (ht.block _ HKR5.out.lt (by omega)).trans HKR5.out)
 have hlr:=Nat.lt_of_lt_of_le hlr ht.size
 clear ht HS
 obtain ⟨v2,hv2⟩:∃x,x=numI (cutB L2 0 2):=⟨_,rfl⟩
 have HV2:=hide (show v2=numI (cutB bs (16+2) 2) by rw [hv2,HLL2.out,cutB_cutB bs 16 8 2 2 (by omega)])
 have hS:=hst2.step (by omega) 2 (by omega) (by omega)
 obtain ⟨L3,hL3⟩:∃L,L=L2.drop 2:=⟨_,rfl⟩
 have HLL3:=hide (show L3=(cutB bs 16 8).drop 4 by rw [hL3,HLL2.out,List.drop_drop])
 rw [← hv2, ← hL3] at hS
 have HS:=hide hS
 clear hst2 hS hv2 hL3
 go_wp2_with fail
 refine HS.out.mono ?_
 rintro e W7 ⟨rfl,hst3,ht⟩
 have HL7:=hide (ht.below HL6.out (by omega) hlr)
 have HKB7:=hide (show Blk W7 w.heap.size 116 X from (ht.block _ HKB6.out.lt (by omega)).trans HKB6.out)
 have HKR7:=hide (show Blk W7 (w.heap.size+1) 23 _ from (ht.block _ HKR6.out.lt (by omega)).trans HKR6.out)
 have hlr:=Nat.lt_of_lt_of_le hlr ht.size
 clear ht HS
 obtain ⟨v3,hv3⟩:∃x,x=numI (cutB L3 0 1):=⟨_,rfl⟩
 have HV3:=hide (show v3=numI (cutB bs (16+4) 1) by rw [hv3,HLL3.out,cutB_cutB bs 16 8 4 1 (by omega)])
 have hS:=hst3.step (by omega) 1 (by omega) (by omega)
 obtain ⟨L4,hL4⟩:∃L,L=L3.drop 1:=⟨_,rfl⟩
 have HLL4:=hide (show L4=(cutB bs 16 8).drop 5 by rw [hL4,HLL3.out,List.drop_drop])
 rw [← hv3, ← hL4] at hS
 have HS:=hide hS
 clear hst3 hS hv3 hL4
 go_wp2_with fail
 refine HS.out.mono ?_
 rintro e W8 ⟨rfl,hst4,ht⟩
 have HL8:=hide (ht.below HL7.out (by omega) hlr)
 have HKB8:=hide (show Blk W8 w.heap.size 116 X from (ht.block _ HKB7.out.lt (by omega)).trans HKB7.out)
 have HKR8:=hide (show Blk W8 (w.heap.size+1) 23 _ from (ht.block _ HKR7.out.lt (by omega)).trans HKR7.out)
 have hlr:=Nat.lt_of_lt_of_le hlr ht.size
 clear ht HS
 obtain ⟨v4,hv4⟩:∃x,x=numI (cutB L4 0 1):=⟨_,rfl⟩
 have HV4:=hide (show v4=numI (cutB bs (16+5) 1) by rw [hv4,HLL4.out,cutB_cutB bs 16 8 5 1 (by omega)])
 have hS:=hst4.step (by omega) 1 (by omega) (by omega)
 obtain ⟨L5,hL5⟩:∃L,L=L4.drop 1:=⟨_,rfl⟩
 have HLL5:=hide (show L5=(cutB bs 16 8).drop 6 by rw [hL5,HLL4.out,List.drop_drop])
 rw [← hv4, ← hL5] at hS
 have HS:=hide hS
 clear hst4 hS hv4 hL5
 go_wp2_with fail
 refine HS.out.mono ?_
 rintro e W9 ⟨rfl,hst5,ht⟩
 have HL9:=hide (ht.below HL8.out (by omega) hlr)
 have HKB9:=hide (show Blk W9 w.heap.size 116 X from (ht.block _ HKB8.out.lt (by omega)).trans HKB8.out)
 have HKR9:=hide (show Blk W9 (w.heap.size+1) 23 _ from (ht.block _ HKR8.out.lt (by omega)).trans HKR8.out)
 have hlr:=Nat.lt_of_lt_of_le hlr ht.size
 clear ht HS
 obtain ⟨v5,hv5⟩:∃x,x=numI (cutB L5 0 2):=⟨_,rfl⟩
 have HV5:=hide (show v5=numI (cutB bs (16+6) 2) by rw [hv5,HLL5.out,cutB_cutB bs 16 8 6 2 (by omega)])
 have hS:=hst5.last (by omega) (by omega)
 rw [← hv5] at hS
 have HS:=hide hS
 clear hst5 hS hv5
 go_wp2_with fail
 refine HS.out.mono ?_
 rintro e W10 ⟨rfl,ht⟩
 have HL10:=hide (ht.below HL9.out (by omega) hlr)
 have HKB10:=hide (show Blk W10 w.heap.size 116 X from (ht.block _ HKB9.out.lt (by omega)).trans HKB9.out)
 have HKR10:=hide (show Blk W10 (w.heap.size+1) 23 _ from (ht.block _ HKR9.out.lt (by omega)).trans HKR9.out)
 have hlr:=Nat.lt_of_lt_of_le hlr ht.size
 clear ht HS
 have hgg:=HG.out
 rw [← HV0.out, ← HV1.out, ← HV2.out, ← HV3.out, ← HV4.out, ← HV5.out] at hgg
 have HGG:=hide hgg
 clear hgg
 generalize numI (cutB bs 12 2)=no at*
 generalize numI (cutB bs 14 2)=u at*
 have HCK:=hide (fun W=>(show Calls Tryz.prog 51 #[.agg #[.int .i64 v1,.int .i64 v2,.int .i64 v3,.int .i64 v4,.int .i64 v5]] W (fun e w'=>e= .returned (.int .i64 (confE ⟨v1,v2,v3,v4,v5⟩))∧Below W.heap.size W w') from metaCheck_any ⟨v1,v2,v3,v4,v5⟩ W))
 have HWI:=hide (fun W=>metaWithin_any u (v1+1) v2 W)
 go_upto_region 4 with (fail)
 refine gen1 (R:=fun W=>Code.wp _ _ _ _ W) (fun W11 kC hb11 hz11=>?_)
 obtain ⟨gc,hgc⟩:∃g,g=W10.heap.size:=⟨_,rfl⟩
 rw [← hgc] at kC
 rw [← hgc]
 have HKC:=hide kC
 have HL6:=hide (HL10.out.trans (hb11.mono HL10.out.size))
 have HKB:=hide (Blk.via hb11 HKB10.out)
 have HKR6:=hide (Blk.via hb11 HKR10.out)
 clear kC hb11 hgc hlr hrw hmf
 cases bno:(no != 0)
 rotate_left
 ·have HM:=hide (show metaG bs=none by rw [HGG.out,if_neg];rintro ⟨q1,q2,q3,q4,q5⟩;rw [q1] at bno;cases bno)
  refine wp_region_inv [fun v _=>v= .agg X,fun v _=>v= .int .i64 no,fun v _=>v= .bool true,fun v _=>v= .bool true,fun v _=>v=undef,fun v _=>v=undef,fun v _=>v= .bool true,fun v _=>v= .bool true,fun v _=>v=undef,fun v _=>v=undef,fun v _=>v=undef,fun v _=>v= .bool true,fun v _=>v= .bool true,fun v _=>v=undef,fun v _=>v=undef,fun v _=>v=undef,fun v _=>v=undef,fun v _=>v=undef,fun v _=>v=undef,fun v _=>v=undef,fun v _=>v=undef,fun v _=>v=undef,fun v _=>v= .bool true] (by kernel_rfl) (by kernel_rfl) (by kernel_rfl) ?st ?steps ?fin
  case st=>
   intro i v W W' hWW h
   match i with
   |0|1|2|3|4|5|6|7|8|9|10|11|12|13|14|15|16|17|18|19|20|21|22=>exact h
   |(i+23)=>exact h
  case steps=>
   simp only [stepsI]
   refine ⟨?_,?_,?_,?_,?_,?_,?_,?_,?_,?_,?_,?_,?_,?_,?_,?_,?_,?_,?_,?_,?_,?_,?_,trivial⟩
   ·intro f W hbW hdp
    have kB:=hide (Blk.via hbW HKB.out)
    simp only [fS,Nat.reduceAdd]
    go_wp2_with (refine wpList_load_row rfl 116 (.tmp 1) rfl w.heap.size rfl 116 X (0,0) _ kB.out Tryz.underlying116 rfl HII.out ?_)
    exact ⟨rfl,_,rfl,rfl,Below.refl _ _⟩
   ·intro f W hbW hdp
    have e0:f 0= .agg X:=hdp ⟨0,.data⟩ (mfl (by simp) rfl)
    simp only [fS,Nat.reduceAdd,e0]
    go_wp2_with (go_at_call 110;refine (HNO.out _).mono ?_;rintro e w' ⟨rfl,hb'⟩)
    exact ⟨rfl,_,rfl,rfl,hb'⟩
   ·intro f W hbW hdp
    have e1:f 1= .int .i64 no:=hdp ⟨1,.data⟩ (mfl (by simp) rfl)
    simp only [fS,Nat.reduceAdd,e1]
    go_wp2
    exact ⟨rfl,_,rfl,rfl,Below.refl _ _⟩
   ·intro f W hbW hdp
    have e2:f 2= .bool true:=hdp ⟨2,.data⟩ (mfl (by simp) rfl)
    simp only [fS,Nat.reduceAdd,e2]
    go_wp2
    exact ⟨rfl,_,rfl,rfl,Below.refl _ _⟩
   ·intro f W hbW hdp
    have e3:f 3= .bool true:=hdp ⟨3,.guard⟩ (mfl (by simp) rfl)
    simp only [fS,Nat.reduceAdd,e3]
    go_wp2
    exact ⟨rfl,_,rfl,rfl,Below.refl _ _⟩
   ·intro f W hbW hdp
    have e3:f 3= .bool true:=hdp ⟨3,.guard⟩ (mfl (by simp) rfl)
    simp only [fS,Nat.reduceAdd,e3]
    go_wp2
    exact ⟨rfl,_,rfl,rfl,Below.refl _ _⟩
   ·intro f W hbW hdp
    have e3:f 3= .bool true:=hdp ⟨3,.data⟩ (mfl (by simp) rfl)
    have e5:f 5=undef:=hdp ⟨5,.data⟩ (mfl (by simp) rfl)
    simp only [fS,Nat.reduceAdd,e3,e5]
    go_wp2
    exact ⟨rfl,_,rfl,rfl,Below.refl _ _⟩
   ·intro f W hbW hdp
    have e6:f 6= .bool true:=hdp ⟨6,.data⟩ (mfl (by simp) rfl)
    simp only [fS,Nat.reduceAdd,e6]
    go_wp2
    exact ⟨rfl,_,rfl,rfl,Below.refl _ _⟩
   ·intro f W hbW hdp
    have e7:f 7= .bool true:=hdp ⟨7,.guard⟩ (mfl (by simp) rfl)
    simp only [fS,Nat.reduceAdd,e7]
    go_wp2
    exact ⟨rfl,_,rfl,rfl,Below.refl _ _⟩
   ·intro f W hbW hdp
    have e7:f 7= .bool true:=hdp ⟨7,.guard⟩ (mfl (by simp) rfl)
    simp only [fS,Nat.reduceAdd,e7]
    go_wp2
    exact ⟨rfl,_,rfl,rfl,Below.refl _ _⟩
   ·intro f W hbW hdp
    have e7:f 7= .bool true:=hdp ⟨7,.guard⟩ (mfl (by simp) rfl)
    simp only [fS,Nat.reduceAdd,e7]
    go_wp2
    exact ⟨rfl,_,rfl,rfl,Below.refl _ _⟩
   ·intro f W hbW hdp
    have e7:f 7= .bool true:=hdp ⟨7,.data⟩ (mfl (by simp) rfl)
    have e10:f 10=undef:=hdp ⟨10,.data⟩ (mfl (by simp) rfl)
    simp only [fS,Nat.reduceAdd,e7,e10]
    go_wp2
    exact ⟨rfl,_,rfl,rfl,Below.refl _ _⟩
   ·intro f W hbW hdp
    have e11:f 11= .bool true:=hdp ⟨11,.data⟩ (mfl (by simp) rfl)
    simp only [fS,Nat.reduceAdd,e11]
    go_wp2
    exact ⟨rfl,_,rfl,rfl,Below.refl _ _⟩
   ·intro f W hbW hdp
    have e12:f 12= .bool true:=hdp ⟨12,.guard⟩ (mfl (by simp) rfl)
    simp only [fS,Nat.reduceAdd,e12]
    go_wp2
    exact ⟨rfl,_,rfl,rfl,Below.refl _ _⟩
   ·intro f W hbW hdp
    have e12:f 12= .bool true:=hdp ⟨12,.guard⟩ (mfl (by simp) rfl)
    simp only [fS,Nat.reduceAdd,e12]
    go_wp2
    exact ⟨rfl,_,rfl,rfl,Below.refl _ _⟩
   ·intro f W hbW hdp
    have e12:f 12= .bool true:=hdp ⟨12,.guard⟩ (mfl (by simp) rfl)
    simp only [fS,Nat.reduceAdd,e12]
    go_wp2
    exact ⟨rfl,_,rfl,rfl,Below.refl _ _⟩
   ·intro f W hbW hdp
    have e12:f 12= .bool true:=hdp ⟨12,.guard⟩ (mfl (by simp) rfl)
    simp only [fS,Nat.reduceAdd,e12]
    go_wp2
    exact ⟨rfl,_,rfl,rfl,Below.refl _ _⟩
   ·intro f W hbW hdp
    have e12:f 12= .bool true:=hdp ⟨12,.guard⟩ (mfl (by simp) rfl)
    simp only [fS,Nat.reduceAdd,e12]
    go_wp2
    exact ⟨rfl,_,rfl,rfl,Below.refl _ _⟩
   ·intro f W hbW hdp
    have e12:f 12= .bool true:=hdp ⟨12,.guard⟩ (mfl (by simp) rfl)
    simp only [fS,Nat.reduceAdd,e12]
    go_wp2
    exact ⟨rfl,_,rfl,rfl,Below.refl _ _⟩
   ·intro f W hbW hdp
    have e12:f 12= .bool true:=hdp ⟨12,.guard⟩ (mfl (by simp) rfl)
    simp only [fS,Nat.reduceAdd,e12]
    go_wp2
    exact ⟨rfl,_,rfl,rfl,Below.refl _ _⟩
   ·intro f W hbW hdp
    have e12:f 12= .bool true:=hdp ⟨12,.guard⟩ (mfl (by simp) rfl)
    simp only [fS,Nat.reduceAdd,e12]
    go_wp2
    exact ⟨rfl,_,rfl,rfl,Below.refl _ _⟩
   ·intro f W hbW hdp
    have e12:f 12= .bool true:=hdp ⟨12,.guard⟩ (mfl (by simp) rfl)
    simp only [fS,Nat.reduceAdd,e12]
    go_wp2
    exact ⟨rfl,_,rfl,rfl,Below.refl _ _⟩
   ·intro f W hbW hdp
    have e12:f 12= .bool true:=hdp ⟨12,.data⟩ (mfl (by simp) rfl)
    have e21:f 21=undef:=hdp ⟨21,.data⟩ (mfl (by simp) rfl)
    simp only [fS,Nat.reduceAdd,e12,e21]
    go_wp2
    exact ⟨rfl,_,rfl,rfl,Below.refl _ _⟩
  case fin=>
   intro f W hbW hA
   have e22:f 22= .bool true:=hA 22 (by simp)
   show wpList Tryz.prog #[] (Exit.then _ _) [] _ _
   simp only [fS,Nat.reduceAdd,e22]
   clear hA e22
   have HKR7:=hide (Blk.via hbW HKR6.out)
   have HL7:=hide (HL6.out.trans (hbW.mono HL6.out.size))
   clear hbW
   have c20:=(HKR7.out).cell 0
   have c21:=(HKR7.out).cell 1
   have c22:=(HKR7.out).cell 2
   have c23:=(HKR7.out).cell 3
   have c24:=(HKR7.out).cell 4
   have f20:=(HKR7.out).frozen 0
   have f21:=(HKR7.out).frozen 1
   have f22:=(HKR7.out).frozen 2
   have f23:=(HKR7.out).frozen 3
   have f24:=(HKR7.out).frozen 4
   have l20:=(HKR7.out).lt
   go_wp2_with fail
   refine bodyPost_ret (results_row_2 Tryz.results59 _ _ (w.heap.size+1) #[.int .i64 0,.int .i64 0,.int .i64 0,.int .i64 0,.int .i64 0] rfl (run_loadVar_row _ _ _ _ #[.int .i64 0,.int .i64 0,.int .i64 0,.int .i64 0,.int .i64 0] (0,0) _ (((((Blk.set_ HKR7.out 0 _).set_ 1 _).set_ 2 _).set_ 3 _).set_ 4 _) Tryz.underlying23 rfl info_confK)) rfl ⟨.inl ⟨HM.out,rfl⟩,(((((Below.setCell HL7.out (p:=⟨w.heap.size+1,0,none⟩) (Nat.le_succ _) _).setCell (p:=⟨w.heap.size+1,1,none⟩) (Nat.le_succ _) _).setCell (p:=⟨w.heap.size+1,2,none⟩) (Nat.le_succ _) _).setCell (p:=⟨w.heap.size+1,3,none⟩) (Nat.le_succ _) _).setCell (p:=⟨w.heap.size+1,4,none⟩) (Nat.le_succ _) _)⟩
 cases bz:(z != 0)
 rotate_left
 ·have HM:=hide (show metaG bs=none by rw [HGG.out,if_neg];rintro ⟨q1,q2,q3,q4,q5⟩;rw [q2] at bz;cases bz)
  refine wp_region_inv [fun v _=>v= .agg X,fun v _=>v= .int .i64 no,fun v _=>v= .bool false,fun v _=>v= .bool false,fun v _=>v= .int .i64 z,fun v _=>v= .bool true,fun v _=>v= .bool true,fun v _=>v= .bool true,fun v _=>v=undef,fun v _=>v=undef,fun v _=>v=undef,fun v _=>v= .bool true,fun v _=>v= .bool true,fun v _=>v=undef,fun v _=>v=undef,fun v _=>v=undef,fun v _=>v=undef,fun v _=>v=undef,fun v _=>v=undef,fun v _=>v=undef,fun v _=>v=undef,fun v _=>v=undef,fun v _=>v= .bool true] (by kernel_rfl) (by kernel_rfl) (by kernel_rfl) ?st ?steps ?fin
  case st=>
   intro i v W W' hWW h
   match i with
   |0|1|2|3|4|5|6|7|8|9|10|11|12|13|14|15|16|17|18|19|20|21|22=>exact h
   |(i+23)=>exact h
  case steps=>
   simp only [stepsI]
   refine ⟨?_,?_,?_,?_,?_,?_,?_,?_,?_,?_,?_,?_,?_,?_,?_,?_,?_,?_,?_,?_,?_,?_,?_,trivial⟩
   ·intro f W hbW hdp
    have kB:=hide (Blk.via hbW HKB.out)
    simp only [fS,Nat.reduceAdd]
    go_wp2_with (refine wpList_load_row rfl 116 (.tmp 1) rfl w.heap.size rfl 116 X (0,0) _ kB.out Tryz.underlying116 rfl HII.out ?_)
    exact ⟨rfl,_,rfl,rfl,Below.refl _ _⟩
   ·intro f W hbW hdp
    have e0:f 0= .agg X:=hdp ⟨0,.data⟩ (mfl (by simp) rfl)
    simp only [fS,Nat.reduceAdd,e0]
    go_wp2_with (go_at_call 110;refine (HNO.out _).mono ?_;rintro e w' ⟨rfl,hb'⟩)
    exact ⟨rfl,_,rfl,rfl,hb'⟩
   ·intro f W hbW hdp
    have e1:f 1= .int .i64 no:=hdp ⟨1,.data⟩ (mfl (by simp) rfl)
    simp only [fS,Nat.reduceAdd,e1]
    go_wp2
    exact ⟨rfl,_,rfl,rfl,Below.refl _ _⟩
   ·intro f W hbW hdp
    have e2:f 2= .bool false:=hdp ⟨2,.data⟩ (mfl (by simp) rfl)
    simp only [fS,Nat.reduceAdd,e2]
    go_wp2
    exact ⟨rfl,_,rfl,rfl,Below.refl _ _⟩
   ·intro f W hbW hdp
    have e3:f 3= .bool false:=hdp ⟨3,.guard⟩ (mfl (by simp) rfl)
    simp only [fS,Nat.reduceAdd,e3]
    go_wp2
    exact ⟨rfl,_,rfl,rfl,Below.refl _ _⟩
   ·intro f W hbW hdp
    have e3:f 3= .bool false:=hdp ⟨3,.guard⟩ (mfl (by simp) rfl)
    have e4:f 4= .int .i64 z:=hdp ⟨4,.data⟩ (mfl (by simp) rfl)
    simp only [fS,Nat.reduceAdd,e3,e4]
    go_wp2
    exact ⟨rfl,_,rfl,rfl,Below.refl _ _⟩
   ·intro f W hbW hdp
    have e3:f 3= .bool false:=hdp ⟨3,.data⟩ (mfl (by simp) rfl)
    have e5:f 5= .bool true:=hdp ⟨5,.data⟩ (mfl (by simp) rfl)
    simp only [fS,Nat.reduceAdd,e3,e5]
    go_wp2
    exact ⟨rfl,_,rfl,rfl,Below.refl _ _⟩
   ·intro f W hbW hdp
    have e6:f 6= .bool true:=hdp ⟨6,.data⟩ (mfl (by simp) rfl)
    simp only [fS,Nat.reduceAdd,e6]
    go_wp2
    exact ⟨rfl,_,rfl,rfl,Below.refl _ _⟩
   ·intro f W hbW hdp
    have e7:f 7= .bool true:=hdp ⟨7,.guard⟩ (mfl (by simp) rfl)
    simp only [fS,Nat.reduceAdd,e7]
    go_wp2
    exact ⟨rfl,_,rfl,rfl,Below.refl _ _⟩
   ·intro f W hbW hdp
    have e7:f 7= .bool true:=hdp ⟨7,.guard⟩ (mfl (by simp) rfl)
    simp only [fS,Nat.reduceAdd,e7]
    go_wp2
    exact ⟨rfl,_,rfl,rfl,Below.refl _ _⟩
   ·intro f W hbW hdp
    have e7:f 7= .bool true:=hdp ⟨7,.guard⟩ (mfl (by simp) rfl)
    simp only [fS,Nat.reduceAdd,e7]
    go_wp2
    exact ⟨rfl,_,rfl,rfl,Below.refl _ _⟩
   ·intro f W hbW hdp
    have e7:f 7= .bool true:=hdp ⟨7,.data⟩ (mfl (by simp) rfl)
    have e10:f 10=undef:=hdp ⟨10,.data⟩ (mfl (by simp) rfl)
    simp only [fS,Nat.reduceAdd,e7,e10]
    go_wp2
    exact ⟨rfl,_,rfl,rfl,Below.refl _ _⟩
   ·intro f W hbW hdp
    have e11:f 11= .bool true:=hdp ⟨11,.data⟩ (mfl (by simp) rfl)
    simp only [fS,Nat.reduceAdd,e11]
    go_wp2
    exact ⟨rfl,_,rfl,rfl,Below.refl _ _⟩
   ·intro f W hbW hdp
    have e12:f 12= .bool true:=hdp ⟨12,.guard⟩ (mfl (by simp) rfl)
    simp only [fS,Nat.reduceAdd,e12]
    go_wp2
    exact ⟨rfl,_,rfl,rfl,Below.refl _ _⟩
   ·intro f W hbW hdp
    have e12:f 12= .bool true:=hdp ⟨12,.guard⟩ (mfl (by simp) rfl)
    simp only [fS,Nat.reduceAdd,e12]
    go_wp2
    exact ⟨rfl,_,rfl,rfl,Below.refl _ _⟩
   ·intro f W hbW hdp
    have e12:f 12= .bool true:=hdp ⟨12,.guard⟩ (mfl (by simp) rfl)
    simp only [fS,Nat.reduceAdd,e12]
    go_wp2
    exact ⟨rfl,_,rfl,rfl,Below.refl _ _⟩
   ·intro f W hbW hdp
    have e12:f 12= .bool true:=hdp ⟨12,.guard⟩ (mfl (by simp) rfl)
    simp only [fS,Nat.reduceAdd,e12]
    go_wp2
    exact ⟨rfl,_,rfl,rfl,Below.refl _ _⟩
   ·intro f W hbW hdp
    have e12:f 12= .bool true:=hdp ⟨12,.guard⟩ (mfl (by simp) rfl)
    simp only [fS,Nat.reduceAdd,e12]
    go_wp2
    exact ⟨rfl,_,rfl,rfl,Below.refl _ _⟩
   ·intro f W hbW hdp
    have e12:f 12= .bool true:=hdp ⟨12,.guard⟩ (mfl (by simp) rfl)
    simp only [fS,Nat.reduceAdd,e12]
    go_wp2
    exact ⟨rfl,_,rfl,rfl,Below.refl _ _⟩
   ·intro f W hbW hdp
    have e12:f 12= .bool true:=hdp ⟨12,.guard⟩ (mfl (by simp) rfl)
    simp only [fS,Nat.reduceAdd,e12]
    go_wp2
    exact ⟨rfl,_,rfl,rfl,Below.refl _ _⟩
   ·intro f W hbW hdp
    have e12:f 12= .bool true:=hdp ⟨12,.guard⟩ (mfl (by simp) rfl)
    simp only [fS,Nat.reduceAdd,e12]
    go_wp2
    exact ⟨rfl,_,rfl,rfl,Below.refl _ _⟩
   ·intro f W hbW hdp
    have e12:f 12= .bool true:=hdp ⟨12,.guard⟩ (mfl (by simp) rfl)
    simp only [fS,Nat.reduceAdd,e12]
    go_wp2
    exact ⟨rfl,_,rfl,rfl,Below.refl _ _⟩
   ·intro f W hbW hdp
    have e12:f 12= .bool true:=hdp ⟨12,.data⟩ (mfl (by simp) rfl)
    have e21:f 21=undef:=hdp ⟨21,.data⟩ (mfl (by simp) rfl)
    simp only [fS,Nat.reduceAdd,e12,e21]
    go_wp2
    exact ⟨rfl,_,rfl,rfl,Below.refl _ _⟩
  case fin=>
   intro f W hbW hA
   have e22:f 22= .bool true:=hA 22 (by simp)
   show wpList Tryz.prog #[] (Exit.then _ _) [] _ _
   simp only [fS,Nat.reduceAdd,e22]
   clear hA e22
   have HKR7:=hide (Blk.via hbW HKR6.out)
   have HL7:=hide (HL6.out.trans (hbW.mono HL6.out.size))
   clear hbW
   have c20:=(HKR7.out).cell 0
   have c21:=(HKR7.out).cell 1
   have c22:=(HKR7.out).cell 2
   have c23:=(HKR7.out).cell 3
   have c24:=(HKR7.out).cell 4
   have f20:=(HKR7.out).frozen 0
   have f21:=(HKR7.out).frozen 1
   have f22:=(HKR7.out).frozen 2
   have f23:=(HKR7.out).frozen 3
   have f24:=(HKR7.out).frozen 4
   have l20:=(HKR7.out).lt
   go_wp2_with fail
   refine bodyPost_ret (results_row_2 Tryz.results59 _ _ (w.heap.size+1) #[.int .i64 0,.int .i64 0,.int .i64 0,.int .i64 0,.int .i64 0] rfl (run_loadVar_row _ _ _ _ #[.int .i64 0,.int .i64 0,.int .i64 0,.int .i64 0,.int .i64 0] (0,0) _ (((((Blk.set_ HKR7.out 0 _).set_ 1 _).set_ 2 _).set_ 3 _).set_ 4 _) Tryz.underlying23 rfl info_confK)) rfl ⟨.inl ⟨HM.out,rfl⟩,(((((Below.setCell HL7.out (p:=⟨w.heap.size+1,0,none⟩) (Nat.le_succ _) _).setCell (p:=⟨w.heap.size+1,1,none⟩) (Nat.le_succ _) _).setCell (p:=⟨w.heap.size+1,2,none⟩) (Nat.le_succ _) _).setCell (p:=⟨w.heap.size+1,3,none⟩) (Nat.le_succ _) _).setCell (p:=⟨w.heap.size+1,4,none⟩) (Nat.le_succ _) _)⟩
 cases hok:confOk ⟨v1,v2,v3,v4,v5⟩
 ·have HM:=hide (show metaG bs=none by rw [HGG.out,if_neg];rintro ⟨q1,q2,q3,q4,q5⟩;rw [hok] at q3;cases q3)
  rw [show confE ⟨v1,v2,v3,v4,v5⟩=1 by unfold confE;rw [hok];rfl] at HCK
  clear hok
  refine wp_region_inv [fun v _=>v= .agg X,fun v _=>v= .int .i64 no,fun v _=>v= .bool false,fun v _=>v= .bool false,fun v _=>v= .int .i64 z,fun v _=>v= .bool false,fun v _=>v= .bool false,fun v _=>v= .bool false,fun v _=>v= .agg #[.int .i64 v1,.int .i64 v2,.int .i64 v3,.int .i64 v4,.int .i64 v5],fun v _=>v= .int .i64 1,fun v _=>v= .bool true,fun v _=>v= .bool true,fun v _=>v= .bool true,fun v _=>v=undef,fun v _=>v=undef,fun v _=>v=undef,fun v _=>v=undef,fun v _=>v=undef,fun v _=>v=undef,fun v _=>v=undef,fun v _=>v=undef,fun v _=>v=undef,fun v _=>v= .bool true] (by kernel_rfl) (by kernel_rfl) (by kernel_rfl) ?st ?steps ?fin
  case st=>
   intro i v W W' hWW h
   match i with
   |0|1|2|3|4|5|6|7|8|9|10|11|12|13|14|15|16|17|18|19|20|21|22=>exact h
   |(i+23)=>exact h
  case steps=>
   simp only [stepsI]
   refine ⟨?_,?_,?_,?_,?_,?_,?_,?_,?_,?_,?_,?_,?_,?_,?_,?_,?_,?_,?_,?_,?_,?_,?_,trivial⟩
   ·intro f W hbW hdp
    have kB:=hide (Blk.via hbW HKB.out)
    simp only [fS,Nat.reduceAdd]
    go_wp2_with (refine wpList_load_row rfl 116 (.tmp 1) rfl w.heap.size rfl 116 X (0,0) _ kB.out Tryz.underlying116 rfl HII.out ?_)
    exact ⟨rfl,_,rfl,rfl,Below.refl _ _⟩
   ·intro f W hbW hdp
    have e0:f 0= .agg X:=hdp ⟨0,.data⟩ (mfl (by simp) rfl)
    simp only [fS,Nat.reduceAdd,e0]
    go_wp2_with (go_at_call 110;refine (HNO.out _).mono ?_;rintro e w' ⟨rfl,hb'⟩)
    exact ⟨rfl,_,rfl,rfl,hb'⟩
   ·intro f W hbW hdp
    have e1:f 1= .int .i64 no:=hdp ⟨1,.data⟩ (mfl (by simp) rfl)
    simp only [fS,Nat.reduceAdd,e1]
    go_wp2
    exact ⟨rfl,_,rfl,rfl,Below.refl _ _⟩
   ·intro f W hbW hdp
    have e2:f 2= .bool false:=hdp ⟨2,.data⟩ (mfl (by simp) rfl)
    simp only [fS,Nat.reduceAdd,e2]
    go_wp2
    exact ⟨rfl,_,rfl,rfl,Below.refl _ _⟩
   ·intro f W hbW hdp
    have e3:f 3= .bool false:=hdp ⟨3,.guard⟩ (mfl (by simp) rfl)
    simp only [fS,Nat.reduceAdd,e3]
    go_wp2
    exact ⟨rfl,_,rfl,rfl,Below.refl _ _⟩
   ·intro f W hbW hdp
    have e3:f 3= .bool false:=hdp ⟨3,.guard⟩ (mfl (by simp) rfl)
    have e4:f 4= .int .i64 z:=hdp ⟨4,.data⟩ (mfl (by simp) rfl)
    simp only [fS,Nat.reduceAdd,e3,e4]
    go_wp2
    exact ⟨rfl,_,rfl,rfl,Below.refl _ _⟩
   ·intro f W hbW hdp
    have e3:f 3= .bool false:=hdp ⟨3,.data⟩ (mfl (by simp) rfl)
    have e5:f 5= .bool false:=hdp ⟨5,.data⟩ (mfl (by simp) rfl)
    simp only [fS,Nat.reduceAdd,e3,e5]
    go_wp2
    exact ⟨rfl,_,rfl,rfl,Below.refl _ _⟩
   ·intro f W hbW hdp
    have e6:f 6= .bool false:=hdp ⟨6,.data⟩ (mfl (by simp) rfl)
    simp only [fS,Nat.reduceAdd,e6]
    go_wp2
    exact ⟨rfl,_,rfl,rfl,Below.refl _ _⟩
   ·intro f W hbW hdp
    have e7:f 7= .bool false:=hdp ⟨7,.guard⟩ (mfl (by simp) rfl)
    have kc:=Blk.via hbW HKC.out
    have z0:=kc.cell 0
    have z1:=kc.cell 1
    have z2:=kc.cell 2
    have z3:=kc.cell 3
    have z4:=kc.cell 4
    clear kc
    simp only [fS,Nat.reduceAdd,e7]
    go_wp2
    exact ⟨rfl,_,rfl,rfl,Below.refl _ _⟩
   ·intro f W hbW hdp
    have e7:f 7= .bool false:=hdp ⟨7,.guard⟩ (mfl (by simp) rfl)
    have e8:f 8= .agg #[.int .i64 v1,.int .i64 v2,.int .i64 v3,.int .i64 v4,.int .i64 v5]:=hdp ⟨8,.data⟩ (mfl (by simp) rfl)
    simp only [fS,Nat.reduceAdd,e7,e8]
    go_wp2_with (go_at_call 51;refine (HCK.out _).mono ?_;rintro e w' ⟨rfl,hb'⟩)
    exact ⟨rfl,_,rfl,rfl,hb'⟩
   ·intro f W hbW hdp
    have e7:f 7= .bool false:=hdp ⟨7,.guard⟩ (mfl (by simp) rfl)
    have e9:f 9= .int .i64 1:=hdp ⟨9,.data⟩ (mfl (by simp) rfl)
    simp only [fS,Nat.reduceAdd,e7,e9]
    go_wp2
    exact ⟨rfl,_,rfl,rfl,Below.refl _ _⟩
   ·intro f W hbW hdp
    have e7:f 7= .bool false:=hdp ⟨7,.data⟩ (mfl (by simp) rfl)
    have e10:f 10= .bool true:=hdp ⟨10,.data⟩ (mfl (by simp) rfl)
    simp only [fS,Nat.reduceAdd,e7,e10]
    go_wp2
    exact ⟨rfl,_,rfl,rfl,Below.refl _ _⟩
   ·intro f W hbW hdp
    have e11:f 11= .bool true:=hdp ⟨11,.data⟩ (mfl (by simp) rfl)
    simp only [fS,Nat.reduceAdd,e11]
    go_wp2
    exact ⟨rfl,_,rfl,rfl,Below.refl _ _⟩
   ·intro f W hbW hdp
    have e12:f 12= .bool true:=hdp ⟨12,.guard⟩ (mfl (by simp) rfl)
    simp only [fS,Nat.reduceAdd,e12]
    go_wp2
    exact ⟨rfl,_,rfl,rfl,Below.refl _ _⟩
   ·intro f W hbW hdp
    have e12:f 12= .bool true:=hdp ⟨12,.guard⟩ (mfl (by simp) rfl)
    simp only [fS,Nat.reduceAdd,e12]
    go_wp2
    exact ⟨rfl,_,rfl,rfl,Below.refl _ _⟩
   ·intro f W hbW hdp
    have e12:f 12= .bool true:=hdp ⟨12,.guard⟩ (mfl (by simp) rfl)
    simp only [fS,Nat.reduceAdd,e12]
    go_wp2
    exact ⟨rfl,_,rfl,rfl,Below.refl _ _⟩
   ·intro f W hbW hdp
    have e12:f 12= .bool true:=hdp ⟨12,.guard⟩ (mfl (by simp) rfl)
    simp only [fS,Nat.reduceAdd,e12]
    go_wp2
    exact ⟨rfl,_,rfl,rfl,Below.refl _ _⟩
   ·intro f W hbW hdp
    have e12:f 12= .bool true:=hdp ⟨12,.guard⟩ (mfl (by simp) rfl)
    simp only [fS,Nat.reduceAdd,e12]
    go_wp2
    exact ⟨rfl,_,rfl,rfl,Below.refl _ _⟩
   ·intro f W hbW hdp
    have e12:f 12= .bool true:=hdp ⟨12,.guard⟩ (mfl (by simp) rfl)
    simp only [fS,Nat.reduceAdd,e12]
    go_wp2
    exact ⟨rfl,_,rfl,rfl,Below.refl _ _⟩
   ·intro f W hbW hdp
    have e12:f 12= .bool true:=hdp ⟨12,.guard⟩ (mfl (by simp) rfl)
    simp only [fS,Nat.reduceAdd,e12]
    go_wp2
    exact ⟨rfl,_,rfl,rfl,Below.refl _ _⟩
   ·intro f W hbW hdp
    have e12:f 12= .bool true:=hdp ⟨12,.guard⟩ (mfl (by simp) rfl)
    simp only [fS,Nat.reduceAdd,e12]
    go_wp2
    exact ⟨rfl,_,rfl,rfl,Below.refl _ _⟩
   ·intro f W hbW hdp
    have e12:f 12= .bool true:=hdp ⟨12,.guard⟩ (mfl (by simp) rfl)
    simp only [fS,Nat.reduceAdd,e12]
    go_wp2
    exact ⟨rfl,_,rfl,rfl,Below.refl _ _⟩
   ·intro f W hbW hdp
    have e12:f 12= .bool true:=hdp ⟨12,.data⟩ (mfl (by simp) rfl)
    have e21:f 21=undef:=hdp ⟨21,.data⟩ (mfl (by simp) rfl)
    simp only [fS,Nat.reduceAdd,e12,e21]
    go_wp2
    exact ⟨rfl,_,rfl,rfl,Below.refl _ _⟩
  case fin=>
   intro f W hbW hA
   have e22:f 22= .bool true:=hA 22 (by simp)
   show wpList Tryz.prog #[] (Exit.then _ _) [] _ _
   simp only [fS,Nat.reduceAdd,e22]
   clear hA e22
   have HKR7:=hide (Blk.via hbW HKR6.out)
   have HL7:=hide (HL6.out.trans (hbW.mono HL6.out.size))
   clear hbW
   have c20:=(HKR7.out).cell 0
   have c21:=(HKR7.out).cell 1
   have c22:=(HKR7.out).cell 2
   have c23:=(HKR7.out).cell 3
   have c24:=(HKR7.out).cell 4
   have f20:=(HKR7.out).frozen 0
   have f21:=(HKR7.out).frozen 1
   have f22:=(HKR7.out).frozen 2
   have f23:=(HKR7.out).frozen 3
   have f24:=(HKR7.out).frozen 4
   have l20:=(HKR7.out).lt
   go_wp2_with fail
   refine bodyPost_ret (results_row_2 Tryz.results59 _ _ (w.heap.size+1) #[.int .i64 0,.int .i64 0,.int .i64 0,.int .i64 0,.int .i64 0] rfl (run_loadVar_row _ _ _ _ #[.int .i64 0,.int .i64 0,.int .i64 0,.int .i64 0,.int .i64 0] (0,0) _ (((((Blk.set_ HKR7.out 0 _).set_ 1 _).set_ 2 _).set_ 3 _).set_ 4 _) Tryz.underlying23 rfl info_confK)) rfl ⟨.inl ⟨HM.out,rfl⟩,(((((Below.setCell HL7.out (p:=⟨w.heap.size+1,0,none⟩) (Nat.le_succ _) _).setCell (p:=⟨w.heap.size+1,1,none⟩) (Nat.le_succ _) _).setCell (p:=⟨w.heap.size+1,2,none⟩) (Nat.le_succ _) _).setCell (p:=⟨w.heap.size+1,3,none⟩) (Nat.le_succ _) _).setCell (p:=⟨w.heap.size+1,4,none⟩) (Nat.le_succ _) _)⟩
 rw [show confE ⟨v1,v2,v3,v4,v5⟩=0 by unfold confE;rw [hok];rfl] at HCK
 have hb16:1≤v1∧v1≤16:=by
  have:=hok
  unfold confOk at this
  simp only [decide_eq_true_eq] at this
  exact ⟨this.1,this.2.1⟩
 have hv1a:=hb16.1
 have hv1b:=hb16.2
 have HOK:=hide hok
 obtain ⟨wi,hwi⟩:∃x,x=withinB u (v1+1) v2:=⟨_,rfl⟩
 rw [← hwi] at HWI
 have HWB:=hide hwi
 clear hok hb16 hwi
 refine wp_region_inv [fun v _=>v= .agg X,fun v _=>v= .int .i64 no,fun v _=>v= .bool false,fun v _=>v= .bool false,fun v _=>v= .int .i64 z,fun v _=>v= .bool false,fun v _=>v= .bool false,fun v _=>v= .bool false,fun v _=>v= .agg #[.int .i64 v1,.int .i64 v2,.int .i64 v3,.int .i64 v4,.int .i64 v5],fun v _=>v= .int .i64 0,fun v _=>v= .bool false,fun v _=>v= .bool false,fun v _=>v= .bool false,fun v _=>v= .agg X,fun v _=>v= .int .i64 u,fun v _=>v= .pointer (some ⟨gc,0,none⟩),fun v _=>v= .int .i64 v1,fun v _=>v= .int .i64 (v1+1),fun v _=>v= .pointer (some ⟨gc,1,none⟩),fun v _=>v= .int .i64 v2,fun v _=>v= .bool wi,fun v _=>v= .bool (!wi),fun v _=>v= .bool (!wi)] (by kernel_rfl) (by kernel_rfl) (by kernel_rfl) ?st ?steps ?fin
 case st=>
  intro i v W W' hWW h
  match i with
  |0|1|2|3|4|5|6|7|8|9|10|11|12|13|14|15|16|17|18|19|20|21|22=>exact h
  |(i+23)=>exact h
 case steps=>
  simp only [stepsI]
  refine ⟨?_,?_,?_,?_,?_,?_,?_,?_,?_,?_,?_,?_,?_,?_,?_,?_,?_,?_,?_,?_,?_,?_,?_,trivial⟩
  ·intro f W hbW hdp
   have kB:=hide (Blk.via hbW HKB.out)
   simp only [fS,Nat.reduceAdd]
   go_wp2_with (refine wpList_load_row rfl 116 (.tmp 1) rfl w.heap.size rfl 116 X (0,0) _ kB.out Tryz.underlying116 rfl HII.out ?_)
   exact ⟨rfl,_,rfl,rfl,Below.refl _ _⟩
  ·intro f W hbW hdp
   have e0:f 0= .agg X:=hdp ⟨0,.data⟩ (mfl (by simp) rfl)
   simp only [fS,Nat.reduceAdd,e0]
   go_wp2_with (go_at_call 110;refine (HNO.out _).mono ?_;rintro e w' ⟨rfl,hb'⟩)
   exact ⟨rfl,_,rfl,rfl,hb'⟩
  ·intro f W hbW hdp
   have e1:f 1= .int .i64 no:=hdp ⟨1,.data⟩ (mfl (by simp) rfl)
   simp only [fS,Nat.reduceAdd,e1]
   go_wp2
   exact ⟨rfl,_,rfl,rfl,Below.refl _ _⟩
  ·intro f W hbW hdp
   have e2:f 2= .bool false:=hdp ⟨2,.data⟩ (mfl (by simp) rfl)
   simp only [fS,Nat.reduceAdd,e2]
   go_wp2
   exact ⟨rfl,_,rfl,rfl,Below.refl _ _⟩
  ·intro f W hbW hdp
   have e3:f 3= .bool false:=hdp ⟨3,.guard⟩ (mfl (by simp) rfl)
   simp only [fS,Nat.reduceAdd,e3]
   go_wp2
   exact ⟨rfl,_,rfl,rfl,Below.refl _ _⟩
  ·intro f W hbW hdp
   have e3:f 3= .bool false:=hdp ⟨3,.guard⟩ (mfl (by simp) rfl)
   have e4:f 4= .int .i64 z:=hdp ⟨4,.data⟩ (mfl (by simp) rfl)
   simp only [fS,Nat.reduceAdd,e3,e4]
   go_wp2
   exact ⟨rfl,_,rfl,rfl,Below.refl _ _⟩
  ·intro f W hbW hdp
   have e3:f 3= .bool false:=hdp ⟨3,.data⟩ (mfl (by simp) rfl)
   have e5:f 5= .bool false:=hdp ⟨5,.data⟩ (mfl (by simp) rfl)
   simp only [fS,Nat.reduceAdd,e3,e5]
   go_wp2
   exact ⟨rfl,_,rfl,rfl,Below.refl _ _⟩
  ·intro f W hbW hdp
   have e6:f 6= .bool false:=hdp ⟨6,.data⟩ (mfl (by simp) rfl)
   simp only [fS,Nat.reduceAdd,e6]
   go_wp2
   exact ⟨rfl,_,rfl,rfl,Below.refl _ _⟩
  ·intro f W hbW hdp
   have e7:f 7= .bool false:=hdp ⟨7,.guard⟩ (mfl (by simp) rfl)
   have kc:=Blk.via hbW HKC.out
   have z0:=kc.cell 0
   have z1:=kc.cell 1
   have z2:=kc.cell 2
   have z3:=kc.cell 3
   have z4:=kc.cell 4
   clear kc
   simp only [fS,Nat.reduceAdd,e7]
   go_wp2
   exact ⟨rfl,_,rfl,rfl,Below.refl _ _⟩
  ·intro f W hbW hdp
   have e7:f 7= .bool false:=hdp ⟨7,.guard⟩ (mfl (by simp) rfl)
   have e8:f 8= .agg #[.int .i64 v1,.int .i64 v2,.int .i64 v3,.int .i64 v4,.int .i64 v5]:=hdp ⟨8,.data⟩ (mfl (by simp) rfl)
   simp only [fS,Nat.reduceAdd,e7,e8]
   go_wp2_with (go_at_call 51;refine (HCK.out _).mono ?_;rintro e w' ⟨rfl,hb'⟩)
   exact ⟨rfl,_,rfl,rfl,hb'⟩
  ·intro f W hbW hdp
   have e7:f 7= .bool false:=hdp ⟨7,.guard⟩ (mfl (by simp) rfl)
   have e9:f 9= .int .i64 0:=hdp ⟨9,.data⟩ (mfl (by simp) rfl)
   simp only [fS,Nat.reduceAdd,e7,e9]
   go_wp2
   exact ⟨rfl,_,rfl,rfl,Below.refl _ _⟩
  ·intro f W hbW hdp
   have e7:f 7= .bool false:=hdp ⟨7,.data⟩ (mfl (by simp) rfl)
   have e10:f 10= .bool false:=hdp ⟨10,.data⟩ (mfl (by simp) rfl)
   simp only [fS,Nat.reduceAdd,e7,e10]
   go_wp2
   exact ⟨rfl,_,rfl,rfl,Below.refl _ _⟩
  ·intro f W hbW hdp
   have e11:f 11= .bool false:=hdp ⟨11,.data⟩ (mfl (by simp) rfl)
   simp only [fS,Nat.reduceAdd,e11]
   go_wp2
   exact ⟨rfl,_,rfl,rfl,Below.refl _ _⟩
  ·intro f W hbW hdp
   have e12:f 12= .bool false:=hdp ⟨12,.guard⟩ (mfl (by simp) rfl)
   have kB:=hide (Blk.via hbW HKB.out)
   simp only [fS,Nat.reduceAdd,e12]
   refine wpList_load_rowG (by simp [Region.wanted,yielded]) 116 (.tmp 1) rfl w.heap.size rfl 116 X (0,0) _ kB.out Tryz.underlying116 rfl HII.out ?_
   exact ⟨rfl,_,rfl,rfl,Below.refl _ _⟩
  ·intro f W hbW hdp
   have e12:f 12= .bool false:=hdp ⟨12,.guard⟩ (mfl (by simp) rfl)
   have e13:f 13= .agg X:=hdp ⟨13,.data⟩ (mfl (by simp) rfl)
   simp only [fS,Nat.reduceAdd,e12,e13]
   go_wp2_with (go_at_call 111;refine (HNX.out _).mono ?_;rintro e w' ⟨rfl,hb'⟩)
   exact ⟨rfl,_,rfl,rfl,hb'⟩
  ·intro f W hbW hdp
   have e12:f 12= .bool false:=hdp ⟨12,.guard⟩ (mfl (by simp) rfl)
   simp only [fS,Nat.reduceAdd,e12]
   go_wp2
   exact ⟨rfl,_,rfl,rfl,Below.refl _ _⟩
  ·intro f W hbW hdp
   have e12:f 12= .bool false:=hdp ⟨12,.guard⟩ (mfl (by simp) rfl)
   have e15:f 15= .pointer (some ⟨gc,0,none⟩):=hdp ⟨15,.data⟩ (mfl (by simp) rfl)
   have z0:=(Blk.via hbW HKC.out).cell 0
   simp only [fS,Nat.reduceAdd,e12,e15]
   go_wp2
   exact ⟨rfl,_,rfl,rfl,Below.refl _ _⟩
  ·intro f W hbW hdp
   have e12:f 12= .bool false:=hdp ⟨12,.guard⟩ (mfl (by simp) rfl)
   have e16:f 16= .int .i64 v1:=hdp ⟨16,.data⟩ (mfl (by simp) rfl)
   simp only [fS,Nat.reduceAdd,e12,e16]
   go_wp2
   exact ⟨rfl,_,rfl,rfl,Below.refl _ _⟩
  ·intro f W hbW hdp
   have e12:f 12= .bool false:=hdp ⟨12,.guard⟩ (mfl (by simp) rfl)
   simp only [fS,Nat.reduceAdd,e12]
   go_wp2
   exact ⟨rfl,_,rfl,rfl,Below.refl _ _⟩
  ·intro f W hbW hdp
   have e12:f 12= .bool false:=hdp ⟨12,.guard⟩ (mfl (by simp) rfl)
   have e18:f 18= .pointer (some ⟨gc,1,none⟩):=hdp ⟨18,.data⟩ (mfl (by simp) rfl)
   have z1:=(Blk.via hbW HKC.out).cell 1
   simp only [fS,Nat.reduceAdd,e12,e18]
   go_wp2
   exact ⟨rfl,_,rfl,rfl,Below.refl _ _⟩
  ·intro f W hbW hdp
   have e12:f 12= .bool false:=hdp ⟨12,.guard⟩ (mfl (by simp) rfl)
   have e14:f 14= .int .i64 u:=hdp ⟨14,.data⟩ (mfl (by simp) rfl)
   have e17:f 17= .int .i64 (v1+1):=hdp ⟨17,.data⟩ (mfl (by simp) rfl)
   have e19:f 19= .int .i64 v2:=hdp ⟨19,.data⟩ (mfl (by simp) rfl)
   simp only [fS,Nat.reduceAdd,e12,e14,e17,e19]
   go_wp2_with (go_at_call 95;refine (HWI.out _).mono ?_;rintro e w' ⟨rfl,hw'⟩;obtain rfl:=hw'.symm)
   exact ⟨rfl,_,rfl,rfl,Below.refl _ _⟩
  ·intro f W hbW hdp
   have e12:f 12= .bool false:=hdp ⟨12,.guard⟩ (mfl (by simp) rfl)
   have e20:f 20= .bool wi:=hdp ⟨20,.data⟩ (mfl (by simp) rfl)
   simp only [fS,Nat.reduceAdd,e12,e20]
   go_wp2
   exact ⟨rfl,_,rfl,rfl,Below.refl _ _⟩
  ·intro f W hbW hdp
   have e12:f 12= .bool false:=hdp ⟨12,.data⟩ (mfl (by simp) rfl)
   have e21:f 21= .bool (!wi):=hdp ⟨21,.data⟩ (mfl (by simp) rfl)
   simp only [fS,Nat.reduceAdd,e12,e21]
   go_wp2
   exact ⟨rfl,_,rfl,rfl,Below.refl _ _⟩
 case fin=>
  intro f W hbW hA
  have e22:f 22= .bool (!wi):=hA 22 (by simp)
  show wpList Tryz.prog #[] (Exit.then _ _) [] _ _
  simp only [fS,Nat.reduceAdd,e22]
  clear hA e22
  cases wi
  ·have HM:=hide (show metaG bs=none by
    rw [HGG.out,if_neg]
    rintro ⟨q1,q2,q3,q4,q5⟩
    have h1:=HWB.out
    unfold withinB at h1
    rw [decide_eq_true (show v1+1≤u∧u≤v2 from ⟨q4,q5⟩)] at h1
    cases h1)
   have HKR7:=hide (Blk.via hbW HKR6.out)
   have HL7:=hide (HL6.out.trans (hbW.mono HL6.out.size))
   clear hbW
   have c20:=(HKR7.out).cell 0
   have c21:=(HKR7.out).cell 1
   have c22:=(HKR7.out).cell 2
   have c23:=(HKR7.out).cell 3
   have c24:=(HKR7.out).cell 4
   have f20:=(HKR7.out).frozen 0
   have f21:=(HKR7.out).frozen 1
   have f22:=(HKR7.out).frozen 2
   have f23:=(HKR7.out).frozen 3
   have f24:=(HKR7.out).frozen 4
   have l20:=(HKR7.out).lt
   go_wp2_with fail
   refine bodyPost_ret (results_row_2 Tryz.results59 _ _ (w.heap.size+1) #[.int .i64 0,.int .i64 0,.int .i64 0,.int .i64 0,.int .i64 0] rfl (run_loadVar_row _ _ _ _ #[.int .i64 0,.int .i64 0,.int .i64 0,.int .i64 0,.int .i64 0] (0,0) _ (((((Blk.set_ HKR7.out 0 _).set_ 1 _).set_ 2 _).set_ 3 _).set_ 4 _) Tryz.underlying23 rfl info_confK)) rfl ⟨.inl ⟨HM.out,rfl⟩,(((((Below.setCell HL7.out (p:=⟨w.heap.size+1,0,none⟩) (Nat.le_succ _) _).setCell (p:=⟨w.heap.size+1,1,none⟩) (Nat.le_succ _) _).setCell (p:=⟨w.heap.size+1,2,none⟩) (Nat.le_succ _) _).setCell (p:=⟨w.heap.size+1,3,none⟩) (Nat.le_succ _) _).setCell (p:=⟨w.heap.size+1,4,none⟩) (Nat.le_succ _) _)⟩
  have HM:=hide (show metaG bs=some (⟨v1,v2,v3,v4,v5⟩,u) by
   have h1:=HWB.out
   unfold withinB at h1
   have h2:=of_decide_eq_true h1.symm
   rw [HGG.out,if_pos]
   exact ⟨by simpa using bno,by simpa using bz,HOK.out,h2.1,h2.2⟩)
  have HKC7:=hide (Blk.via hbW HKC.out)
  have HKR7:=hide (Blk.via hbW HKR6.out)
  have HKB7:=hide (Blk.via hbW HKB.out)
  have HL7:=hide (HL6.out.trans (hbW.mono HL6.out.size))
  clear hbW
  go_upto_region 6 with (fail)
  have HKB:=HKB7
  have HKC:=HKC7
  refine wp_region_inv_tail 3 [fun v _=>v= .agg #[.int .i64 v1,.int .i64 v2,.int .i64 v3,.int .i64 v4,.int .i64 v5],fun v _=>v= .agg X,fun v _=>v= .int .i64 u] (by kernel_rfl) (by kernel_rfl) (by kernel_rfl) (by kernel_rfl) (by kernel_rfl) (by first|simp|decide) (by kernel_rfl) ?st ?steps ?fin
  case st=>
   intro i v W W' hWW h
   match i with
   |0|1|2=>exact h
   |(i+3)=>exact h
  case steps=>
   simp only [stepsT,List.take_succ_cons,List.take_zero]
   refine ⟨?_,?_,?_,trivial⟩
   ·intro f W hbW hdp
    have kc:=Blk.via hbW HKC.out
    have z0:=kc.cell 0
    have z1:=kc.cell 1
    have z2:=kc.cell 2
    have z3:=kc.cell 3
    have z4:=kc.cell 4
    clear kc
    simp only [fS,Nat.reduceAdd]
    go_wp2
    exact ⟨rfl,_,rfl,rfl,Below.refl _ _⟩
   ·intro f W hbW hdp
    have kB:=hide (Blk.via hbW HKB.out)
    simp only [fS,Nat.reduceAdd]
    go_wp2_with (refine wpList_load_row rfl 116 (.tmp 1) rfl w.heap.size rfl 116 X (0,0) _ kB.out Tryz.underlying116 rfl HII.out ?_)
    exact ⟨rfl,_,rfl,rfl,Below.refl _ _⟩
   ·intro f W hbW hdp
    have e1:f 1= .agg X:=hdp ⟨1,.data⟩ (mfl (by simp) rfl)
    simp only [fS,Nat.reduceAdd,e1]
    go_wp2_with (go_at_call 111;refine (HNX.out _).mono ?_;rintro e w' ⟨rfl,hb'⟩)
    exact ⟨rfl,_,rfl,rfl,hb'⟩
  case fin=>
   intro f W hbW hA
   have e0:f 0= .agg #[.int .i64 v1,.int .i64 v2,.int .i64 v3,.int .i64 v4,.int .i64 v5]:=hA 0 (by omega)
   have e2:f 2= .int .i64 u:=hA 2 (by omega)
   simp only [List.drop_succ_cons,List.drop_zero,List.take_succ_cons,List.take_zero,fillF,Act.put,List.setIfInBounds_toArray,List.set_cons_succ,List.set_cons_zero,Nat.reduceAdd,e0,e2]
   clear hA e0 e2
   have HKR8:=hide (Blk.via hbW HKR7.out)
   have HL8:=hide (HL7.out.trans (hbW.mono HL7.out.size))
   clear hbW
   have c20:=(HKR8.out).cell 0
   have c21:=(HKR8.out).cell 1
   have c22:=(HKR8.out).cell 2
   have c23:=(HKR8.out).cell 3
   have c24:=(HKR8.out).cell 4
   have f20:=(HKR8.out).frozen 0
   have f21:=(HKR8.out).frozen 1
   have f22:=(HKR8.out).frozen 2
   have f23:=(HKR8.out).frozen 3
   have f24:=(HKR8.out).frozen 4
   have l20:=(HKR8.out).lt
   go_wp2_with fail
   refine bodyPost_ret (results_row_2 Tryz.results59 _ _ (w.heap.size+1) #[.int .i64 v1,.int .i64 v2,.int .i64 v3,.int .i64 v4,.int .i64 v5] rfl (run_loadVar_row _ _ _ _ #[.int .i64 v1,.int .i64 v2,.int .i64 v3,.int .i64 v4,.int .i64 v5] (0,0) _ (((((Blk.set_ HKR8.out 0 _).set_ 1 _).set_ 2 _).set_ 3 _).set_ 4 _) Tryz.underlying23 rfl info_confK)) rfl ⟨.inr ⟨_,_,HM.out,rfl⟩,(((((Below.setCell HL8.out (p:=⟨w.heap.size+1,0,none⟩) (Nat.le_succ _) _).setCell (p:=⟨w.heap.size+1,1,none⟩) (Nat.le_succ _) _).setCell (p:=⟨w.heap.size+1,2,none⟩) (Nat.le_succ _) _).setCell (p:=⟨w.heap.size+1,3,none⟩) (Nat.le_succ _) _).setCell (p:=⟨w.heap.size+1,4,none⟩) (Nat.le_succ _) _)⟩
end Go.Proofs.YtnkjkgmohmcobaaGreatDoor
namespace Go.Proofs.YtnkjkgmohmcobaaGreatDoor
open Go.RowKit Go.Maps
def devF (fs:Bool) (sv mv lv:Value) (stale head sure fuse o:Int):Array Value:=#[sv,mv,lv,.int .i64 stale,.int .i64 head,.int .i64 sure,.bool fs,.int .i64 fuse,.bool false,.int .i64 o]
theorem MapF.get1 {W:World} {m k:Nat} {f:Int→Option Value} {p:Int} {z:Value} {t e:TypeId} (h:MapF W m k f) (hp:(Lit.int .i64 p).wf=true) (ht:Tryz.prog.underlying t=some (.map 3 e)) (hz:∀W,(zeroValue e).run Tryz.prog W= .ok z W):(Instr.lookup t (.map (some m)) (.int .i64 p) false).run Tryz.prog W= .ok ((f p).getD z) W:=by
 obtain ⟨D,hD,hf⟩:=h
 obtain ⟨h1,h2⟩:=hf p
 obtain ⟨u,us,hrun,hu⟩:=hD.lookup keyInt ht (hz W) (zd:= .held z) (zp:=[]) rfl (key_of hp)
 have e:u=(f p).getD z:=by
  cases hv:f p with
  |some v=>
   rw [h2 v hv] at hu
   simp only [heldV,Option.some.injEq,Prod.mk.injEq,DataW.held.injEq] at hu
   exact hu.1
  |none=>
   have hn:Maps.has D (.int .i64 p)=false:=by rw [h1,hv];rfl
   rw [atKey_of_not_has hn] at hu
   simp only [heldV,Option.some.injEq,Prod.mk.injEq,DataW.held.injEq] at hu
   exact hu.1
 rw [e] at hrun
 exact hrun
theorem zero_pages (w:World):(zeroValue 110).run Tryz.prog w= .ok (.slice none 0 0) w:=by kernel_rfl
def jobPg (d:Nat) (at_:Int) (p:List UInt8):Array Value:=(.pointer (some ⟨d,0,none⟩):: .int .i64 at_::(p.map byteV++[.slice none 0 0])).toArray
theorem jobPg_range {W:World} {j d:Nat} {at_:Int} {p:List UInt8} (k:Blk W j 182 (jobPg d at_ p)):W.rangeAt j 2 (p.map byteV):=by
 intro i v hv
 rw [k.cell]
 unfold jobPg
 obtain ⟨hi,_⟩:=List.getElem?_eq_some_iff.1 hv
 rw [List.getElem?_toArray,show 2+i=i+1+1 by omega,List.getElem?_cons_succ,List.getElem?_cons_succ,List.getElem?_append_left hi]
 exact hv
theorem wf_no (x:Nat) (h:x≤1000000):(Lit.int .i64 (x:Nat)).wf=true:=by
 simp only [Lit.wf,Bool.and_eq_true,decide_eq_true_eq]
 constructor
 ·show (-9223372036854775808:Int)≤x
  omega
 ·show (x:Int)≤9223372036854775807
  omega
theorem fold_setL (l:List Value):∀(cs:Array Value) (o:Nat),(l.zipIdx o).foldl (fun cs x=>cs.setIfInBounds x.2 x.1) cs=setL cs o l:=by
 induction l with
 |nil=>intro cs o;rfl
 |cons v t ih=>intro cs o;exact ih _ _
theorem fill_one {n:Nat} (cs:Array Value) (cells:Array Value) (hc:cells.size=n) (hs:cs.size=n):Instr.fill (fun i=>some (i*n,n)) cs [(0,.agg cells)]=some cells:=by
 have h1:(Value.agg cells).cells=cells:=rfl
 have h2:¬((decide (cells.size≠n) || decide (0*n+cells.size>cs.size))=true):=by
  rw [hc,hs]
  simp
 unfold Instr.fill
 simp only [h1]
 rw [if_neg h2]
 unfold Instr.fill
 congr 1
 have h3:cells.zipIdx.foldl (fun cs x=>cs.setIfInBounds (0*n+x.2) x.1) cs=setL cs 0 cells.toList:=by
  rw [← fold_setL, ← Array.foldl_toList,Array.toList_zipIdx]
  simp only [Nat.zero_mul,Nat.zero_add]
 rw [h3]
 obtain ⟨g1,g2,g3⟩:=setL_spec cells.toList cs 0 (by simp;omega)
 refine Array.ext (by rw [g1];omega) (fun i h4 h5=>?_)
 have h6:=g3 i cells[i] (by simp [h5])
 rw [Nat.zero_add] at h6
 rw [Array.getElem?_eq_getElem h4] at h6
 exact Option.some.inj h6
def EOne (a:Nat) (vo:Option Nat) (i:Nat) (W W':World):Prop:=(i=a∧W.grownBy W' vo)∨Below W.heap.size W W'
theorem EOne.turn {a:Nat} {vo:Option Nat} {w0:World} :∀k W W',Turn (fun q=>some q=vo) w0 W→EOne a vo k W W'→Turn (fun q=>some q=vo) w0 W':=by
 rintro k W W' h (⟨_,hg⟩|hb)
 ·exact h.trans (Turn.of_grown hg (fun _ hq=>hq))
 ·exact h.trans (Turn.of_below hb)
theorem EOne.pre {a:Nat} {vo:Option Nat} {base n s:Nat} {t:TypeId} {v:Value} {xs:List Value} :∀i j W W',i≠j→EOne a vo j W W'→(i=a→W.ownsRow base t s v n xs)→i=a→W'.ownsRow base t s v n xs:=by
 rintro i j W W' hij (⟨hj,_⟩|hb) hp hi
 ·exact absurd (hi.trans hj.symm) hij
 ·exact own_via (hp hi) hb
theorem EOne.blk {a j g:Nat} {vo:Option Nat} {W W':World} {t:TypeId} {cs:Array Value} (h:EOne a vo j W W') (k:Blk W g t cs) (hne:some g≠vo):Blk W' g t cs:=by
 rcases h with ⟨_,hg⟩|hb
 ·exact k.grown hg hne
 ·exact Blk.via hb k
theorem Turn.blk {S:Nat→Prop} {w W:World} {g:Nat} {t:TypeId} {cs:Array Value} (h:Turn S w W) (k:Blk w g t cs) (hn:¬S g):Blk W g t cs:=(h.block g k.lt hn).trans k
theorem Turn.map {S:Nat→Prop} {w W:World} {m k:Nat} {f:Int→Option Value} (h:Turn S w W) (hm:MapF w m k f) (hn:¬S m):MapF W m k f:=hm.kept (h.block m hm.lt hn)
theorem row_ne {w:World} {base n s g:Nat} {t t':TypeId} {v:Value} {xs:List Value} {cs:Array Value} (ho:w.ownsRow base t s v n xs) (k:Blk w g t' cs) (hne:t'≠t):¬some g=v.ownBlock:=by
 intro e
 obtain ⟨cur,hc⟩:=row_obj ho e.symm
 exact absurd rfl (k.ne_ (show Blk w g t cur from hc) hne)
theorem row_nem {w:World} {base n s m k:Nat} {t:TypeId} {v:Value} {xs:List Value} {f:Int→Option Value} (ho:w.ownsRow base t s v n xs) (hm:MapF w m k f):¬some m=v.ownBlock:=by
 intro e
 obtain ⟨cur,hc⟩:=row_obj ho e.symm
 exact hm.ne hc rfl
def JobW (w:World) (m k:Nat) (f:Int→Option Value) (no:Nat) (v:Value) (n0:Nat) (xs:List Value) (p:List UInt8) (w':World):Prop:=
 ∃v',MapF w' m (k+1) (fun q=>if q=(no:Int) then some v' else f q)∧w'.ownsRow 0 116 512 v' (n0+1) (xs++p.map byteV)∧(v'.ownBlock=v.ownBlock∨∃g,v'.ownBlock=some g∧w.heap.size≤g)∧Turn (fun q=>q=m∨some q=v.ownBlock) w w'
theorem jobWrite_any (j d m k no:Nat) (mf:Int→Option Value) (p:List UInt8) (fs:Bool) (sv lv:Value) (stale head sure fuse o:Int) (n0:Nat) (xs:List Value) (w:World) (hp:p.length=512) (hno:no≤1000000) (hk1:k≤1000000) (hn0:n0≤1000000)
  (kd:Blk w d 113 (devF fs sv (.map (some m)) lv stale head sure fuse o)) (kj:Blk w j 182 (jobPg d no p)) (hm:MapF w m k mf) (ho:w.ownsRow 0 116 512 ((mf no).getD (.slice none 0 0)) n0 xs):
  Calls Tryz.prog 103 #[.pointer (some ⟨j,0,none⟩)] w fun e w'=>(∃v,e= .returned v)∧JobW w m k mf no ((mf no).getD (.slice none 0 0)) n0 xs p w':=by
 obtain ⟨A,c,hv,junk⟩:=own_slice ho
 rw [hv] at ho ⊢
 have hwf:=wf_no no hno
 have hnd:=row_ne ho kd (by decide)
 have hnj:=row_ne ho kj (by decide)
 have hnm:=row_nem ho hm
 have HLK:=hide (fun W (h:Turn (fun q=>some q=Value.ownBlock (.slice A n0 c)) w W)=>(h.map hm hnm).get1 hwf Tryz.underlying111 zero_pages)
 rw [hv] at HLK
 have HKD:=hide (fun W (h:Turn (fun q=>some q=Value.ownBlock (.slice A n0 c)) w W)=>h.blk kd hnd)
 have HKJ:=hide (fun W (h:Turn (fun q=>some q=Value.ownBlock (.slice A n0 c)) w W)=>h.blk kj hnj)
 have HWF:=hide hwf
 have HNM:=hide hnm
 have HLT:=hide (fun q (hq:Value.ownBlock (.slice A n0 c)=some q)=>(World.ownsRow.lt ho q hq).2)
 have KD:=hide kd
 have KJ:=hide kj
 have HM:=hide hm
 have HO:=hide ho
 have HPI:=hide (show (Tryz.prog.info? 116).map (·.size)=some (p.map byteV).length by rw [List.length_map,hp];exact info_pg)
 have HPL:=hide hp
 clear kd kj hm ho junk hv hwf hp hnd hnj hnm
 go_enter Tryz.func103,Tryz.ntmps103
 go_upto_region 0 with (fail)
 refine wp_region_inv_tailE 29 [fun v _=>v= .pointer (some ⟨j,0,none⟩),fun v _=>v= .pointer (some ⟨j,0,none⟩),fun v _=>v= .pointer (some ⟨j,0,none⟩),fun v _=>v= .pointer (some ⟨d,0,none⟩),fun v _=>v= .pointer (some ⟨d,0,none⟩),fun v _=>v= .pointer (some ⟨d,1,none⟩),fun v _=>v= .map (some m),fun v _=>v= .pointer (some ⟨j,0,none⟩),fun v _=>v= .pointer (some ⟨j,0,none⟩),fun v _=>v= .pointer (some ⟨j,1,none⟩),fun v _=>v= .int .i64 (no:Nat),fun v _=>v= .pointer (some ⟨j,0,none⟩),fun v _=>v= .pointer (some ⟨j,0,none⟩),fun v _=>v= .pointer (some ⟨j,0,none⟩),fun v _=>v= .pointer (some ⟨d,0,none⟩),fun v _=>v= .pointer (some ⟨d,0,none⟩),fun v _=>v= .pointer (some ⟨d,1,none⟩),fun v _=>v= .map (some m),fun v _=>v= .pointer (some ⟨j,0,none⟩),fun v _=>v= .pointer (some ⟨j,0,none⟩),fun v _=>v= .pointer (some ⟨j,1,none⟩),fun v _=>v= .int .i64 (no:Nat),fun v _=>v= .slice A n0 c,fun v _=>v= .pointer (some ⟨j,0,none⟩),fun v _=>v= .pointer (some ⟨j,0,none⟩),fun v _=>v= .pointer (some ⟨j,2,none⟩),fun v _=>v= .agg (p.map byteV).toArray,fun v W=>∃g,v= .slice (some ⟨g,0,none⟩) 1 1∧w.heap.size≤g∧Blk W g 116 (p.map byteV).toArray,fun v W=>W.ownsRow 0 116 512 v (n0+1) (xs++p.map byteV)∧(v.ownBlock=Value.ownBlock (.slice A n0 c)∨∃g,v.ownBlock=some g∧w.heap.size≤g)] (Turn (fun q=>some q=Value.ownBlock (.slice A n0 c)) w) (fun i W=>i=28→W.ownsRow 0 116 512 (.slice A n0 c) n0 xs) (EOne 28 (Value.ownBlock (.slice A n0 c))) EOne.turn EOne.pre (Turn.of_below (Below.refl _ _).drew) (fun _ _=>row_keep HO.out (fun _ _=>rfl)) (by kernel_rfl) (by kernel_rfl) (by kernel_rfl) (by kernel_rfl) (by kernel_rfl) (by first|simp|decide) (by kernel_rfl) ?st ?steps ?fin
 case st=>
  intro i j v W W' hij hE h
  match i with
  |0|1|2|3|4|5|6|7|8|9|10|11|12|13|14|15|16|17|18|19|20|21|22|23|24|25|26=>exact h
  |27=>obtain ⟨g,h1,h2,h3⟩:=h;exact ⟨g,h1,h2,hE.blk h3 (fun e=>by have:=HLT.out g e.symm;omega)⟩
  |28=>rcases hE with ⟨hj,_⟩|hb;exact absurd hj.symm hij;exact ⟨own_via h.1 hb,h.2⟩
  |(i+29)=>exact h
 case steps=>
  simp only [stepsE,List.take_succ_cons,List.take_zero]
  refine ⟨?_,?_,?_,?_,?_,?_,?_,?_,?_,?_,?_,?_,?_,?_,?_,?_,?_,?_,?_,?_,?_,?_,?_,?_,?_,?_,?_,?_,?_,trivial⟩
  ·intro f W hG hP hdp
   simp only [fS,Nat.reduceAdd]
   go_wp2
   exact ⟨rfl,_,rfl,rfl,.inr (Below.refl _ _)⟩
  ·intro f W hG hP hdp
   have e0:f 0= .pointer (some ⟨j,0,none⟩):=hdp ⟨0,.data⟩ (mfl (by simp) rfl)
   simp only [fS,Nat.reduceAdd,e0]
   go_wp2
   exact ⟨rfl,_,rfl,rfl,.inr (Below.refl _ _)⟩
  ·intro f W hG hP hdp
   have e1:f 1= .pointer (some ⟨j,0,none⟩):=hdp ⟨1,.data⟩ (mfl (by simp) rfl)
   simp only [fS,Nat.reduceAdd,e1]
   go_wp2
   exact ⟨rfl,_,rfl,rfl,.inr (Below.refl _ _)⟩
  ·intro f W hG hP hdp
   have e2:f 2= .pointer (some ⟨j,0,none⟩):=hdp ⟨2,.data⟩ (mfl (by simp) rfl)
   have q:W.cell? ⟨j,0,none⟩=some _:=(HKJ.out W hG).cell 0
   simp only [fS,Nat.reduceAdd,e2]
   go_wp2
   exact ⟨rfl,_,rfl,rfl,.inr (Below.refl _ _)⟩
  ·intro f W hG hP hdp
   have e3:f 3= .pointer (some ⟨d,0,none⟩):=hdp ⟨3,.data⟩ (mfl (by simp) rfl)
   simp only [fS,Nat.reduceAdd,e3]
   go_wp2
   exact ⟨rfl,_,rfl,rfl,.inr (Below.refl _ _)⟩
  ·intro f W hG hP hdp
   have e4:f 4= .pointer (some ⟨d,0,none⟩):=hdp ⟨4,.data⟩ (mfl (by simp) rfl)
   simp only [fS,Nat.reduceAdd,e4]
   go_wp2
   exact ⟨rfl,_,rfl,rfl,.inr (Below.refl _ _)⟩
  ·intro f W hG hP hdp
   have e5:f 5= .pointer (some ⟨d,1,none⟩):=hdp ⟨5,.data⟩ (mfl (by simp) rfl)
   have q:W.cell? ⟨d,1,none⟩=some _:=(HKD.out W hG).cell 1
   simp only [fS,Nat.reduceAdd,e5]
   go_wp2
   exact ⟨rfl,_,rfl,rfl,.inr (Below.refl _ _)⟩
  ·intro f W hG hP hdp
   simp only [fS,Nat.reduceAdd]
   go_wp2
   exact ⟨rfl,_,rfl,rfl,.inr (Below.refl _ _)⟩
  ·intro f W hG hP hdp
   have e7:f 7= .pointer (some ⟨j,0,none⟩):=hdp ⟨7,.data⟩ (mfl (by simp) rfl)
   simp only [fS,Nat.reduceAdd,e7]
   go_wp2
   exact ⟨rfl,_,rfl,rfl,.inr (Below.refl _ _)⟩
  ·intro f W hG hP hdp
   have e8:f 8= .pointer (some ⟨j,0,none⟩):=hdp ⟨8,.data⟩ (mfl (by simp) rfl)
   simp only [fS,Nat.reduceAdd,e8]
   go_wp2
   exact ⟨rfl,_,rfl,rfl,.inr (Below.refl _ _)⟩
  ·intro f W hG hP hdp
   have e9:f 9= .pointer (some ⟨j,1,none⟩):=hdp ⟨9,.data⟩ (mfl (by simp) rfl)
   have q:W.cell? ⟨j,1,none⟩=some _:=(HKJ.out W hG).cell 1
   simp only [fS,Nat.reduceAdd,e9]
   go_wp2
   exact ⟨rfl,_,rfl,rfl,.inr (Below.refl _ _)⟩
  ·intro f W hG hP hdp
   simp only [fS,Nat.reduceAdd]
   go_wp2
   exact ⟨rfl,_,rfl,rfl,.inr (Below.refl _ _)⟩
  ·intro f W hG hP hdp
   have e11:f 11= .pointer (some ⟨j,0,none⟩):=hdp ⟨11,.data⟩ (mfl (by simp) rfl)
   simp only [fS,Nat.reduceAdd,e11]
   go_wp2
   exact ⟨rfl,_,rfl,rfl,.inr (Below.refl _ _)⟩
  ·intro f W hG hP hdp
   have e12:f 12= .pointer (some ⟨j,0,none⟩):=hdp ⟨12,.data⟩ (mfl (by simp) rfl)
   simp only [fS,Nat.reduceAdd,e12]
   go_wp2
   exact ⟨rfl,_,rfl,rfl,.inr (Below.refl _ _)⟩
  ·intro f W hG hP hdp
   have e13:f 13= .pointer (some ⟨j,0,none⟩):=hdp ⟨13,.data⟩ (mfl (by simp) rfl)
   have q:W.cell? ⟨j,0,none⟩=some _:=(HKJ.out W hG).cell 0
   simp only [fS,Nat.reduceAdd,e13]
   go_wp2
   exact ⟨rfl,_,rfl,rfl,.inr (Below.refl _ _)⟩
  ·intro f W hG hP hdp
   have e14:f 14= .pointer (some ⟨d,0,none⟩):=hdp ⟨14,.data⟩ (mfl (by simp) rfl)
   simp only [fS,Nat.reduceAdd,e14]
   go_wp2
   exact ⟨rfl,_,rfl,rfl,.inr (Below.refl _ _)⟩
  ·intro f W hG hP hdp
   have e15:f 15= .pointer (some ⟨d,0,none⟩):=hdp ⟨15,.data⟩ (mfl (by simp) rfl)
   simp only [fS,Nat.reduceAdd,e15]
   go_wp2
   exact ⟨rfl,_,rfl,rfl,.inr (Below.refl _ _)⟩
  ·intro f W hG hP hdp
   have e16:f 16= .pointer (some ⟨d,1,none⟩):=hdp ⟨16,.data⟩ (mfl (by simp) rfl)
   have q:W.cell? ⟨d,1,none⟩=some _:=(HKD.out W hG).cell 1
   simp only [fS,Nat.reduceAdd,e16]
   go_wp2
   exact ⟨rfl,_,rfl,rfl,.inr (Below.refl _ _)⟩
  ·intro f W hG hP hdp
   simp only [fS,Nat.reduceAdd]
   go_wp2
   exact ⟨rfl,_,rfl,rfl,.inr (Below.refl _ _)⟩
  ·intro f W hG hP hdp
   have e18:f 18= .pointer (some ⟨j,0,none⟩):=hdp ⟨18,.data⟩ (mfl (by simp) rfl)
   simp only [fS,Nat.reduceAdd,e18]
   go_wp2
   exact ⟨rfl,_,rfl,rfl,.inr (Below.refl _ _)⟩
  ·intro f W hG hP hdp
   have e19:f 19= .pointer (some ⟨j,0,none⟩):=hdp ⟨19,.data⟩ (mfl (by simp) rfl)
   simp only [fS,Nat.reduceAdd,e19]
   go_wp2
   exact ⟨rfl,_,rfl,rfl,.inr (Below.refl _ _)⟩
  ·intro f W hG hP hdp
   have e20:f 20= .pointer (some ⟨j,1,none⟩):=hdp ⟨20,.data⟩ (mfl (by simp) rfl)
   have q:W.cell? ⟨j,1,none⟩=some _:=(HKJ.out W hG).cell 1
   simp only [fS,Nat.reduceAdd,e20]
   go_wp2
   exact ⟨rfl,_,rfl,rfl,.inr (Below.refl _ _)⟩
  ·intro f W hG hP hdp
   have e17:f 17= .map (some m):=hdp ⟨17,.data⟩ (mfl (by simp) rfl)
   have e21:f 21= .int .i64 (no:Nat):=hdp ⟨21,.data⟩ (mfl (by simp) rfl)
   have q:=HLK.out W hG
   simp only [fS,Nat.reduceAdd,e17,e21]
   go_wp2
   exact ⟨rfl,_,rfl,rfl,.inr (Below.refl _ _)⟩
  ·intro f W hG hP hdp
   simp only [fS,Nat.reduceAdd]
   go_wp2
   exact ⟨rfl,_,rfl,rfl,.inr (Below.refl _ _)⟩
  ·intro f W hG hP hdp
   have e23:f 23= .pointer (some ⟨j,0,none⟩):=hdp ⟨23,.data⟩ (mfl (by simp) rfl)
   simp only [fS,Nat.reduceAdd,e23]
   go_wp2
   exact ⟨rfl,_,rfl,rfl,.inr (Below.refl _ _)⟩
  ·intro f W hG hP hdp
   have e24:f 24= .pointer (some ⟨j,0,none⟩):=hdp ⟨24,.data⟩ (mfl (by simp) rfl)
   simp only [fS,Nat.reduceAdd,e24]
   go_wp2
   exact ⟨rfl,_,rfl,rfl,.inr (Below.refl _ _)⟩
  ·intro f W hG hP hdp
   have e25:f 25= .pointer (some ⟨j,2,none⟩):=hdp ⟨25,.data⟩ (mfl (by simp) rfl)
   simp only [fS,Nat.reduceAdd,e25]
   refine wpList_load_mid rfl 116 (.tmp 27) rfl j 2 rfl (p.map byteV) _ (jobPg_range (HKJ.out W hG)) Tryz.underlying116 rfl HPI.out ?_
   exact ⟨rfl,_,rfl,rfl,.inr (Below.refl _ _)⟩
  ·intro f W hG hP hdp
   have e26:f 26= .agg (p.map byteV).toArray:=hdp ⟨26,.data⟩ (mfl (by simp) rfl)
   simp only [fS,Nat.reduceAdd,e26]
   obtain ⟨i0,hi,hz0,hz1,hz2⟩:=info_parts info_page
   refine wpList_buildSlice rfl 110 116 1 _ rfl (p.map byteV).toArray i0 _ Tryz.underlying110 hi hz0 (by rw [hz1];decide) (by rw [hz1];decide) (by rw [hz1];refine Eq.trans (congrArg (Instr.fill (fun i=>some (i*512,512)) _) (a₂:=[(0,Value.agg (p.map byteV).toArray)]) ?_) (fill_one (n:=512) _ _ ?_ ?_)<;>simp [HPL.out,Act.eval]) ?_
   exact ⟨rfl,_,rfl,⟨_,rfl,hG.size,Blk.new _ _ _⟩,.inr ((Below.refl _ _).alloc (Nat.le_refl _) _)⟩
  ·intro f W hG hP hdp
   have e22:f 22= .slice A n0 c:=hdp ⟨22,.data⟩ (mfl (by simp) rfl)
   have e27:∃g,(f 27)= .slice (some ⟨g,0,none⟩) 1 1∧w.heap.size≤g∧Blk W g 116 (p.map byteV).toArray:=hdp ⟨27,.data⟩ (mfl (by simp) rfl)
   simp only [fS,Nat.reduceAdd,e22]
   obtain ⟨g,e27',hg,kg⟩:=e27
   simp only [e27']
   obtain ⟨i0,hi,hz0,hz1,hz2⟩:=info_parts info_page
   refine wpList_append_any W rfl _ _ _ rfl 0 116 i0 _ 512 512 Tryz.underlying110 hi hz0 hz1 hz2 (by kernel_rfl) (by omega) (.slice A n0 c) n0 xs rfl (hP rfl) (g+1) (some ⟨g,0,none⟩) 1 1 (p.map byteV) rfl (by have h:=Reads.of_blk (n:=1) (size:=512) kg (by simp [HPL.out]);simpa using h) (bytes_one _) (by unfold maxLen;omega) (by omega) (Nat.zero_le _) ?_
   intro v' W' ho' hg' hloc
   exact ⟨rfl,v',rfl,⟨ho',hloc.imp id (fun h=>⟨_,h,hG.size⟩)⟩,.inl ⟨rfl,hg'⟩⟩
 case fin=>
  intro f W hG hA
  have a28:W.ownsRow 0 116 512 (f 28) (n0+1) (xs++p.map byteV)∧((f 28).ownBlock=Value.ownBlock (.slice A n0 c)∨∃g,(f 28).ownBlock=some g∧w.heap.size≤g):=hA 28 (by omega)
  have e6:f 6= .map (some m):=hA 6 (by omega)
  have e10:f 10= .int .i64 (no:Nat):=hA 10 (by omega)
  simp only [List.drop_succ_cons,List.drop_zero,List.take_succ_cons,List.take_zero,fillF,Act.put,List.setIfInBounds_toArray,List.set_cons_succ,List.set_cons_zero,Nat.reduceAdd,e6,e10]
  clear hA e6 e10
  obtain ⟨ho',hloc⟩:=a28
  have hm1:=hG.map HM.out HNM.out
  obtain ⟨D,hown,hD⟩:=hm1
  have hm1:=hG.map HM.out HNM.out
  refine wpList_mapUpdate_own _ rfl _ _ _ 111 rfl 3 110 keyInt Tryz.underlying111 heldV m k D rfl hown (by unfold maxLen;omega) _ _ _ rfl rfl (key_of HWF.out) _ [] rfl ?_
  intro W3 hown3 hg3
  have hm3:MapF W3 m (k+1) _:=MapF.put hD hown.isMap hown3
  have hT:=(hG.mono (S':=fun q=>q=m∨some q=Value.ownBlock (.slice A n0 c)) (fun q _ h=> .inr h)).trans (Turn.of_grown hg3 (fun q hq=>by injection hq with hq;exact .inl hq))
  have ho3:=row_keep ho' (fun q hq=>by
   obtain ⟨cur,hc⟩:=row_obj ho' hq
   exact hg3.block q (World.ownsRow.lt ho' q hq).2 (by simp;exact hm1.ne hc))
  have HE:=hide (show JobW w m k mf no (.slice A n0 c) n0 xs p W3 from ⟨_,hm3,ho3,hloc,hT⟩)
  clear hG ho' hloc hm1 hown hD hown3 hg3 hm3 hT ho3
  go_wp2
  go_end0
  exact ⟨⟨_,rfl⟩,HE.out⟩
end Go.Proofs.YtnkjkgmohmcobaaGreatDoor
namespace Go.Proofs.YtnkjkgmohmcobaaGreatDoor
open Go.RowKit Go.Maps
def evC (d no txn:Int):List Value:=[.int .i64 d,.int .i64 no,.int .i64 txn,.int .i64 0,.string .empty,.slice none 0 0,.int .i64 0,.int .i64 0,.int .i64 0,.int .i64 0,.int .i64 0,.slice none 0 0,.int .i64 0,.int .i64 0,.int .i64 0]
theorem info_event:(Tryz.prog.info? 76).map (fun i=>(i.zero,i.size,i.bytes))=some (some (.agg (evC 0 0 0).toArray),15,160):=by kernel_rfl
theorem note_any (k b g n q:Nat) (no st txn:Int) (x:OpD) (dv:Value) (w:World) (kk:Blk w k 73 (bankC b g n (.slice none 0 0))) (hc:CalQ w g q (calS no st txn x dv)):
  Calls Tryz.prog 70 #[.pointer (some ⟨k,0,none⟩),.agg (evC 0 0 0).toArray,.pointer (some ⟨g,q,none⟩)] w fun e w'=>(∃v,e= .returned v)∧∃ev,Blk w' k 73 (bankC b g n ev)∧w'.ownsRow w.heap.size 76 15 ev 1 (evC 0 no txn)∧Turn (fun q=>q=k) w w':=by
 have HK:=hide kk
 have HC:=hide hc
 have HSZ:=hide (Nat.le_refl w.heap.size)
 obtain ⟨i0,hi,hz0,hz1,hz2⟩:=info_parts info_event
 have HI0:=hide hi
 have HZ0:=hide hz0
 have HZ1:=hide hz1
 have HZ2:=hide hz2
 clear kk hc hi hz0 hz1 hz2
 unfold evC
 go_enter Tryz.func70,Tryz.ntmps70
 go_upto_region 1 with (fail)
 refine gen1 (R:=fun W=>Code.wp _ _ _ _ W) (fun W1 kb hb1 hz1=>?_)
 obtain ⟨p,hp⟩:∃p,p=w.heap.size:=⟨_,rfl⟩
 have HPN:=hide hp
 rw [← hp] at kb ⊢
 have HB1:=hide hb1
 have hc1:=CalQ.via hb1 HC.out
 have c0:W1.cell? ⟨g,q,none⟩=some (.int .i64 no):=hc1.cell 0 rfl
 have c2:=hc1.cell 2 rfl
 have cl:=hc1.lt
 have p1:=kb.cell 1
 have p2:=kb.cell 2
 have f1:=kb.frozen 1
 have f2:=kb.frozen 2
 have pl:=kb.lt
 have HNE:=hide (show g≠p from by
  obtain ⟨cur,kc,_⟩:=hc1
  exact kc.ne_ kb (by decide))
 have gne:=HNE.out
 have HK1:=hide (Blk.via hb1 HK.out)
 have KB2:=hide ((kb.set_ 1 (.int .i64 no)).set_ 2 (.int .i64 txn))
 clear hb1 hc1 kb hp
 go_upto_region 3 with (fail)
 have hk3:=(HK1.out.far (p:=⟨p,1,none⟩) (by have:=HK.out.lt;rw [HPN.out];exact Nat.ne_of_lt this) (.int .i64 no)).far (p:=⟨p,2,none⟩) (by have:=HK.out.lt;rw [HPN.out];exact Nat.ne_of_lt this) (.int .i64 txn)
 have hb3:Below w.heap.size w ((W1.setCell ⟨p,1,none⟩ (.int .i64 no)).setCell ⟨p,2,none⟩ (.int .i64 txn)):=(HB1.out.setCell (p:=⟨p,1,none⟩) (by rw [HPN.out];exact Nat.le_refl _) _).setCell (p:=⟨p,2,none⟩) (by rw [HPN.out];exact Nat.le_refl _) _
 have kb3:Blk ((W1.setCell ⟨p,1,none⟩ (.int .i64 no)).setCell ⟨p,2,none⟩ (.int .i64 txn)) p 76 #[.int .i64 0,.int .i64 no,.int .i64 txn,.int .i64 0,.string .empty,.slice none 0 0,.int .i64 0,.int .i64 0,.int .i64 0,.int .i64 0,.int .i64 0,.slice none 0 0,.int .i64 0,.int .i64 0,.int .i64 0]:=KB2.out
 clear c0 c2 cl p1 p2 f1 f2 pl gne
 generalize (W1.setCell ⟨p,1,none⟩ (.int .i64 no)).setCell ⟨p,2,none⟩ (.int .i64 txn)=W3 at*
 have HK3:=hide hk3
 have HB3:=hide hb3
 have KB3:=hide kb3
 clear hk3 hb3 kb3 KB2 HK1 HB1 HC
 obtain ⟨L,hL⟩:∃L,L=w.heap.size:=⟨_,rfl⟩
 have HL:=hide hL
 have HLE:=hide (show L≤W3.heap.size by rw [hL];exact HB3.out.size)
 clear hL
 refine wp_region_inv_tail 10 [fun v _=>v= .pointer (some ⟨k,0,none⟩),fun v _=>v= .pointer (some ⟨k,0,none⟩),fun v _=>v= .pointer (some ⟨k,0,none⟩),fun v _=>v= .pointer (some ⟨k,2,none⟩),fun v _=>v= .slice none 0 0,fun v _=>v= .agg #[.int .i64 0,.int .i64 no,.int .i64 txn,.int .i64 0,.string .empty,.slice none 0 0,.int .i64 0,.int .i64 0,.int .i64 0,.int .i64 0,.int .i64 0,.slice none 0 0,.int .i64 0,.int .i64 0,.int .i64 0],fun v W=>∃g',v= .slice (some ⟨g',0,none⟩) 1 1∧W3.heap.size≤g'∧Blk W g' 76 #[.int .i64 0,.int .i64 no,.int .i64 txn,.int .i64 0,.string .empty,.slice none 0 0,.int .i64 0,.int .i64 0,.int .i64 0,.int .i64 0,.int .i64 0,.slice none 0 0,.int .i64 0,.int .i64 0,.int .i64 0],fun v W=>W.ownsRow L 76 15 v 1 [.int .i64 0,.int .i64 no,.int .i64 txn,.int .i64 0,.string .empty,.slice none 0 0,.int .i64 0,.int .i64 0,.int .i64 0,.int .i64 0,.int .i64 0,.slice none 0 0,.int .i64 0,.int .i64 0,.int .i64 0],fun v _=>v= .pointer (some ⟨k,0,none⟩),fun v _=>v= .pointer (some ⟨k,2,none⟩)] (by kernel_rfl) (by kernel_rfl) (by kernel_rfl) (by kernel_rfl) (by kernel_rfl) (by first|simp|decide) (by kernel_rfl) ?st ?steps ?fin
 case st=>
  intro i v W W' hWW h
  match i with
  |0|1|2|3|4|5|8|9=>exact h
  |6=>obtain ⟨g',h1,h2,h3⟩:=h;exact ⟨g',h1,h2,Blk.via hWW h3⟩
  |7=>exact own_via h hWW
  |(i+10)=>exact h
 case steps=>
  simp only [stepsT,List.take_succ_cons,List.take_zero]
  refine ⟨?_,?_,?_,?_,?_,?_,?_,?_,?_,?_,trivial⟩
  ·intro f W hbW hdp
   simp only [fS,Nat.reduceAdd]
   go_wp2
   exact ⟨rfl,_,rfl,rfl,Below.refl _ _⟩
  ·intro f W hbW hdp
   simp only [fS,Nat.reduceAdd]
   go_wp2
   exact ⟨rfl,_,rfl,rfl,Below.refl _ _⟩
  ·intro f W hbW hdp
   have e1:f 1= .pointer (some ⟨k,0,none⟩):=hdp ⟨1,.data⟩ (mfl (by simp) rfl)
   simp only [fS,Nat.reduceAdd,e1]
   go_wp2
   exact ⟨rfl,_,rfl,rfl,Below.refl _ _⟩
  ·intro f W hbW hdp
   have e2:f 2= .pointer (some ⟨k,0,none⟩):=hdp ⟨2,.data⟩ (mfl (by simp) rfl)
   simp only [fS,Nat.reduceAdd,e2]
   go_wp2
   exact ⟨rfl,_,rfl,rfl,Below.refl _ _⟩
  ·intro f W hbW hdp
   have e3:f 3= .pointer (some ⟨k,2,none⟩):=hdp ⟨3,.data⟩ (mfl (by simp) rfl)
   have z2:W.cell? ⟨k,2,none⟩=some (.slice none 0 0):=(Blk.via hbW HK3.out).cell 2
   simp only [fS,Nat.reduceAdd,e3]
   go_wp2
   exact ⟨rfl,_,rfl,rfl,Below.refl _ _⟩
  ·intro f W hbW hdp
   have kb:=Blk.via hbW KB3.out
   simp only [fS,Nat.reduceAdd]
   refine wpList_load_row rfl 76 (.tmp 4) rfl p rfl 76 _ (0,0) _ kb Tryz.underlying76 rfl (by kernel_rfl) ?_
   exact ⟨rfl,_,rfl,rfl,Below.refl _ _⟩
  ·intro f W hbW hdp
   have e5:f 5= .agg #[.int .i64 0,.int .i64 no,.int .i64 txn,.int .i64 0,.string .empty,.slice none 0 0,.int .i64 0,.int .i64 0,.int .i64 0,.int .i64 0,.int .i64 0,.slice none 0 0,.int .i64 0,.int .i64 0,.int .i64 0]:=hdp ⟨5,.data⟩ (mfl (by simp) rfl)
   simp only [fS,Nat.reduceAdd,e5]
   have hi:=HI0.out
   have hz0:=HZ0.out
   have hz1:=HZ1.out
   refine wpList_buildSlice rfl 46 76 1 _ rfl #[.int .i64 0,.int .i64 no,.int .i64 txn,.int .i64 0,.string .empty,.slice none 0 0,.int .i64 0,.int .i64 0,.int .i64 0,.int .i64 0,.int .i64 0,.slice none 0 0,.int .i64 0,.int .i64 0,.int .i64 0] i0 _ Tryz.underlying46 hi hz0 (by rw [hz1];decide) (by rw [hz1];decide) (by rw [hz1];refine Eq.trans (congrArg (Instr.fill (fun i=>some (i*15,15)) _) (a₂:=[(0,Value.agg #[.int .i64 0,.int .i64 no,.int .i64 txn,.int .i64 0,.string .empty,.slice none 0 0,.int .i64 0,.int .i64 0,.int .i64 0,.int .i64 0,.int .i64 0,.slice none 0 0,.int .i64 0,.int .i64 0,.int .i64 0])]) ?_) (fill_one (n:=15) _ _ ?_ ?_)<;>simp [Act.eval]) ?_
   exact ⟨rfl,_,rfl,⟨_,rfl,hbW.size,Blk.new _ _ _⟩,(Below.refl _ _).alloc (Nat.le_refl _) _⟩
  ·intro f W hbW hdp
   have e4:f 4= .slice none 0 0:=hdp ⟨4,.data⟩ (mfl (by simp) rfl)
   have e6:∃g',(f 6)= .slice (some ⟨g',0,none⟩) 1 1∧W3.heap.size≤g'∧Blk W g' 76 #[.int .i64 0,.int .i64 no,.int .i64 txn,.int .i64 0,.string .empty,.slice none 0 0,.int .i64 0,.int .i64 0,.int .i64 0,.int .i64 0,.int .i64 0,.slice none 0 0,.int .i64 0,.int .i64 0,.int .i64 0]:=hdp ⟨6,.data⟩ (mfl (by simp) rfl)
   simp only [fS,Nat.reduceAdd,e4]
   have hi:=HI0.out
   have hz0:=HZ0.out
   have hz1:=HZ1.out
   have hz2:=HZ2.out
   obtain ⟨g',e6',hg,kg⟩:=e6
   simp only [e6']
   refine wpList_append_any W rfl _ _ _ rfl L 76 i0 _ 15 160 Tryz.underlying46 hi hz0 hz1 hz2 (by rfl) (by omega) (.slice none 0 0) 0 [] rfl (World.ownsRow_nil _ _ _ _) (g'+1) (some ⟨g',0,none⟩) 1 1 [.int .i64 0,.int .i64 no,.int .i64 txn,.int .i64 0,.string .empty,.slice none 0 0,.int .i64 0,.int .i64 0,.int .i64 0,.int .i64 0,.int .i64 0,.slice none 0 0,.int .i64 0,.int .i64 0,.int .i64 0] rfl (Reads.of_blk (n:=1) (size:=15) kg rfl) (by simp [Value.oneCell']) (by unfold maxLen;omega) (by omega) (Nat.le_trans HLE.out hbW.size) ?_
   intro v' W' ho' hg' hloc
   exact ⟨rfl,v',rfl,ho',⟨hg'.os,hg'.tape,hg'.output,hg'.size,fun q hq=>hg'.block q hq (by simp [Value.ownBlock])⟩⟩
  ·intro f W hbW hdp
   have e0:f 0= .pointer (some ⟨k,0,none⟩):=hdp ⟨0,.data⟩ (mfl (by simp) rfl)
   simp only [fS,Nat.reduceAdd,e0]
   go_wp2
   exact ⟨rfl,_,rfl,rfl,Below.refl _ _⟩
  ·intro f W hbW hdp
   have e8:f 8= .pointer (some ⟨k,0,none⟩):=hdp ⟨8,.data⟩ (mfl (by simp) rfl)
   simp only [fS,Nat.reduceAdd,e8]
   go_wp2
   exact ⟨rfl,_,rfl,rfl,Below.refl _ _⟩
 case fin=>
  intro f W hbW hA
  have a7:W.ownsRow L 76 15 (f 7) 1 [.int .i64 0,.int .i64 no,.int .i64 txn,.int .i64 0,.string .empty,.slice none 0 0,.int .i64 0,.int .i64 0,.int .i64 0,.int .i64 0,.int .i64 0,.slice none 0 0,.int .i64 0,.int .i64 0,.int .i64 0]:=hA 7 (by omega)
  have e9:f 9= .pointer (some ⟨k,2,none⟩):=hA 9 (by omega)
  simp only [List.drop_succ_cons,List.drop_zero,List.take_succ_cons,List.take_zero,fillF,Act.put,List.setIfInBounds_toArray,List.set_cons_succ,List.set_cons_zero,Nat.reduceAdd,e9]
  clear hA e9
  have hk4:=Blk.via hbW HK3.out
  have z2:W.cell? ⟨k,2,none⟩=some (.slice none 0 0):=hk4.cell 2
  have zf:=hk4.frozen 2
  have zl:=hk4.lt
  have HO:=hide a7
  have HK4:=hide (hk4.set_ 2 (f 7))
  have HB4:=hide (HB3.out.trans (hbW.mono HB3.out.size))
  have HKN:=hide (show ∀q,Value.ownBlock (f 7)=some q→q≠k from fun q hq e=>by
   have h1:=(World.ownsRow.lt a7 q hq).1
   have h2:=HK.out.lt
   have h3:=HL.out
   omega)
  obtain ⟨A7,c7,h7,_⟩:=own_slice a7
  rw [h7] at HO HK4 HKN ⊢
  clear hk4 a7 hbW h7
  go_wp2
  go_end0
  refine ⟨⟨_,rfl⟩,_,HK4.out,?_,?_⟩
  ·rw [← HL.out]
   exact row_keep HO.out (fun q hq=>Below.heap_setCell _ _ _ q (HKN.out q hq))
  ·exact Turn.set (S:=fun q=>q=k) (Turn.of_below HB4.out) (.inl rfl) _
end Go.Proofs.YtnkjkgmohmcobaaGreatDoor
