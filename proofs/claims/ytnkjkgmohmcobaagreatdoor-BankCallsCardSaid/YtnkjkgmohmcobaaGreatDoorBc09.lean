/-
  Texts of this claim, joined: LV, LW, LX, LY, EL, YM, ES.
-/
import Derived.Maps.Range
import Derived.Test.YtnkjkgmohmcobaaGreatDoorBc08
set_option maxHeartbeats 6400000
set_option maxRecDepth 100000
namespace Go.Proofs.YtnkjkgmohmcobaaGreatDoor
open Go.RowKit Go.Shelf Go.Maps
def withB (p:List UInt8) (at_ width:Nat) (n:Int):List UInt8:=p.take at_++(beB width n++p.drop (at_+width))
theorem withB_length {p:List UInt8} (hl:p.length=512) {at_ width:Nat} (hin:at_+width≤512) (n:Int):(withB p at_ width n).length=512:=by
 unfold withB
 rw [List.length_append,List.length_append,List.length_take,beB_length,List.length_drop,hl]
 omega
theorem withB_spl {p:List UInt8} {at_ width:Nat} {n:Int} :spl (p.map byteV) at_ ((beB width n).map byteV)=(withB p at_ width n).map byteV:=by
 unfold spl withB
 rw [List.map_append,List.map_append,List.map_take,List.map_drop,List.length_map,beB_length]
theorem pWith_any (p:List UInt8) (hl:p.length=512) (at_ width:Nat) (n:Int) (h1:1≤width) (h8:width≤8) (hin:at_+width≤512) (w:World):
  Calls Tryz.prog 96 #[pgV p,.int .i64 (at_:Nat),.int .i64 (width:Nat),.int .i64 n] w fun e w'=>e= .returned (pgV (withB p at_ width n))∧Below w.heap.size w w':=by
 have HPU:=hide (fun W=>put_nil width n W h1 h8)
 have HL:=hide hl
 have hwl:=withB_length hl hin n
 have HRI:=hide (show (Tryz.prog.info? 116).map (·.size)=some (((withB p at_ width n).map byteV).toArray).size by rw [pg_size _ hwl];exact info_pg)
 have HRZ:=hide (show Tryz.zeroCells116.size=(((withB p at_ width n).map byteV).toArray).size by rw [pg_size _ hwl];exact zeros_page)
 have HR1:=hide (row_one (withB p at_ width n))
 have HZS:=hide (show spl (p.map byteV) at_ ((beB width n).map byteV)=(withB p at_ width n).map byteV from withB_spl)
 obtain ⟨X,hX⟩:∃X,X=(p.map byteV).toArray:=⟨_,rfl⟩
 have HX:=hide hX
 have hsz:X.size=512:=by rw [hX];exact pg_size p hl
 have HCP:=hide (show (p.map byteV).length=512 by rw [List.length_map,hl])
 unfold pgV
 rw [← hX]
 generalize hY:((withB p at_ width n).map byteV).toArray=Y at*
 have HY:=hide hY
 have i1:(0:Int)≤at_:=by omega
 have i2:(at_:Int)+width≤512:=by omega
 have i3:(0:Int)≤(at_:Int)+width:=by omega
 have i4:(at_:Int)≤(at_:Int)+width:=by omega
 have i5:((at_:Int)+width).toNat=at_+width:=by omega
 have i6:at_+width-at_=width:=by omega
 have i7:¬(512=at_):=by omega
 clear hX hl hwl hY
 go_enter Tryz.func96,Tryz.ntmps96
 go_upto_region 1 with (fail)
 refine gen2 (R:=fun W=>Code.wp _ _ _ _ W) (fun W1 kB kR hb1 hz1=>?_)
 have HKB:=hide kB
 have HKR:=hide kR
 have HB1:=hide hb1
 clear kB kR hb1
 refine wp_region_inv_tail 8 [fun v _=>v= .int .i64 ((at_:Nat):Int),fun v _=>v= .int .i64 ((at_:Nat):Int),fun v _=>v= .int .i64 ((width:Nat):Int),fun v _=>v= .int .i64 ((at_:Int)+width),fun v _=>v= .slice (some ⟨w.heap.size,at_,none⟩) width (512-at_),fun v _=>v= .int .i64 ((width:Nat):Int),fun v _=>v= .int .i64 n,fun v W=>∃g c,v= .slice (some ⟨g,0,none⟩) width c∧OwnB W W1.heap.size v (beB width n)] (by kernel_rfl) (by kernel_rfl) (by kernel_rfl) (by kernel_rfl) (by kernel_rfl) (by first|simp|decide) (by kernel_rfl) ?st ?steps ?fin
 case st=>
  intro i v W W' hWW h
  match i with
  |0|1|2|3|4|5|6=>exact h
  |7=>obtain ⟨g,c,h1,h2⟩:=h;exact ⟨g,c,h1,h2.via hWW⟩
  |(i+8)=>exact h
 case steps=>
  simp only [stepsT,List.take_succ_cons,List.take_zero]
  refine ⟨?_,?_,?_,?_,?_,?_,?_,?_,trivial⟩
  ·intro f W hbW hdp
   simp only [fS,Nat.reduceAdd]
   go_wp2
   exact ⟨rfl,_,rfl,rfl,Below.refl _ _⟩
  ·intro f W hbW hdp
   simp only [fS,Nat.reduceAdd]
   go_wp2
   exact ⟨rfl,_,rfl,rfl,Below.refl _ _⟩
  ·intro f W hbW hdp
   simp only [fS,Nat.reduceAdd]
   go_wp2
   exact ⟨rfl,_,rfl,rfl,Below.refl _ _⟩
  ·intro f W hbW hdp
   have e1:f 1= .int .i64 ((at_:Nat):Int):=hdp ⟨1,.data⟩ (mfl (by simp) rfl)
   have e2:f 2= .int .i64 ((width:Nat):Int):=hdp ⟨2,.data⟩ (mfl (by simp) rfl)
   simp only [fS,Nat.reduceAdd,e1,e2]
   go_wp2
   exact ⟨rfl,_,rfl,rfl,Below.refl _ _⟩
  ·intro f W hbW hdp
   have e0:f 0= .int .i64 ((at_:Nat):Int):=hdp ⟨0,.data⟩ (mfl (by simp) rfl)
   have e3:f 3= .int .i64 ((at_:Int)+width):=hdp ⟨3,.data⟩ (mfl (by simp) rfl)
   simp only [fS,Nat.reduceAdd,e0,e3]
   go_wp2
   exact ⟨rfl,_,rfl,rfl,Below.refl _ _⟩
  ·intro f W hbW hdp
   simp only [fS,Nat.reduceAdd]
   go_wp2
   exact ⟨rfl,_,rfl,rfl,Below.refl _ _⟩
  ·intro f W hbW hdp
   simp only [fS,Nat.reduceAdd]
   go_wp2
   exact ⟨rfl,_,rfl,rfl,Below.refl _ _⟩
  ·intro f W hbW hdp
   have e5:f 5= .int .i64 ((width:Nat):Int):=hdp ⟨5,.data⟩ (mfl (by simp) rfl)
   have e6:f 6= .int .i64 n:=hdp ⟨6,.data⟩ (mfl (by simp) rfl)
   simp only [fS,Nat.reduceAdd,e5,e6]
   go_wp2_with (go_at_call 97;refine (HPU.out _).mono ?_;rintro e w' ⟨g,c,rfl,ho,hb'⟩)
   exact ⟨rfl,_,rfl,⟨g,c,rfl,ho.low hbW.size⟩,hb'⟩
 case fin=>
  intro f W hbW hA
  have a7:∃g c,(f 7)= .slice (some ⟨g,0,none⟩) width c∧OwnB W W1.heap.size (f 7) (beB width n):=hA 7 (by omega)
  have e4:f 4= .slice (some ⟨w.heap.size,at_,none⟩) width (512-at_):=hA 4 (by omega)
  simp only [List.drop_succ_cons,List.drop_zero,List.take_succ_cons,List.take_zero,fillF,Act.put,List.setIfInBounds_toArray,List.set_cons_succ,List.set_cons_zero,Nat.reduceAdd,e4]
  clear hA e4
  obtain ⟨g,c,h7,ho⟩:=a7
  simp only [h7] at ho ⊢
  clear h7
  have kB:=Blk.via hbW HKB.out
  rw [HX.out] at kB
  obtain ⟨bb,oo,hA,_,hcell⟩:=(Reads.of_own (show W.ownsRow W1.heap.size 5 1 (.slice (some ⟨g,0,none⟩) width c) width ((beB width n).map byteV) by have h:=ho;unfold OwnB at h;rw [beB_length] at h;exact h)).plain (by omega) (by omega)
  injection hA with hA
  injection hA with hA1 hA2
  subst hA1 hA2
  refine wpList_copy_blk rfl _ _ _ _ rfl 5 1 Tryz.underlying24 size_u8 w.heap.size at_ 116 (p.map byteV) ((beB width n).map byteV) width (512-at_) width c ⟨g,0,none⟩ rfl rfl kB (by rw [List.length_map,beB_length,Nat.mul_one];exact (Nat.min_self _).symm) (fun j v hj=>by rw [add_plain];exact hcell j v hj) (by rw [List.length_map,beB_length,HCP.out];omega) (bytes_one _) ?_
  intro v' W5 hk5 ht5
  rw [HZS.out,HY.out] at hk5
  have hb5:Below w.heap.size w W5:=ht5.below (HB1.out.trans (hbW.mono HB1.out.size)) (Nat.le_refl _)
  have HK5:=hide hk5
  have HKR5:=hide (ht5.blk (Blk.via hbW HKR.out) (by omega))
  have HL5:=hide hb5
  clear kB hk5 ht5 hb5 hbW ho hcell
  go_wp2_with (first
   |(refine wpList_load_row rfl 116 (.tmp 4) rfl w.heap.size rfl 116 Y (0,0) _ HK5.out Tryz.underlying116 rfl HRI.out ?_)
   |(refine wpList_store_row rfl 116 (.tmp 8) (.tmp 18) rfl (w.heap.size+1) Y rfl rfl 116 _ HKR5.out HRI.out HRZ.out HR1.out ?_))
  refine bodyPost_ret (results_cell_row Tryz.results96 _ _ (w.heap.size+1) 116 Y (0,0) _ rfl (setRow_heap _ (w.heap.size+1) _ _ _ _ HKR5.out) Tryz.underlying116 rfl HRI.out) rfl ⟨rfl,?_⟩
  exact (touch_setRow _ (w.heap.size+1) Y).below HL5.out (Nat.le_succ _)
end Go.Proofs.YtnkjkgmohmcobaaGreatDoor
namespace Go.Proofs.YtnkjkgmohmcobaaGreatDoor
open Go.RowKit Go.Shelf Go.Maps
theorem pWithNext_any (p:List UInt8) (hl:p.length=512) (n:Int) (w:World):Calls Tryz.prog 99 #[pgV p,.int .i64 n] w fun e w'=>e= .returned (pgV (withB p 14 2 n))∧Below w.heap.size w w':=by
 have HWI:=hide (fun W=>pWith_any p hl 14 2 n (by omega) (by omega) (by omega) W)
 have hwl:=withB_length hl (at_:=14) (width:=2) (by omega) n
 have HRI:=hide (show (Tryz.prog.info? 116).map (·.size)=some (((withB p 14 2 n).map byteV).toArray).size by rw [pg_size _ hwl];exact info_pg)
 have HRZ:=hide (show Tryz.zeroCells116.size=(((withB p 14 2 n).map byteV).toArray).size by rw [pg_size _ hwl];exact zeros_page)
 have HR1:=hide (row_one (withB p 14 2 n))
 have HPI:=hide (show (Tryz.prog.info? 116).map (·.size)=some ((p.map byteV).toArray).size by rw [pg_size _ hl];exact info_pg)
 unfold pgV at*
 generalize (p.map byteV).toArray=X at*
 generalize ((withB p 14 2 n).map byteV).toArray=Y at*
 clear hl hwl
 go_enter Tryz.func99,Tryz.ntmps99
 go_upto_region 1 with (fail)
 refine gen2 (R:=fun W=>Code.wp _ _ _ _ W) (fun W1 kB kR hb1 hz1=>?_)
 have HKB:=hide kB
 have HKR:=hide kR
 have HB1:=hide hb1
 clear kB kR hb1
 go_wp2_with (refine wpList_load_row rfl 116 (.tmp 2) rfl w.heap.size rfl 116 X (0,0) _ HKB.out Tryz.underlying116 rfl HPI.out ?_)
 refine (HWI.out _).mono ?_
 rintro e W2 ⟨rfl,hb2⟩
 have HKR2:=hide (Blk.via hb2 HKR.out)
 have HB2:=hide (HB1.out.trans (hb2.mono HB1.out.size))
 clear hb2
 go_wp2_with (refine wpList_store_row rfl 116 (.tmp 4) (.tmp 7) rfl (w.heap.size+1) Y rfl rfl 116 _ HKR2.out HRI.out HRZ.out HR1.out ?_)
 refine bodyPost_ret (results_cell_row Tryz.results99 _ _ (w.heap.size+1) 116 Y (0,0) _ rfl (setRow_heap _ (w.heap.size+1) _ _ _ _ HKR2.out) Tryz.underlying116 rfl HRI.out) rfl ⟨rfl,?_⟩
 exact (touch_setRow _ (w.heap.size+1) Y).below HB2.out (Nat.le_succ _)
theorem pWithNote_any (p:List UInt8) (hl:p.length=512) (n:Int) (w:World):Calls Tryz.prog 100 #[pgV p,.int .i64 n] w fun e w'=>e= .returned (pgV (withB p 16 8 n))∧Below w.heap.size w w':=by
 have HWI:=hide (fun W=>pWith_any p hl 16 8 n (by omega) (by omega) (by omega) W)
 have hwl:=withB_length hl (at_:=16) (width:=8) (by omega) n
 have HRI:=hide (show (Tryz.prog.info? 116).map (·.size)=some (((withB p 16 8 n).map byteV).toArray).size by rw [pg_size _ hwl];exact info_pg)
 have HRZ:=hide (show Tryz.zeroCells116.size=(((withB p 16 8 n).map byteV).toArray).size by rw [pg_size _ hwl];exact zeros_page)
 have HR1:=hide (row_one (withB p 16 8 n))
 have HPI:=hide (show (Tryz.prog.info? 116).map (·.size)=some ((p.map byteV).toArray).size by rw [pg_size _ hl];exact info_pg)
 unfold pgV at*
 generalize (p.map byteV).toArray=X at*
 generalize ((withB p 16 8 n).map byteV).toArray=Y at*
 clear hl hwl
 go_enter Tryz.func100,Tryz.ntmps100
 go_upto_region 1 with (fail)
 refine gen2 (R:=fun W=>Code.wp _ _ _ _ W) (fun W1 kB kR hb1 hz1=>?_)
 have HKB:=hide kB
 have HKR:=hide kR
 have HB1:=hide hb1
 clear kB kR hb1
 go_wp2_with (refine wpList_load_row rfl 116 (.tmp 2) rfl w.heap.size rfl 116 X (0,0) _ HKB.out Tryz.underlying116 rfl HPI.out ?_)
 refine (HWI.out _).mono ?_
 rintro e W2 ⟨rfl,hb2⟩
 have HKR2:=hide (Blk.via hb2 HKR.out)
 have HB2:=hide (HB1.out.trans (hb2.mono HB1.out.size))
 clear hb2
 go_wp2_with (refine wpList_store_row rfl 116 (.tmp 4) (.tmp 7) rfl (w.heap.size+1) Y rfl rfl 116 _ HKR2.out HRI.out HRZ.out HR1.out ?_)
 refine bodyPost_ret (results_cell_row Tryz.results100 _ _ (w.heap.size+1) 116 Y (0,0) _ rfl (setRow_heap _ (w.heap.size+1) _ _ _ _ HKR2.out) Tryz.underlying116 rfl HRI.out) rfl ⟨rfl,?_⟩
 exact (touch_setRow _ (w.heap.size+1) Y).below HB2.out (Nat.le_succ _)
theorem pNew_any (n:Int) (w:World):Calls Tryz.prog 53 #[.int .i64 n] w fun e w'=>e= .returned (pgV (withB zPg 12 2 n))∧Below w.heap.size w w':=by
 have hl:=zPg_length
 have HWI:=hide (fun W=>pWith_any zPg hl 12 2 n (by omega) (by omega) (by omega) W)
 have hwl:=withB_length hl (at_:=12) (width:=2) (by omega) n
 have HRI:=hide (show (Tryz.prog.info? 116).map (·.size)=some (((withB zPg 12 2 n).map byteV).toArray).size by rw [pg_size _ hwl];exact info_pg)
 have HRZ:=hide (show Tryz.zeroCells116.size=(((withB zPg 12 2 n).map byteV).toArray).size by rw [pg_size _ hwl];exact zeros_page)
 have HR1:=hide (row_one (withB zPg 12 2 n))
 unfold pgV at*
 generalize ((withB zPg 12 2 n).map byteV).toArray=Y at*
 rw [zPg_zero] at HWI
 clear hl hwl
 go_enter Tryz.func53,Tryz.ntmps53
 go_upto_region 1 with (fail)
 refine gen1 (R:=fun W=>Code.wp _ _ _ _ W) (fun W1 kR hb1 hz1=>?_)
 have HKR:=hide kR
 have HB1:=hide hb1
 clear kR hb1
 go_wp2_with fail
 refine (HWI.out _).mono ?_
 rintro e W2 ⟨rfl,hb2⟩
 have HKR2:=hide (Blk.via hb2 HKR.out)
 have HB2:=hide (HB1.out.trans (hb2.mono HB1.out.size))
 clear hb2
 go_wp2_with (refine wpList_store_row rfl 116 (.tmp 2) (.tmp 5) rfl w.heap.size Y rfl rfl 116 _ HKR2.out HRI.out HRZ.out HR1.out ?_)
 refine bodyPost_ret (results_cell_row Tryz.results53 _ _ w.heap.size 116 Y (0,0) _ rfl (setRow_heap _ w.heap.size _ _ _ _ HKR2.out) Tryz.underlying116 rfl HRI.out) rfl ⟨rfl,?_⟩
 exact (touch_setRow _ w.heap.size Y).below HB2.out (Nat.le_refl _)
end Go.Proofs.YtnkjkgmohmcobaaGreatDoor
namespace Go.Proofs.YtnkjkgmohmcobaaGreatDoor
open Go.RowKit Go.Shelf Go.Maps
theorem sealB_with (p:List UInt8):withB p 0 4 ((moreD 0 (p.drop 4):Nat):Int)=sealB p:=by
 unfold withB sealB sumB
 simp
theorem pSeal_any (p:List UInt8) (hl:p.length=512) (w:World):Calls Tryz.prog 56 #[pgV p] w fun e w'=>e= .returned (pgV (sealB p))∧Below w.heap.size w w':=by
 obtain ⟨z,hz⟩:∃z:Int,z=((moreD 0 (p.drop 4):Nat):Int):=⟨_,rfl⟩
 have hww:=sealB_with p
 rw [← hz] at hww
 have HWI:=hide (fun W=>pWith_any p hl 0 4 z (by omega) (by omega) (by omega) W)
 have HSU:=hide (fun W=>psum_any p hl W)
 rw [← hz] at HSU
 rw [hww] at HWI
 have hwl:=sealB_length hl
 have HRI:=hide (show (Tryz.prog.info? 116).map (·.size)=some (((sealB p).map byteV).toArray).size by rw [pg_size _ hwl];exact info_pg)
 have HRZ:=hide (show Tryz.zeroCells116.size=(((sealB p).map byteV).toArray).size by rw [pg_size _ hwl];exact zeros_page)
 have HR1:=hide (row_one (sealB p))
 have HPI:=hide (show (Tryz.prog.info? 116).map (·.size)=some ((p.map byteV).toArray).size by rw [pg_size _ hl];exact info_pg)
 unfold pgV at*
 generalize (p.map byteV).toArray=X at*
 generalize ((sealB p).map byteV).toArray=Y at*
 clear hl hwl hz hww
 go_enter Tryz.func56,Tryz.ntmps56
 go_upto_region 1 with (fail)
 refine gen2 (R:=fun W=>Code.wp _ _ _ _ W) (fun W1 kB kR hb1 hz1=>?_)
 have HKB:=hide kB
 have HKR:=hide kR
 have HB1:=hide hb1
 clear kB kR hb1
 refine wp_region_inv_tail 4 [fun v _=>v= .agg X,fun v _=>v= .agg X,fun v _=>v= .int .i64 z,fun v _=>v= .agg Y] (by kernel_rfl) (by kernel_rfl) (by kernel_rfl) (by kernel_rfl) (by kernel_rfl) (by first|simp|decide) (by kernel_rfl) ?st ?steps ?fin
 case st=>
  intro i v W W' hWW h
  match i with
  |0|1|2|3=>exact h
  |(i+4)=>exact h
 case steps=>
  simp only [stepsT,List.take_succ_cons,List.take_zero]
  refine ⟨?_,?_,?_,?_,trivial⟩
  ·intro f W hbW hdp
   have kB:=hide (Blk.via hbW HKB.out)
   simp only [fS,Nat.reduceAdd]
   refine wpList_load_row rfl 116 (.tmp 1) rfl w.heap.size rfl 116 X (0,0) _ kB.out Tryz.underlying116 rfl HPI.out ?_
   exact ⟨rfl,_,rfl,rfl,Below.refl _ _⟩
  ·intro f W hbW hdp
   have kB:=hide (Blk.via hbW HKB.out)
   simp only [fS,Nat.reduceAdd]
   refine wpList_load_row rfl 116 (.tmp 1) rfl w.heap.size rfl 116 X (0,0) _ kB.out Tryz.underlying116 rfl HPI.out ?_
   exact ⟨rfl,_,rfl,rfl,Below.refl _ _⟩
  ·intro f W hbW hdp
   have e1:f 1= .agg X:=hdp ⟨1,.data⟩ (mfl (by simp) rfl)
   simp only [fS,Nat.reduceAdd,e1]
   go_wp2_with (go_at_call 104;refine (HSU.out _).mono ?_;rintro e w' ⟨rfl,hb'⟩)
   exact ⟨rfl,_,rfl,rfl,hb'⟩
  ·intro f W hbW hdp
   have e0:f 0= .agg X:=hdp ⟨0,.data⟩ (mfl (by simp) rfl)
   have e2:f 2= .int .i64 z:=hdp ⟨2,.data⟩ (mfl (by simp) rfl)
   simp only [fS,Nat.reduceAdd,e0,e2]
   go_wp2_with (go_at_call 96;refine (HWI.out _).mono ?_;rintro e w' ⟨rfl,hb'⟩)
   exact ⟨rfl,_,rfl,rfl,hb'⟩
 case fin=>
  intro f W hbW hA
  have e3:f 3= .agg Y:=hA 3 (by omega)
  simp only [List.drop_succ_cons,List.drop_zero,List.take_succ_cons,List.take_zero,fillF,Act.put,List.setIfInBounds_toArray,List.set_cons_succ,List.set_cons_zero,Nat.reduceAdd,e3]
  clear hA e3
  have HKR2:=hide (Blk.via hbW HKR.out)
  have HB2:=hide (HB1.out.trans (hbW.mono HB1.out.size))
  clear hbW
  refine wpList_store_row rfl 116 (.tmp 2) (.tmp 6) rfl (w.heap.size+1) Y rfl rfl 116 _ HKR2.out HRI.out HRZ.out HR1.out ?_
  go_wp2_with fail
  refine bodyPost_ret (results_cell_row Tryz.results56 _ _ (w.heap.size+1) 116 Y (0,0) _ rfl (setRow_heap _ (w.heap.size+1) _ _ _ _ HKR2.out) Tryz.underlying116 rfl HRI.out) rfl ⟨rfl,?_⟩
  exact (touch_setRow _ (w.heap.size+1) Y).below HB2.out (Nat.le_succ _)
end Go.Proofs.YtnkjkgmohmcobaaGreatDoor
namespace Go.Proofs.YtnkjkgmohmcobaaGreatDoor
open Go.RowKit Go.Shelf
attribute [local go_sem] Oper.semAt_some
theorem put_own (ad:Addr) (m c0:Nat) (bs:List UInt8) (B:Nat) (hml:m=bs.length) (hm:m≤1000) (width:Nat) (n:Int) (w:World) (hw1:1≤width) (hw8:width≤8) (hB:B≤w.heap.size) (hr:Reads w B 1 (some ad) m (bs.map byteV)):
  Calls Tryz.prog 97 #[.slice (some ad) m c0,.int .i64 (width:Nat),.int .i64 n] w fun e w'=>∃g c,e= .returned (.slice (some ⟨g,0,none⟩) (m+width) c)∧OwnB w' w.heap.size (.slice (some ⟨g,0,none⟩) (m+width) c) (bs++beB width n)∧Below w.heap.size w w':=by
 have hmf:∀(fn:Fn) (first cap:Array Value) (w:World),(Instr.makeFunc fn first cap).run Tryz.prog w= .ok (.func fn first cap) w:=fun _ _ _ _=>rfl
 have HWI:=hide (fun W=>wide_any (width:Nat) true (decide_eq_true ⟨by omega,by omega⟩) W)
 have HWT:=hide (with_any ad m c0 width bs B w hB (by omega) (by omega) hml hr)
 have HML:=hide hml
 clear hr hml
 refine (callsIn_wide (n:=9)).1 ?_
 refine callsIn_of_wp_marks Tryz.func97 rfl trivial ?_ rfl
 simp only [Tryz.ntmps97,List.size_toArray,List.length_cons,List.length_nil,Nat.reduceAdd,Nat.reduceSub,Array.replicate_succ,Array.replicate_zero,List.push_toArray,List.append_toArray,List.nil_append,List.cons_append]
 gi_wp2_with (first
  |(refine ⟨trivial,?_⟩;gi_at_call 162;refine (callsIn_wide.2 (HWI.out _)).mono ?_;rintro e w' ⟨rfl,hw'⟩;obtain rfl:=hw'.symm)
  |(refine ⟨trivial,?_⟩;gi_at_call 163;refine (callsIn_wide.2 HWT.out).mono ?_;rintro e w1 ⟨g1,rfl,ho1,hb1⟩)
  |(refine ⟨trivial,?_⟩;gi_at_call 164;refine (parts_in _ _ _ _).mono ?_;rintro e w' ⟨rfl,rfl⟩))
 refine gen3R (fun w2 kO k1 k2 hb2 hz2=>?_)
 have hw12:=hb1.size
 have hbw2:=hb1.trans (hb2.mono hb1.size)
 have ho2:OwnB w2 w.heap.size (.slice (some ⟨g1,0,none⟩) m (m+width)) bs:=ho1.via hb2
 refine wpIn_rangeFunc_ownH (α:=UInt8) rfl (by omega) (gf:=228) (lb:=#[.pointer (some ⟨w1.heap.size+1,0,none⟩),.pointer (some ⟨w1.heap.size+1+1,0,none⟩)]) rfl trivial (enters_of Tryz.func228 (by kernel_rfl) rfl)
  (parts_stops 8 (by omega) (w1.heap.size+1) (w1.heap.size+1+1) width n w2 hw1 hw8 k1 k2)
  (fun h1 h2=>h1.trans h2) ?kb (Below.refl _ _) (fun _=>rfl)
  (PutI w w1.heap.size (width:Nat) n bs) (fun _ _ _=>False) (putI_own w w2 _ _ _ _ (by omega)) (fun _ _ _ _ _ hs _ _=>hs) ?start
  (fun x a' W=>a'= {tmps:=#[.slice (some ad) m c0,.int .i64 (width:Nat),.int .i64 n,undef,undef,undef,.slice none 0 0,.pointer (some ⟨w1.heap.size,0,none⟩),.int .u8 (x.toNat:Nat),.int .i64 (width:Nat),.bool true,.bool false,undef,undef,.slice (some ad) m c0,.int .i64 (width:Nat),.slice (some ⟨g1,0,none⟩) m (m+width),.int .i64 (width:Nat),.int .i64 n,.func (.func 228) #[] #[.pointer (some ⟨w1.heap.size+1,0,none⟩),.pointer (some ⟨w1.heap.size+1+1,0,none⟩)],.int .u8 (x.toNat:Nat),undef,undef,undef,undef,undef],defers:=[]}) ?ax ?assign ?body ?done ?stop
 case kb=>
  intro W l o o' hl ho hc _
  exact ⟨World.putObj_heap_other (by omega),World.putObj_heap_other (by omega),by simp⟩
 case start=>exact ⟨_,kO,by rw [List.append_nil];exact ho2,hbw2,k1,k2⟩
 case ax=>
  rintro x a' _ W W' row h _ _
  exact h
 case assign=>
  rintro l pre x W K hI hK
  gi_wp2
  exact hK _ _ (KeepsFrom.refl _ _) (KeepT.refl _ _ _) hI rfl
 case body=>
  rintro l pre x a' W hl ⟨r,hr⟩ ⟨v,i1,i2,i3,i4,i5⟩ rfl hpl
  obtain ⟨ps,hps⟩:∃ps,ps=bs++pre:=⟨_,rfl⟩
  rw [← hps] at i2
  have hpsl:ps.length=m+pre.length:=by rw [hps,List.length_append,HML.out]
  have HPS:=hide hps
  have HPSL:=hide hpsl
  clear hps hpsl
  obtain ⟨A,cc,rfl,hnc,_⟩:=own_slice i2
  have q1:=i1.cell 0
  have f1:=i1.frozen 0
  have l1:=i1.lt
  have HI2:=hide (show W.ownsRow w.heap.size 5 1 (.slice A ps.length cc) ps.length (ps.map byteV) from i2)
  obtain ⟨i0,hi,hz0',hz1',hz2'⟩:=info_parts info_u8R
  have i3z:=i3.size
  clear i2
  gi_wp2_with (gi_at_builtin;refine heldG ?_)
  refine unheldG ?_
  gi_at_builtin
  refine wpListIn_append_own _ rfl _ _ _ rfl w.heap.size 5 i0 _ 1 1 Tryz.underlying24 hi hz0' hz1' hz2' rfl (by omega) (.slice A ps.length cc) ps.length _ rfl (HI2.out.alloc _) ⟨W.heap.size,0,none⟩ 1 1 [byteV x] rfl rfl ?c2 ?c3 ?c4 ?c5 ?c6 ?_
  case c2=>intro j u hu;rw [add_plain,Nat.zero_add,(Blk.new W 5 _).cell];simpa [byteV] using hu
  case c3=>intro u hu;rw [List.mem_singleton] at hu;subst hu;rfl
  case c4=>have:=HPSL.out;unfold maxLen;omega
  case c5=>have:=HPSL.out;omega
  case c6=>simp;omega
  intro v' w4 hown4 hg4 _
  have kk:∀{g:Nat} {t:TypeId} {cs:Array Value},Blk W g t cs→t≠5→Blk w4 g t cs:=fun k hne=>(k.alloc _).keepB (HI2.out.alloc _) hne hg4
  have j1:=kk i1 (by decide)
  have j4:=kk i4 (by decide)
  have j5:=kk i5 (by decide)
  have q14:=j1.cell 0
  have f14:=j1.frozen 0
  have l14:=j1.lt
  obtain ⟨A2,c2,rfl,_⟩:=own_slice hown4
  have HO4:=hide hown4
  have hO:KeepsOthers (W.alloc (.cells #[.int .u8 (x.toNat:Nat)] 5)) w4:=KeepsOthers.of_grownBy hg4 (fun j o e ho=>by
   obtain ⟨cur,e'⟩:=row_obj (HI2.out.alloc (.cells #[.int .u8 (x.toNat:Nat)] 5)) e
   rw [e'] at ho
   injection ho with ho
   subst ho
   rfl)
  have hb4:Below w.heap.size w w4:=(i3.alloc i3z _).grown hg4 (by simp;omega) (fun q hq=>(World.ownsRow.lt HI2.out q hq).1)
  have hz4:W.heap.size≤w4.heap.size:=by have:=hg4.size;simp at this;omega
  have HKO:=hide hO
  clear hown4 hg4 q1 f1 l1 hO
  gi_wp2_with fail
  have hne1:w1.heap.size+1≠w1.heap.size:=by omega
  have hne2:w1.heap.size+1+1≠w1.heap.size:=by omega
  refine ⟨((KeepsOthers.alloc _ _).from _).trans ((HKO.out.from _).trans ((KeepsOthers.setCell _ _ _).from _)),⟨?_,?_,by simp [World.setCell];exact hz4⟩,_,j1.set_ 0 _,?_,hb4.setCell (p:=⟨w1.heap.size,0,none⟩) hw12 _,j4.far (p:=⟨w1.heap.size,0,none⟩) hne1 _,j5.far (p:=⟨w1.heap.size,0,none⟩) hne2 _⟩
  ·exact (j4.far (p:=⟨w1.heap.size,0,none⟩) hne1 _).trans i4.symm
  ·exact (j5.far (p:=⟨w1.heap.size,0,none⟩) hne2 _).trans i5.symm
  ·have h2:OwnB w4 w.heap.size (.slice A2 (ps.length+1) c2) (bs++(pre++[x])):=by
    rw [← List.append_assoc, ← HPS.out]
    unfold OwnB
    rw [List.map_append,List.length_append]
    exact HO4.out
   exact h2.far j1 (by decide) _
 case done=>
  rintro D ys W hD rfl ⟨v,i1,i2,i3,i4,i5⟩ hK
  obtain ⟨A,cc,rfl,hnc,_⟩:=own_slice i2
  have q1:=i1.cell 0
  have f1:=i1.frozen 0
  have l1:=i1.lt
  have HI2:=hide i2
  clear i2
  simp only [List.length_append,beB_length, ← HML.out] at HI2 hnc q1 ⊢
  gi_wp2
  have hg:∃g,A=some ⟨g,0,none⟩:=by
   have h1:=HI2.out
   unfold OwnB at h1
   rcases h1.2 with ⟨_,h2⟩|⟨g,cap,cur,h2,_⟩
   ·rw [List.length_append,beB_length] at h2;omega
   ·injection h2 with h2 _ _
    exact ⟨g,h2⟩
  obtain ⟨g,rfl⟩:=hg
  refine leave_mark (v:= .slice (some ⟨g,0,none⟩) (m+width) cc) hK (by simp [results,Tryz.results97,go_sem]) ⟨g,cc,rfl,HI2.out.keep (fun q hq=>World.putObj_heap_other (fun e=>?_)),i3.grown (grownBy_putObj' W D _) i3.size (fun k hk=>by injection hk with hk;omega)⟩
  subst e
  obtain ⟨cur,e2⟩:=row_obj HI2.out hq
  rw [hK] at e2
  cases e2
 case stop=>
  rintro D c pre W hD _ hF _
  exact hF.elim
end Go.Proofs.YtnkjkgmohmcobaaGreatDoor
namespace Go.Proofs.YtnkjkgmohmcobaaGreatDoor
open Go.RowKit Go.Shelf Go.Maps
def noteB (x:ConfD):List UInt8:=((((([0]:List UInt8)++beB 1 x.b)++beB 2 x.p)++beB 1 x.f)++beB 1 x.c)++beB 2 x.l
def metaPg (x:ConfD):List UInt8:=withB (withB (withB zPg 12 2 0) 14 2 (x.b+1)) 16 8 (numI (cutB (noteB x) 0 8))
theorem own_rd0 {W:World} {B m:Nat} {A:Option Addr} {c:Nat} {bs:List UInt8} (h:OwnB W B (.slice A m c) bs) (hm:m=bs.length):m≤c:=by
 unfold OwnB at h
 rw [← hm] at h
 obtain ⟨A',c',e,h1,_⟩:=own_slice h
 injection e with _ _ e2
 rw [e2]
 exact h1
theorem own_readsB {W:World} {B m:Nat} {A:Option Addr} {c:Nat} {bs:List UInt8} (h:OwnB W B (.slice A m c) bs) (hm:m=bs.length):Reads W W.heap.size 1 A m (bs.map byteV):=by
 unfold OwnB at h
 rw [← hm] at h
 exact Reads.of_own h
theorem metaNew_any (x:ConfD) (hx:confOk x=true) (w:World):Calls Tryz.prog 54 #[confV x] w fun e w'=>e= .returned (pgV (metaPg x))∧Below w.heap.size w w':=by
 have hx2:=of_decide_eq_true (show decide _=true from hx)
 have hb1':1≤x.b:=hx2.1
 have hb2':x.b≤16:=hx2.2.1
 clear hx hx2
 have hl0:(withB zPg 12 2 0).length=512:=withB_length zPg_length (by omega) 0
 have hl1:(withB (withB zPg 12 2 0) 14 2 (x.b+1)).length=512:=withB_length hl0 (by omega) _
 have hl2:(metaPg x).length=512:=withB_length hl1 (by omega) _
 have HN0:=hide (fun W=>pNew_any 0 W)
 have HN1:=hide (fun W=>pWithNext_any (withB zPg 12 2 0) hl0 (x.b+1) W)
 have HN2:=hide (fun W=>pWithNote_any (withB (withB zPg 12 2 0) 14 2 (x.b+1)) hl1 (numI (cutB (noteB x) 0 8)) W)
 have HRI:=hide (show (Tryz.prog.info? 116).map (·.size)=some (((metaPg x).map byteV).toArray).size by rw [pg_size _ hl2];exact info_pg)
 have HRZ:=hide (show Tryz.zeroCells116.size=(((metaPg x).map byteV).toArray).size by rw [pg_size _ hl2];exact zeros_page)
 have HR1:=hide (row_one (metaPg x))
 rw [show withB (withB (withB zPg 12 2 0) 14 2 (x.b+1)) 16 8 (numI (cutB (noteB x) 0 8))=metaPg x from rfl] at HN2
 unfold pgV at*
 generalize ((metaPg x).map byteV).toArray=Y2 at*
 generalize ((withB (withB zPg 12 2 0) 14 2 (x.b+1)).map byteV).toArray=Y1 at*
 generalize ((withB zPg 12 2 0).map byteV).toArray=Y0 at*
 clear hl0 hl1 hl2
 unfold confV
 go_enter Tryz.func54,Tryz.ntmps54
 go_upto_region 1 with (fail)
 refine gen2 (R:=fun W=>Code.wp _ _ _ _ W) (fun W1 kB kR hb1 hz1=>?_)
 have HKB:=hide kB
 have HKR:=hide kR
 have HB1:=hide hb1
 clear kB kR hb1
 go_upto_region 2 with (fail)
 refine gen1 (R:=fun W=>Code.wp _ _ _ _ W) (fun W2 k2 hb2 hz2=>?_)
 have HB2:=hide (HB1.out.trans (hb2.mono HB1.out.size))
 have HK2:=hide (Blk.via hb2 HKB.out)
 have HR2:=hide (Blk.via hb2 HKR.out)
 have hrd:=((Reads.of_blk (n:=1) (size:=1) k2 rfl).more (show _≤W2.heap.size by omega):Reads W2 W2.heap.size 1 _ 1 (([0]:List UInt8).map byteV))
 have HRD:=hide hrd
 clear k2 hb2 hrd
 have z0:=HK2.out.cell 0
 have zl:=HK2.out.lt
 have HP:=hide (show Calls Tryz.prog 97 #[.slice (some ⟨W1.heap.size,0,none⟩) 1 1,.int .i64 1,.int .i64 x.b] W2 _ from put_own ⟨W1.heap.size,0,none⟩ 1 1 [0] W2.heap.size rfl (by omega) 1 x.b W2 (by omega) (by omega) (Nat.le_refl _) HRD.out)
 go_wp2_with fail
 refine HP.out.mono ?_
 rintro e W3 ⟨g0,c0,rfl,ho,hb⟩
 have HB3:=hide (HB2.out.trans (hb.mono HB2.out.size))
 have HK3:=hide (Blk.via hb HK2.out)
 have HR3:=hide (Blk.via hb HR2.out)
 have HRD3:=hide (own_readsB ho rfl)
 clear ho hb z0 zl HP
 have z1:=HK3.out.cell 1
 have zl:=HK3.out.lt
 have HP:=hide (show Calls Tryz.prog 97 #[.slice (some ⟨g0,0,none⟩) 2 c0,.int .i64 2,.int .i64 x.p] W3 _ from put_own ⟨g0,0,none⟩ 2 c0 (([0]:List UInt8)++beB 1 x.b) W3.heap.size rfl (by omega) 2 x.p W3 (by omega) (by omega) (Nat.le_refl _) HRD3.out)
 go_wp2_with fail
 refine HP.out.mono ?_
 rintro e W4 ⟨g1,c1,rfl,ho,hb⟩
 have HB4:=hide (HB3.out.trans (hb.mono HB3.out.size))
 have HK4:=hide (Blk.via hb HK3.out)
 have HR4:=hide (Blk.via hb HR3.out)
 have HRD4:=hide (own_readsB ho rfl)
 clear ho hb z1 zl HP
 have z2:=HK4.out.cell 2
 have zl:=HK4.out.lt
 have HP:=hide (show Calls Tryz.prog 97 #[.slice (some ⟨g1,0,none⟩) 4 c1,.int .i64 1,.int .i64 x.f] W4 _ from put_own ⟨g1,0,none⟩ 4 c1 ((([0]:List UInt8)++beB 1 x.b)++beB 2 x.p) W4.heap.size rfl (by omega) 1 x.f W4 (by omega) (by omega) (Nat.le_refl _) HRD4.out)
 go_wp2_with fail
 refine HP.out.mono ?_
 rintro e W5 ⟨g2,c2,rfl,ho,hb⟩
 have HB5:=hide (HB4.out.trans (hb.mono HB4.out.size))
 have HK5:=hide (Blk.via hb HK4.out)
 have HR5:=hide (Blk.via hb HR4.out)
 have HRD5:=hide (own_readsB ho rfl)
 clear ho hb z2 zl HP
 have z3:=HK5.out.cell 3
 have zl:=HK5.out.lt
 have HP:=hide (show Calls Tryz.prog 97 #[.slice (some ⟨g2,0,none⟩) 5 c2,.int .i64 1,.int .i64 x.c] W5 _ from put_own ⟨g2,0,none⟩ 5 c2 (((([0]:List UInt8)++beB 1 x.b)++beB 2 x.p)++beB 1 x.f) W5.heap.size rfl (by omega) 1 x.c W5 (by omega) (by omega) (Nat.le_refl _) HRD5.out)
 go_wp2_with fail
 refine HP.out.mono ?_
 rintro e W6 ⟨g3,c3,rfl,ho,hb⟩
 have HB6:=hide (HB5.out.trans (hb.mono HB5.out.size))
 have HK6:=hide (Blk.via hb HK5.out)
 have HR6:=hide (Blk.via hb HR5.out)
 have HRD6:=hide (own_readsB ho rfl)
 clear ho hb z3 zl HP
 have z4:=HK6.out.cell 4
 have zl:=HK6.out.lt
 have HP:=hide (show Calls Tryz.prog 97 #[.slice (some ⟨g3,0,none⟩) 6 c3,.int .i64 2,.int .i64 x.l] W6 _ from put_own ⟨g3,0,none⟩ 6 c3 ((((([0]:List UInt8)++beB 1 x.b)++beB 2 x.p)++beB 1 x.f)++beB 1 x.c) W6.heap.size rfl (by omega) 2 x.l W6 (by omega) (by omega) (Nat.le_refl _) HRD6.out)
 go_wp2_with fail
 refine HP.out.mono ?_
 rintro e W7 ⟨g4,c4,rfl,ho,hb⟩
 have HNC:=hide (own_rd0 ho rfl)
 have HB7:=hide (HB6.out.trans (hb.mono HB6.out.size))
 have HK7:=hide (Blk.via hb HK6.out)
 have HR7:=hide (Blk.via hb HR6.out)
 have HRD7:=hide (own_readsB ho rfl)
 clear ho hb z4 zl HP
 have HNU:=hide (show Calls Tryz.prog 98 #[.slice (some ⟨g4,0,none⟩) 8 c4,.int .i64 0,.int .i64 8] W7 _ from num_any (some ⟨g4,0,none⟩) 8 c4 (noteB x) 0 8 W7.heap.size W7 (by omega) HNC.out rfl HRD7.out (by omega) (by omega) (by omega))
 generalize numI (cutB (noteB x) 0 8)=nt at HNU HN2
 have z5:=HK7.out.cell 0
 have zl:=HK7.out.lt
 go_upto_region 8 with (go_at_call 98;refine HNU.out.mono ?_;rintro e w' ⟨rfl,hw'⟩;obtain rfl:=hw'.symm)
 clear z5 zl
 refine wp_region_inv_tail 7 [fun v _=>v= .agg Y0,fun v _=>v= .pointer (some ⟨w.heap.size,0,none⟩),fun v _=>v= .int .i64 x.b,fun v _=>v= .int .i64 (x.b+1),fun v _=>v= .agg Y1,fun v _=>v= .int .i64 nt,fun v _=>v= .agg Y2] (by kernel_rfl) (by kernel_rfl) (by kernel_rfl) (by kernel_rfl) (by kernel_rfl) (by first|simp|decide) (by kernel_rfl) ?st ?steps ?fin
 case st=>
  intro i v W W' hWW h
  match i with
  |0|1|2|3|4|5|6=>exact h
  |(i+7)=>exact h
 case steps=>
  simp only [stepsT,List.take_succ_cons,List.take_zero]
  refine ⟨?_,?_,?_,?_,?_,?_,?_,trivial⟩
  ·intro f W hbW hdp
   simp only [fS,Nat.reduceAdd]
   go_wp2_with fail
   refine (HN0.out W).mono ?_
   rintro e w' ⟨rfl,hb⟩
   go_wp2
   exact ⟨rfl,_,rfl,rfl,hb⟩
  ·intro f W hbW hdp
   simp only [fS,Nat.reduceAdd]
   go_wp2
   exact ⟨rfl,_,rfl,rfl,Below.refl _ _⟩
  ·intro f W hbW hdp
   have e1:f 1= .pointer (some ⟨w.heap.size,0,none⟩):=hdp ⟨1,.data⟩ (mfl (by simp) rfl)
   have q0:W.cell? ⟨w.heap.size,0,none⟩=some (.int .i64 x.b):=(Blk.via hbW HK7.out).cell 0
   simp only [fS,Nat.reduceAdd,e1]
   go_wp2
   exact ⟨rfl,_,rfl,rfl,Below.refl _ _⟩
  ·intro f W hbW hdp
   have e2:f 2= .int .i64 x.b:=hdp ⟨2,.data⟩ (mfl (by simp) rfl)
   simp only [fS,Nat.reduceAdd,e2]
   go_wp2
   exact ⟨rfl,_,rfl,rfl,Below.refl _ _⟩
  ·intro f W hbW hdp
   have e0:f 0= .agg Y0:=hdp ⟨0,.data⟩ (mfl (by simp) rfl)
   have e3:f 3= .int .i64 (x.b+1):=hdp ⟨3,.data⟩ (mfl (by simp) rfl)
   simp only [fS,Nat.reduceAdd,e0,e3]
   go_wp2_with fail
   refine (HN1.out W).mono ?_
   rintro e w' ⟨rfl,hb⟩
   go_wp2
   exact ⟨rfl,_,rfl,rfl,hb⟩
  ·intro f W hbW hdp
   simp only [fS,Nat.reduceAdd]
   go_wp2
   exact ⟨rfl,_,rfl,rfl,Below.refl _ _⟩
  ·intro f W hbW hdp
   have e4:f 4= .agg Y1:=hdp ⟨4,.data⟩ (mfl (by simp) rfl)
   have e5:f 5= .int .i64 nt:=hdp ⟨5,.data⟩ (mfl (by simp) rfl)
   simp only [fS,Nat.reduceAdd,e4,e5]
   go_wp2_with fail
   refine (HN2.out W).mono ?_
   rintro e w' ⟨rfl,hb⟩
   go_wp2
   exact ⟨rfl,_,rfl,rfl,hb⟩
 case fin=>
  intro f W hbW hA
  have e6:f 6= .agg Y2:=hA 6 (by omega)
  simp only [List.drop_succ_cons,List.drop_zero,List.take_succ_cons,List.take_zero,fillF,Act.put,List.setIfInBounds_toArray,List.set_cons_succ,List.set_cons_zero,Nat.reduceAdd,e6]
  clear hA e6
  have HKR9:=hide (Blk.via hbW HR7.out)
  have HB9:=hide (HB7.out.trans (hbW.mono HB7.out.size))
  clear hbW
  go_wp2_with (refine wpList_store_row rfl 116 (.tmp 2) (.tmp 38) rfl (w.heap.size+1) Y2 rfl rfl 116 _ HKR9.out HRI.out HRZ.out HR1.out ?_)
  refine bodyPost_ret (results_cell_row Tryz.results54 _ _ (w.heap.size+1) 116 Y2 (0,0) _ rfl (setRow_heap _ (w.heap.size+1) _ _ _ _ HKR9.out) Tryz.underlying116 rfl HRI.out) rfl ⟨rfl,?_⟩
  exact (touch_setRow _ (w.heap.size+1) Y2).below HB9.out (Nat.le_succ _)
end Go.Proofs.YtnkjkgmohmcobaaGreatDoor
namespace Go.Proofs.YtnkjkgmohmcobaaGreatDoor.Vm
open Go Go.RowKit Go.Maps
open Go.ChangeMaps (setBlock)
open Go.MapKept (heap_set)
theorem wpList_range_raw {P:Program} {w w':World} {ops:Array Oper} {rest:List Oper} {o:Oper} {a:Act} {Q:Exit→Act→World→Prop} (hg:o.guard=none) (t:TypeId) (x:Operand) (hop:o.op=Op.range t x) (v r:Value) (hx:a.eval x=v)
  (hrun:(Instr.range t v).run P w= .ok r w') (h:wpList P ops Q rest (a.put o.dst r) w'):wpList P ops Q (o::rest) a w:=by
 refine wpList_plain hg fun K' hK'=>?_
 unfold Oper.wp
 simp [execOp,hop,hx,hrun,Result.andThen]
 exact hK' _ _ h
theorem wpList_next_raw {P:Program} {w w':World} {ops:Array Oper} {rest:List Oper} {o:Oper} {a:Act} {Q:Exit→Act→World→Prop} (hg:o.guard=none) (x:Operand) (hop:o.op=Op.next x false) (v r:Value) (hx:a.eval x=v)
  (hrun:(Instr.next v false o.type).run P w= .ok r w') (h:wpList P ops Q rest (a.put o.dst r) w'):wpList P ops Q (o::rest) a w:=by
 refine wpList_plain hg fun K' hK'=>?_
 unfold Oper.wp
 simp [execOp,hop,hx,hrun,Result.andThen]
 exact hK' _ _ h
def NextOf (es:Array MapEntry) (seen:Array Nat) (e:MapEntry):Prop:=e∈(leftOf es seen).toList
def NoneLeft (es:Array MapEntry) (seen:Array Nat):Prop:=(leftOf es seen).size=0
def HeapAs (w w1:World):Prop:=w1.heap=w.heap∧w1.os=w.os∧w1.tape=w.tape∧w1.output=w.output
theorem wpList_next_at {P:Program} {w:World} {ops:Array Oper} {rest:List Oper} {o:Oper} {a:Act} {Q:Exit→Act→World→Prop} (hg:o.guard=none) (x:Operand) (hop:o.op=Op.next x false) (r bm since c0:Nat) (seen:Array Nat) (es:Array MapEntry) (clock:Nat) (hx:a.eval x= .pointer (some ⟨r,0,none⟩))
  (hr:w.heap[r]?=some (.mapIter (some bm) since seen c0)) (hb:w.heap[bm]?=some (.map es clock)) (hold:∀x∈es.toList,x.born<since) (hsc:since≤c0)
  (hDone:NoneLeft es seen→wpList P ops Q rest (a.put o.dst (.tuple #[.bool false])) w)
  (hMore:∀(e:MapEntry) (w1:World),NextOf es seen e→HeapAs w w1→wpList P ops Q rest (a.put o.dst (.tuple #[.bool true,e.key,e.val])) (setBlock w1 r (.mapIter (some bm) since (seen.push e.born) clock))):wpList P ops Q (o::rest) a w:=by
 rcases run_next_at (P:=P) w o.type r bm since c0 seen es clock hr hb hold hsc with ⟨h0,hrun⟩|⟨e,he,w1,hal,hrun⟩
 ·exact wpList_next_raw hg x hop _ _ hx hrun (hDone h0)
 ·exact wpList_next_raw hg x hop _ _ hx hrun (hMore e w1 he (by rcases hal with rfl|rfl<;>exact ⟨rfl,rfl,rfl,rfl⟩))
def Cov (go:Nat) (x:MapEntry) (i:Nat):Prop:=∃k:Nat,x.key= .int .i64 (k:Int)∧go+k*512≤i∧i<go+k*512+512
def SyE (w:World) (g go n:Nat) (G T:Array Value) (x:MapEntry) (k:Nat) (us:List UInt8):Prop:=
 x.key= .int .i64 (k:Int)∧k<n∧go+k*512+512≤G.size∧us.length=512∧(∀i u,(us.map byteV)[i]?=some u→T[go+k*512+i]?=some u)∧
 ∃b o l cap t,∃cs:Array Value,x.val= .slice (some ⟨b,o,none⟩) l cap∧0<l∧l≤1000000∧b≠g∧Blk w b t cs∧∀i u,(us.map byteV)[i]?=some u→cs[o+(l-1)*512+i]?=some u
def SyI (w:World) (g go m:Nat) (tg:TypeId) (es:Array MapEntry) (clock:Nat) (G T:Array Value) (wr:World):Prop:=
 ∃(seen:Array Nat) (c0:Nat) (cur:Array Value),wr.heap[w.heap.size]?=some (.mapIter (some m) clock seen c0)∧clock≤c0∧Blk wr g tg cur∧cur.size=G.size∧
  (∀i,(∃x∈es.toList,seen.contains x.born=true∧Cov go x i)→cur[i]?=T[i]?)∧(∀i,(¬∃x∈es.toList,seen.contains x.born=true∧Cov go x i)→cur[i]?=G[i]?)∧Turn (fun q=>q=g) w wr
def syW (w:World) (g m:Nat) (tg:TypeId) (T:Array Value) (clock:Nat):World:= {w with heap:=(w.heap.setIfInBounds g (.cells T tg (0,0))).setIfInBounds m (.map #[] clock)}
theorem heap_at {w:World} {b:Nat} {o:Obj} (h:w.heap[b]?=some o):b<w.heap.size:=(Array.getElem?_eq_some_iff.1 h).1
theorem sync_end {w wr:World} {g go m:Nat} {tg:TypeId} {es:Array MapEntry} {clock:Nat} {G T cur:Array Value} {seen:Array Nat} (kg:Blk w g tg G) (hm:w.heap[m]?=some (.map es clock)) (hT:T.size=G.size) (hT0:∀i,(¬∃x∈es.toList,Cov go x i)→T[i]?=G[i]?)
  (hall:∀x∈es.toList,seen.contains x.born=true) (kc:Blk wr g tg cur) (hcs:cur.size=G.size) (h1:∀i,(∃x∈es.toList,seen.contains x.born=true∧Cov go x i)→cur[i]?=T[i]?) (h2:∀i,(¬∃x∈es.toList,seen.contains x.born=true∧Cov go x i)→cur[i]?=G[i]?)
  (ht:Turn (fun q=>q=g) w wr):Below (syW w g m tg T clock).heap.size (syW w g m tg T clock) {wr with heap:=wr.heap.setIfInBounds m (.map #[] clock)} :=by
 have hcT:cur=T:=by
  refine Array.ext (by omega) (fun i h3 h4=>?_)
  have e:cur[i]?=T[i]?:=by
   by_cases hc:∃x∈es.toList,seen.contains x.born=true∧Cov go x i
   ·exact h1 i hc
   ·rw [h2 i hc,hT0 i]
    rintro ⟨x,hx,hcx⟩
    exact hc ⟨x,hx,hall x hx,hcx⟩
  rw [Array.getElem?_eq_getElem h3,Array.getElem?_eq_getElem h4] at e
  exact Option.some.inj e
 subst hcT
 have hml:=heap_at hm
 have hgl:=heap_at kg
 have hne:m≠g:=fun e=>by
  unfold Blk at kg
  rw [e,kg] at hm
  cases hm
 have hms:=ht.size
 refine ⟨ht.os,ht.tape,ht.output,by simp [syW];exact hms,fun q hq=>?_⟩
 simp only [syW,Array.size_setIfInBounds] at hq
 simp only [syW]
 by_cases e1:q=m
 ·subst e1
  rw [Array.getElem?_setIfInBounds_self_of_lt (by omega),Array.getElem?_setIfInBounds_self_of_lt (by simp;omega)]
 ·rw [Array.getElem?_setIfInBounds_ne (Ne.symm e1),Array.getElem?_setIfInBounds_ne (Ne.symm e1)]
  by_cases e2:q=g
  ·subst e2
   rw [Array.getElem?_setIfInBounds_self_of_lt (by omega)]
   exact kc
  ·rw [Array.getElem?_setIfInBounds_ne (Ne.symm e2)]
   exact ht.block q hq e2
theorem sync_any (w:World) (d od g go n c m:Nat) (td tg:TypeId) (D G T:Array Value) (es:Array MapEntry) (clock:Nat)
  (kd:Blk w d td D) (hd0:D[od]?=some (.slice (some ⟨g,go,none⟩) n c)) (hd1:D[od+1]?=some (.map (some m))) (hdg:d≠g)
  (kg:Blk w g tg G) (hm:w.heap[m]?=some (.map es clock)) (hT:T.size=G.size) (hT0:∀i,(¬∃x∈es.toList,Cov go x i)→T[i]?=G[i]?)
  (hes:∀x∈es.toList,∃(k:Nat) (us:List UInt8),SyE w g go n G T x k us) (hb:∀x∈es.toList,x.born<clock) (hnd:(es.toList.map (·.born)).Nodup):
  Calls Tryz.prog 105 #[.pointer (some ⟨d,od,none⟩)] w fun e w'=>e= .returned (.tuple #[])∧Below (syW w g m tg T clock).heap.size (syW w g m tg T clock) w':=by
 have hml:=heap_at hm
 have hgl:=heap_at kg
 have hmg:m≠g:=fun e=>by
  unfold Blk at kg
  rw [e,kg] at hm
  cases hm
 have hmd:m≠d:=fun e=>by
  unfold Blk at kd
  rw [e,kd] at hm
  cases hm
 have HKD:=hide (fun W (h:Turn (fun q=>q=g) w W)=>(show Blk W d td D from (h.block d (heap_at kd) hdg).trans kd))
 have HKM:=hide (fun W (h:Turn (fun q=>q=g) w W)=>(show W.heap[m]?=some (.map es clock) from (h.block m hml hmg).trans hm))
 have HRN:=hide (run_range_map (P:=Tryz.prog) w 111 3 110 m es clock Tryz.underlying111 hm)
 have HD0:=hide hd0
 have HD1:=hide hd1
 have HES:=hide hes
 have HB:=hide hb
 have HND:=hide hnd
 have HE:=hide (fun (wr:World) (seen:Array Nat) (cur:Array Value)=>sync_end (wr:=wr) (seen:=seen) (cur:=cur) (go:=go) kg hm hT hT0)
 have HT:=hide hT
 have HGL:=hide hgl
 have HST:=hide (show SyI w g go m tg es clock G T (w.alloc (.mapIter (some m) clock #[] clock)) from
  ⟨#[],clock,G,heap_alloc_new _ _,Nat.le_refl _,kg.alloc _,rfl,fun i ⟨x,_,h,_⟩=>by simp at h,fun i _=>rfl,Turn.of_below ((Below.refl _ _).alloc (Nat.le_refl _) _)⟩)
 have q0:w.cell? ⟨d,od,none⟩=some _:=(kd.cell od).trans hd0
 have q1:w.cell? ⟨d,od+1,none⟩=some _:=(kd.cell (od+1)).trans hd1
 clear kd kg hm hT hT0 hes hb hnd hd0 hd1 hmd
 go_enter Tryz.func105,Tryz.ntmps105
 go_wp2_with (first
  |(refine wpList_range_raw rfl _ _ rfl _ _ rfl HRN.out ?_)
  |go_in)
 go_frame
 clear q0 q1
 go_loopw [2,3] (fun _ _ wr=>SyI w g go m tg es clock G T wr) (fun _ _ wr=>wr.rangeLeft m w.heap.size)
 case atStart=>exact HST.out
 case round=>
  obtain ⟨seen,c0,cur,hr,hc0,kc,hcs,h1,h2,ht⟩:=hrel
  have KC:=hide kc
  have HR:=hide hr
  have HTW:=hide ht
  have HC1:=hide h1
  have HC2:=hide h2
  have HCS:=hide hcs
  clear hr kc hcs h1 h2 ht
  go_wp2_with (first
   |(refine wpList_next_at rfl _ rfl w.heap.size m clock c0 seen es clock rfl HR.out (HKM.out _ HTW.out) HB.out hc0 ?_ ?_)
   |go_in)
  ·intro h0
   have HEE:=hide (HE.out _ seen cur (all_seen es seen h0) KC.out HCS.out HC1.out HC2.out HTW.out)
   have hm1:=HKM.out _ HTW.out
   have hd1:wr.cell? ⟨d,od+1,none⟩=some _:=((HKD.out _ HTW.out).cell (od+1)).trans HD1.out
   have hcl:∀ty,(Builtin.clear_ #[111] ty #[.map (some m)]).run Tryz.prog wr= .ok (.tuple #[]) {wr with heap:=wr.heap.setIfInBounds m (.map #[] clock)} :=fun ty=>by
    simp [Builtin.clear_,run_underlying Tryz.underlying111,getObj,setObj,Sem.run,hm1]
   clear h0 hm1
   go_wp2
   go_end0
   exact ⟨rfl,HEE.out⟩
  ·intro x w1 hx hal
   obtain ⟨hxm,hxs⟩:=mem_left hx
   obtain ⟨k,us,hkey,hk1,hk2,hul,hut,b,o,l,cap,tb,cs,hval,hl0,hlm,hbg,kb,hcu⟩:=HES.out x hxm
   rw [hkey,hval]
   have hsh:=left_shrinks es seen x hx
   refine nameW (w:=setBlock _ _ _) (R:=fun V=>wpList _ _ _ _ _ V) (fun W2 hW2=>?_)
   have hset:=heap_set (o':= .mapIter (some m) clock (seen.push x.born) clock) (show w1.heap[w.heap.size]?=some (.mapIter (some m) clock seen c0) by rw [hal.1];exact HR.out)
   have hset1:W2.heap[w.heap.size]?=some (.mapIter (some m) clock (seen.push x.born) clock):=by rw [hW2];exact hset.1
   have hset2:∀q,q≠w.heap.size→W2.heap[q]?=w1.heap[q]?:=fun q hq=>by rw [hW2];exact hset.2 q hq
   have hT1:Turn (fun q=>q=g) w w1:=⟨hal.2.1.trans HTW.out.os,hal.2.2.1.trans HTW.out.tape,hal.2.2.2.trans HTW.out.output,by rw [hal.1];exact HTW.out.size,fun q hq hn=>by rw [hal.1];exact HTW.out.block q hq hn⟩
   have hk3:Blk w1 g tg cur:=by unfold Blk;rw [hal.1];exact KC.out
   have hT2:Turn (fun q=>q=g) w W2:=by
    rw [hW2] at hset2 ⊢
    exact ⟨hT1.os,hT1.tape,hT1.output,by simpa [setBlock] using hT1.size,fun q hq hn=>(hset2 q (by omega)).trans (hT1.block q hq hn)⟩
   have hk4:Blk W2 g tg cur:=(hset2 g (by have:=HGL.out;omega)).trans hk3
   have hen:=run_entry_at (P:=Tryz.prog) W2 w.heap.size m clock seen es clock x hset1 (HKM.out _ hT2) hxm HND.out
   rw [hkey,hval] at hen
   have HI2:=hide hset1
   have HT2:=hide hT2
   have KC2:=hide hk4
   clear hset hset1 hset2 hT1 hk3 hT2 hk4 hW2 hal hx
   have HUT:=hide hut
   have HUL:=hide hul
   have HKEY:=hide hkey
   have HXM:=hide hxm
   have HXS:=hide hxs
   have HSH:=hide hsh
   have HK2:=hide hk2
   have HKB:=hide (fun W (h:Turn (fun q=>q=g) w W)=>(show Blk W b tb cs from (h.block b (heap_at kb) hbg).trans kb))
   have HCU:=hide (fun W (kk:Blk W b tb cs)=>(show W.rangeAt b (o+(l-1)*512) (us.map byteV) from fun i u hu=>by rw [kk.cell];exact hcu i u hu))
   have HSI:=hide (show (Tryz.prog.info? 116).map (·.size)=some (us.map byteV).length by rw [List.length_map,hul];exact info_pg)
   have HS2:=hide (show (Tryz.prog.info? 116).map (·.size)=some (us.map byteV).toArray.size by rw [List.size_toArray,List.length_map,hul];exact info_pg)
   have a0:(0:Int)≤k:=by omega
   have a1:(k:Int)<n:=by omega
   have b1:(0:Int)≤(l:Int)-1:=by omega
   have b2:(l:Int)-1<l:=by omega
   have b3:((l:Int)-1).toNat=l-1:=by omega
   clear hkey hval hsh hut hul hk2 kb hcu hxm hxs hk1 hbg
   go_upto_region 3 with (fail)
   clear hen
   refine wp_region_inv_tail 12 [fun v _=>v= .pointer (some ⟨d,od,none⟩),fun v _=>v= .pointer (some ⟨d,od,none⟩),fun v _=>v= .pointer (some ⟨d,od,none⟩),fun v _=>v= .slice (some ⟨g,go,none⟩) n c,fun v _=>v= .int .i64 (k:Nat),fun v _=>v= .slice (some ⟨b,o,none⟩) l cap,fun v _=>v= .slice (some ⟨b,o,none⟩) l cap,fun v _=>v= .int .i64 (l:Nat),fun v _=>v= .int .i64 ((l:Int)-1),fun v _=>v= .pointer (some ⟨b,o+(l-1)*512,none⟩),fun v _=>v= .agg (us.map byteV).toArray,fun v _=>v= .pointer (some ⟨g,go+k*512,none⟩)] (by kernel_rfl) (by kernel_rfl) (by kernel_rfl) (by kernel_rfl) (by kernel_rfl) (by first|simp|decide) (by kernel_rfl) ?st ?steps ?fin
   case st=>
    intro i v W W' hWW h
    match i with
    |0|1|2|3|4|5|6|7|8|9|10|11=>exact h
    |(i+12)=>exact h
   case steps=>
    simp only [stepsT,List.take_succ_cons,List.take_zero]
    refine ⟨?_,?_,?_,?_,?_,?_,?_,?_,?_,?_,?_,?_,trivial⟩
    ·intro f W hbW hdp
     simp only [fS,Nat.reduceAdd]
     go_wp2
     exact ⟨rfl,_,rfl,rfl,Below.refl _ _⟩
    ·intro f W hbW hdp
     have e0:f 0= .pointer (some ⟨d,od,none⟩):=hdp ⟨0,.data⟩ (mfl (by simp) rfl)
     simp only [fS,Nat.reduceAdd,e0]
     go_wp2
     exact ⟨rfl,_,rfl,rfl,Below.refl _ _⟩
    ·intro f W hbW hdp
     have e1:f 1= .pointer (some ⟨d,od,none⟩):=hdp ⟨1,.data⟩ (mfl (by simp) rfl)
     simp only [fS,Nat.reduceAdd,e1]
     go_wp2
     exact ⟨rfl,_,rfl,rfl,Below.refl _ _⟩
    ·intro f W hbW hdp
     have e2:f 2= .pointer (some ⟨d,od,none⟩):=hdp ⟨2,.data⟩ (mfl (by simp) rfl)
     have q:W.cell? ⟨d,od,none⟩=some _:=((HKD.out W (HT2.out.trans (Turn.of_below hbW))).cell od).trans HD0.out
     simp only [fS,Nat.reduceAdd,e2]
     go_wp2
     exact ⟨rfl,_,rfl,rfl,Below.refl _ _⟩
    ·intro f W hbW hdp
     simp only [fS,Nat.reduceAdd]
     go_wp2
     exact ⟨rfl,_,rfl,rfl,Below.refl _ _⟩
    ·intro f W hbW hdp
     simp only [fS,Nat.reduceAdd]
     go_wp2
     exact ⟨rfl,_,rfl,rfl,Below.refl _ _⟩
    ·intro f W hbW hdp
     simp only [fS,Nat.reduceAdd]
     go_wp2
     exact ⟨rfl,_,rfl,rfl,Below.refl _ _⟩
    ·intro f W hbW hdp
     have e6:f 6= .slice (some ⟨b,o,none⟩) l cap:=hdp ⟨6,.data⟩ (mfl (by simp) rfl)
     simp only [fS,Nat.reduceAdd,e6]
     go_wp2
     exact ⟨rfl,_,rfl,rfl,Below.refl _ _⟩
    ·intro f W hbW hdp
     have e7:f 7= .int .i64 (l:Nat):=hdp ⟨7,.data⟩ (mfl (by simp) rfl)
     simp only [fS,Nat.reduceAdd,e7]
     go_wp2
     exact ⟨rfl,_,rfl,rfl,Below.refl _ _⟩
    ·intro f W hbW hdp
     have e5:f 5= .slice (some ⟨b,o,none⟩) l cap:=hdp ⟨5,.data⟩ (mfl (by simp) rfl)
     have e8:f 8= .int .i64 ((l:Int)-1):=hdp ⟨8,.data⟩ (mfl (by simp) rfl)
     simp only [fS,Nat.reduceAdd,e5,e8]
     go_wp2
     exact ⟨rfl,_,rfl,rfl,Below.refl _ _⟩
    ·intro f W hbW hdp
     have e9:f 9= .pointer (some ⟨b,o+(l-1)*512,none⟩):=hdp ⟨9,.data⟩ (mfl (by simp) rfl)
     simp only [fS,Nat.reduceAdd,e9]
     refine wpList_load_mid rfl 116 (.tmp 23) rfl b (o+(l-1)*512) rfl (us.map byteV) _ (HCU.out W (HKB.out W (HT2.out.trans (Turn.of_below hbW)))) Tryz.underlying116 rfl HSI.out ?_
     exact ⟨rfl,_,rfl,rfl,Below.refl _ _⟩
    ·intro f W hbW hdp
     have e3:f 3= .slice (some ⟨g,go,none⟩) n c:=hdp ⟨3,.data⟩ (mfl (by simp) rfl)
     have e4:f 4= .int .i64 (k:Nat):=hdp ⟨4,.data⟩ (mfl (by simp) rfl)
     simp only [fS,Nat.reduceAdd,e3,e4]
     go_wp2
     exact ⟨rfl,_,rfl,rfl,Below.refl _ _⟩
   case fin=>
    intro f W hbW hA
    have e10:f 10= .agg (us.map byteV).toArray:=hA 10 (by omega)
    have e11:f 11= .pointer (some ⟨g,go+k*512,none⟩):=hA 11 (by omega)
    simp only [List.drop_succ_cons,List.drop_zero,List.take_succ_cons,List.take_zero,fillF,Act.put,List.setIfInBounds_toArray,List.set_cons_succ,List.set_cons_zero,Nat.reduceAdd,e10,e11]
    clear hA e10 e11
    have kc3:=Blk.via hbW KC2.out
    have hul:=HUL.out
    have hk2:=HK2.out
    have hcs:=HCS.out
    refine wpList_store_mid rfl 116 (.tmp 25) (.tmp 24) rfl g (go+k*512) (us.map byteV).toArray rfl rfl (by
     rw [List.size_toArray,List.length_map,hul]
     intro i hi
     exact ⟨by rw [kc3.cell,Array.getElem?_eq_getElem (show go+k*512+i<cur.size by omega)];rfl,kc3.frozen _⟩) HS2.out (all_oneCell_toArray (bytes_one _)) ?_
    refine nameW (w:=World.setCells _ _ _ _) (R:=fun V=>wpList _ _ _ _ _ V) (fun W4 hW4=>?_)
    have hk4:Blk W4 g tg (setL cur (go+k*512) (us.map byteV)):=by
     rw [hW4]
     exact setCells_blk _ _ _ _ kc3
    have hT4:Turn (fun q=>q=g) W W4:=by
     rw [hW4]
     exact setCells_turn (S:=fun q=>q=g) rfl _ _ _ _ (Turn.of_below (Below.refl _ _))
    have hI4:W4.heap[w.heap.size]?=some (.mapIter (some m) clock (seen.push x.born) clock):=by
     have hI2:=HI2.out
     have hlt:=heap_at hI2
     rw [hT4.block w.heap.size (by have:=hbW.size;omega) (by have:=HGL.out;omega),hbW.block _ hlt]
     exact hI2
    have hTW:=(HT2.out.trans (Turn.of_below hbW)).trans hT4
    clear hW4 kc3 hbW
    dsimp only [Act.put]
    go_wp2
    go_roundw
    case rel=>
     obtain ⟨g1,g2,g3⟩:=setL_spec (us.map byteV) cur (go+k*512) (by rw [List.length_map];omega)
     rw [List.length_map,hul] at g2
     refine ⟨seen.push x.born,clock,_,hI4,Nat.le_refl _,hk4,by rw [g1];exact hcs,fun i hi=>?_,fun i hi=>?_,hTW⟩
     ·obtain ⟨y,hy,hys,hyc⟩:=hi
      by_cases hin:go+k*512≤i∧i<go+k*512+512
      ·obtain ⟨j,rfl⟩:∃j,i=go+k*512+j:=⟨i-(go+k*512),by omega⟩
       have hj:(us.map byteV)[j]?=some ((us.map byteV)[j]'(by rw [List.length_map];omega)):=List.getElem?_eq_getElem _
       rw [g3 j _ hj,HUT.out j _ hj]
      ·rw [g2 i (by omega)]
       refine HC1.out i ⟨y,hy,?_,hyc⟩
       rw [contains_push,Bool.or_eq_true] at hys
       rcases hys with h|h
       ·exact h
       ·exfalso
        obtain rfl:=born_inj HND.out hy HXM.out (eq_of_beq h)
        obtain ⟨k',e1,e2,e3⟩:=hyc
        rw [HKEY.out] at e1
        injection e1 with _ e1
        exact hin (by omega)
     ·have hxin:(seen.push x.born).contains x.born=true:=by rw [contains_push];simp
      rw [g2 i (by
       rcases Nat.lt_or_ge i (go+k*512) with h|h
       ·exact .inl h
       ·rcases Nat.lt_or_ge i (go+k*512+512) with h'|h'
        ·exact absurd ⟨x,HXM.out,hxin,k,HKEY.out,h,h'⟩ hi
        ·exact .inr h')]
      refine HC2.out i (fun ⟨y,hy,hys,hyc⟩=>hi ⟨y,hy,?_,hyc⟩)
      rw [contains_push,hys]
      rfl
    case measure=>
     have e1:wr.rangeLeft m w.heap.size=(leftOf es seen).size:=by simp only [World.rangeLeft,HKM.out _ HTW.out,HR.out]
     have e2:W4.rangeLeft m w.heap.size=(leftOf es (seen.push x.born)).size:=by simp only [World.rangeLeft,HKM.out _ hTW,hI4]
     rw [e1,e2]
     exact HSH.out
end Go.Proofs.YtnkjkgmohmcobaaGreatDoor.Vm
namespace Go.Proofs.YtnkjkgmohmcobaaGreatDoor
open Go.RowKit Go.Maps Go.WideElems Go.WideShapes
theorem flat_len512:∀{l:List (List UInt8)},(∀p∈l,p.length=512)→(l.flatMap (fun p=>p.map byteV)).length=l.length*512
 |[],_=>rfl
 |x::l,h=>by
  rw [List.flatMap_cons,List.length_append,List.length_map,h x List.mem_cons_self,flat_len512 (fun p hp=>h p (List.mem_cons_of_mem _ hp)),List.length_cons]
  omega
theorem flat_at512 {l:List (List UInt8)} (h:∀p∈l,p.length=512) (i:Nat):(l.flatMap (fun p=>p.map byteV))[i]?=(l[i/512]?).bind fun p=>(p.map byteV)[i%512]?:=by
 by_cases hi:i/512<l.length
 ·obtain ⟨p,hp⟩:∃p,l[i/512]?=some p:=⟨_,List.getElem?_eq_getElem hi⟩
  have hpl:=h p (List.mem_of_getElem? hp)
  obtain ⟨u,hu⟩:∃u,(p.map byteV)[i%512]?=some u:=⟨_,List.getElem?_eq_getElem (by rw [List.length_map,hpl];omega)⟩
  have:=flat_pages h hp (i%512) u hu
  rw [show i/512*512+i%512=i by omega] at this
  rw [this,hp]
  exact hu.symm
 ·rw [List.getElem?_eq_none (by rw [flat_len512 h];omega),List.getElem?_eq_none (by omega)]
  rfl
def safeN (safe:List (List UInt8)) (wr:Nat→List (List UInt8)):List (List UInt8):=(List.range safe.length).map (pgOf safe wr)
theorem safeN_length (safe:List (List UInt8)) (wr:Nat→List (List UInt8)):(safeN safe wr).length=safe.length:=by unfold safeN;rw [List.length_map,List.length_range]
theorem safeN_at {safe:List (List UInt8)} {wr:Nat→List (List UInt8)} {i:Nat} (h:i<safe.length):(safeN safe wr)[i]?=some (pgOf safe wr i):=by
 unfold safeN
 rw [List.getElem?_map,List.getElem?_range h]
 rfl
def SyncP (w:World) (d g m n:Nat) (fuse:Int) (lv:Value) (stale head sure:Int) (safe:List (List UInt8)) (wr:Nat→List (List UInt8)) (w':World):Prop:=
 DevS w' d g m n false fuse lv stale head sure (safeN safe wr) 0 (fun _=>none) (fun _=>[])∧Turn (fun q=>q=d∨q=g∨q=m) w w'
theorem mapF_none {W:World} {m clock:Nat} (h:W.heap[m]?=some (.map #[] clock)):MapF W m 0 (fun _=>none):=
 ⟨.map [],⟨#[],clock,h,⟨by simp,MapKept.stamped_empty clock,fun x hx=>by simp at hx⟩,Nat.le_refl _,rfl⟩,fun _=>⟨rfl,fun _ h=>by cases h⟩⟩
theorem devsync_any (w:World) (d g m n:Nat) (fuse:Int) (lv:Value) (stale head sure:Int) (safe:List (List UInt8)) (k:Nat) (mf:Int→Option Value) (wr:Nat→List (List UInt8)) (h:DevS w d g m n false fuse lv stale head sure safe k mf wr)
  (hmf:∀p v,mf p=some v→∃i:Nat,p=(i:Int)∧i<n∧0<(wr i).length∧(wr i).length≤1000000):
  Calls Tryz.prog 105 #[.pointer (some ⟨d,0,none⟩)] w fun e w'=>(∃v,e= .returned v)∧SyncP w d g m n fuse lv stale head sure safe wr w':=by
 obtain ⟨o,kd⟩:=h.kd
 obtain ⟨D,⟨es,clock,hb,F,hs,hD⟩,hf⟩:=h.hm
 have hst:=(MapKept.stamped_iff es clock).1 F.stamped
 have K:=keyInt
 have hdg:d≠g:=kd.ne_ h.kg (by decide)
 have hpl:∀p∈safeN safe wr,p.length=512:=by
  intro p hp
  unfold safeN at hp
  obtain ⟨i,hi,rfl⟩:=List.mem_map.1 hp
  exact pgOf_length h (by have:=List.mem_range.1 hi;rw [h.sn] at this;exact this)
 have hent:∀x∈es.toList,∃i:Nat,x.key= .int .i64 (i:Int)∧mf (i:Int)=some x.val∧i<n∧0<(wr i).length∧(wr i).length≤1000000:=by
  intro x hx
  obtain ⟨y,hy⟩:=F.reads x hx
  have hkey:=rd_key hy
  obtain ⟨p,e1,e2,e3⟩:=Maps.keyOf_int_inv Tryz.underlying3 hkey
  obtain ⟨z,hz,hzd⟩:=rd_val hy
  have hrg:=rg_of hy
  have hk:WideAt.IsKeyLit y.1:=K.key hkey
  have hat:∀zd,D.atKey (.int .i64 p) zd= .held x.val:=fun zd=>by
   rw [← e2,hD,(atKey_sorted (es.toList.map (rg Tryz.prog 3 heldV)) (Maps.fit_rising K F) y.1 hk).2 (rg Tryz.prog 3 heldV x) (List.mem_map.2 ⟨x,hx,rfl⟩) (by rw [hrg]),hrg,hzd]
   rw [← Option.some.inj (show some (DataW.held x.val,([]:List MemPlace))=some z from hz)]
  have hhas:Maps.has D (.int .i64 p)=true:=has_true_of_atKey hat
  rw [(hf p).1] at hhas
  obtain ⟨v,hv⟩:=Option.isSome_iff_exists.1 hhas
  have hv2:=(hf p).2 v hv .nil
  rw [hat] at hv2
  injection hv2 with hv2
  obtain ⟨i,rfl,g1,g2,g3⟩:=hmf p v hv
  exact ⟨i,e1,by rw [hv,hv2],g1,g2,g3⟩
 have hT:=flat_len512 hpl
 rw [safeN_length,h.sn] at hT
 have hG:=flat_len512 h.sl
 rw [h.sn] at hG
 have hmain:=Vm.sync_any w d 0 g 0 n n m 113 116 _ _ ((safeN safe wr).flatMap (fun p=>p.map byteV)).toArray es clock kd rfl rfl hdg h.kg hb (by rw [List.size_toArray,List.size_toArray,hT,hG]) ?c1 ?c2 hst.1 hst.2.1
 case c1=>
  intro i hi
  rw [List.getElem?_toArray,List.getElem?_toArray,flat_at512 hpl,flat_at512 h.sl]
  by_cases hin:i/512<safe.length
  ·have hz:(wr (i/512)).length=0:=by
    cases hm0:mf ((i/512:Nat):Int) with
    |none=>
     have:=h.fw (i/512)
     rw [hm0] at this
     obtain ⟨A',c',e,_⟩:=own_slice this
     injection e with _ e _
     exact e.symm
    |some v=>
     exfalso
     have hhas:Maps.has D (.int .i64 ((i/512:Nat):Int))=true:=by rw [(hf _).1,hm0];rfl
     rw [hD,has_eq] at hhas
     obtain ⟨p,hp,hpk⟩:=List.any_eq_true.1 hhas
     obtain ⟨x,hx,rfl⟩:=List.mem_map.1 (mem_sorted.1 hp)
     obtain ⟨q,e1,_⟩:=hent x hx
     obtain ⟨y,hy⟩:=F.reads x hx
     obtain ⟨p',f1,f2,f3⟩:=Maps.keyOf_int_inv Tryz.underlying3 (rd_key hy)
     have hke:=WideAt.sameKey_eq hpk
     rw [rg_of hy,f2] at hke
     rw [f1] at e1
     injection e1 with _ e1
     injection hke with _ hke
     refine hi ⟨x,hx,q,by rw [f1,e1],?_,?_⟩<;>omega
   rw [safeN_at hin,List.getElem?_eq_getElem hin]
   have:pgOf safe wr (i/512)=safe[i/512]:=by
    unfold pgOf
    rw [if_pos hz,List.getD_eq_getElem?_getD,List.getElem?_eq_getElem hin]
    rfl
   rw [this]
  ·rw [List.getElem?_eq_none (by rw [safeN_length];omega),List.getElem?_eq_none (by omega)]
 case c2=>
  intro x hx
  obtain ⟨i,e1,e2,e3,e4,e5⟩:=hent x hx
  have hfw:=h.fw i
  rw [e2,Option.getD_some] at hfw
  obtain ⟨q1,q2⟩:=hfw
  have hlen:pgOf safe wr i=(wr i).getD ((wr i).length-1) []:=by unfold pgOf;rw [if_neg (by omega)]
  have hpgl:(pgOf safe wr i).length=512:=pgOf_length h e3
  rcases q2 with ⟨q2,q3⟩|⟨gr,cap,cur,q2,q3,q4,q5,q6,q7,q8⟩
  ·omega
  ·refine ⟨i,pgOf safe wr i,e1,e3,by rw [List.size_toArray,hG];omega,hpgl,fun j u hu=>?_,gr,0,(wr i).length,cap,116,cur,q2,e4,e5,fun e=>?_,q4,fun j u hu=>?_⟩
   ·rw [Nat.zero_add,List.getElem?_toArray]
    exact flat_pages hpl (safeN_at (by rw [h.sn];exact e3)) j u hu
   ·refine h.gw i ?_
    rw [e2,Option.getD_some,q2,e]
    rfl
   ·rw [Nat.zero_add]
    have hpg:(wr i)[(wr i).length-1]?=some (pgOf safe wr i):=by
     rw [hlen,List.getD_eq_getElem?_getD,List.getElem?_eq_getElem (by omega)]
     rfl
    have hfl:=flat_pages (h.wl i) hpg j u hu
    have hj:j<512:=by
     have:=(List.getElem?_eq_some_iff.1 hu).1
     rw [List.length_map,hpgl] at this
     exact this
    rw [← q8,List.getElem?_take_of_lt (by omega)] at hfl
    simpa using hfl
 refine hmain.mono ?_
 rintro e w' ⟨rfl,hbw⟩
 refine ⟨⟨_,rfl⟩,?_⟩
 have hgl:=h.kg.lt
 have hml:=h.hm.lt
 have hdm:d≠m:=h.hm.ne kd
 have hgm:g≠m:=h.hm.ne h.kg
 have hz:(Vm.syW w g m 116 ((safeN safe wr).flatMap (fun p=>p.map byteV)).toArray clock).heap.size=w.heap.size:=by simp [Vm.syW]
 have hne:∀q,q<w.heap.size→q≠g→q≠m→w'.heap[q]?=w.heap[q]?:=fun q hq h1 h2=>by
  rw [hbw.block q (by rw [hz];exact hq)]
  unfold Vm.syW
  dsimp only
  rw [Array.getElem?_setIfInBounds_ne (Ne.symm h2),Array.getElem?_setIfInBounds_ne (Ne.symm h1)]
 have hg':Blk w' g 116 ((safeN safe wr).flatMap (fun p=>p.map byteV)).toArray:=by
  show w'.heap[g]?=_
  rw [hbw.block g (by rw [hz];exact hgl)]
  unfold Vm.syW
  dsimp only
  rw [Array.getElem?_setIfInBounds_ne (Ne.symm hgm),Array.getElem?_setIfInBounds_self_of_lt hgl]
 have hm':w'.heap[m]?=some (.map #[] clock):=by
  rw [hbw.block m (by rw [hz];exact hml)]
  unfold Vm.syW
  dsimp only
  rw [Array.getElem?_setIfInBounds_self_of_lt (by rw [Array.size_setIfInBounds];exact hml)]
 have hd':Blk w' d 113 _:=(hne d kd.lt hdg hdm).trans kd
 refine ⟨⟨⟨o,hd'⟩,hg',by rw [safeN_length,h.sn],hpl,mapF_none hm',fun i p hp=>(by cases hp),fun i=>World.ownsRow_nil _ _ _ _,fun i e=>(by cases e),fun i j _ q hq=>(by cases hq)⟩,⟨hbw.os,hbw.tape,hbw.output,by have:=hbw.size;rw [hz] at this;exact this,fun q hq hs=>hne q hq (fun e=>hs (.inr (.inl e))) (fun e=>hs (.inr (.inr e)))⟩⟩
theorem DevS.drv {w w':World} {d g m n:Nat} {fs:Bool} {fuse:Int} {lv:Value} {stale head sure:Int} {safe:List (List UInt8)} {k:Nat} {mf:Int→Option Value} {wr:Nat→List (List UInt8)} (h:DevS w d g m n fs fuse lv stale head sure safe k mf wr) {o':Int} (hw:w'=w.setCell ⟨d,9,none⟩ (.int .i64 o')):DevS w' d g m n fs fuse lv stale head sure safe k mf wr:=by
 obtain ⟨o,kd⟩:=h.kd
 subst hw
 exact h.turnd (Turn.set (S:=fun q=>q=d) (Turn.of_below (Below.refl w.heap.size w)) (p:=⟨d,9,none⟩) (.inl rfl) _) ⟨o',kd.set_ 9 _⟩
theorem devSync_any (w:World) (d g m n:Nat) (fuse:Int) (lv:Value) (stale head sure:Int) (safe:List (List UInt8)) (k:Nat) (mf:Int→Option Value) (wr:Nat→List (List UInt8)) (h:DevS w d g m n false fuse lv stale head sure safe k mf wr)
  (hmf:∀p v,mf p=some v→∃i:Nat,p=(i:Int)∧i<n∧0<(wr i).length∧(wr i).length≤1000000):
  Calls Tryz.prog 57 #[.pointer (some ⟨d,0,none⟩)] w fun e w'=>e= .returned (.int .i64 0)∧SyncP w d g m n fuse lv stale head sure safe wr w':=by
 have hmk:∀(fn:Fn) (first cap:Array Value) (w:World),(Instr.makeFunc fn first cap).run Tryz.prog w= .ok (.func fn first cap) w:=fun _ _ _ _=>rfl
 have hb1:Below w.heap.size w (w.alloc (.cells #[.pointer (some ⟨d,0,none⟩)] 77)):=(Below.refl _ _).alloc (Nat.le_refl _) _
 have h1:=h.via hb1
 have kb:=Blk.new w 77 #[.pointer (some ⟨d,0,none⟩)]
 have hdl:=h.lt d (.inl rfl)
 have hgl:=h.lt g (.inr (.inl rfl))
 have hml:=h.lt m (.inr (.inr (.inl rfl)))
 obtain ⟨o,kd⟩:=h.kd
 have hact:=devsync_any _ d g m n fuse lv stale head sure safe k mf wr h1 hmf
 have hR:DoRF w.heap.size d false fuse (fun W=>SyncP (w.alloc (.cells #[.pointer (some ⟨d,0,none⟩)] 77)) d g m n fuse lv stale head sure safe wr W):=by
  rintro W ⟨g1,g2⟩
  obtain ⟨o5,kd5⟩:=g1.kd
  refine ⟨g2.blk kb (fun hq=>?_),_,o5,kd5,rfl,rfl,rfl⟩
  rcases hq with e|e|e<;>omega
 have HD:=hide (doF_any d 105 (.pointer (some ⟨d,0,none⟩)) _ false fuse _ w kd rfl rfl rfl (fun h=>by cases h) hR (fun W=>by simp [go_sem]) hact)
 have HF:=hide (show ∀w',(∃W,SyncP (w.alloc (.cells #[.pointer (some ⟨d,0,none⟩)] 77)) d g m n fuse lv stale head sure safe wr W∧doneW false d fuse W w')→SyncP w d g m n fuse lv stale head sure safe wr w' from by
  rintro w' ⟨W,⟨g1,g2⟩,o',hw'⟩
  obtain rfl:w'=W.setCell ⟨d,9,none⟩ (.int .i64 o'):=hw'
  exact ⟨g1.drv rfl,Turn.set (S:=fun q=>q=d∨q=g∨q=m) ((Turn.of_below hb1).trans g2) (p:=⟨d,9,none⟩) (.inl (.inl rfl)) _⟩)
 clear hact hR kb h1 hb1 kd
 go_enter Tryz.func57,Tryz.ntmps57
 go_wp2_with fail
 refine HD.out.mono ?_
 rintro e w' ⟨rfl,hw'⟩
 have HL:=hide (HF.out w' hw')
 clear hw'
 go_wp2
 go_ret
 exact ⟨rfl,HL.out⟩
end Go.Proofs.YtnkjkgmohmcobaaGreatDoor
