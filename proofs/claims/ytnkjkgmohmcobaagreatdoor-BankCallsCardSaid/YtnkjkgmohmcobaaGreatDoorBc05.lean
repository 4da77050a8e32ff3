/-
  Texts of this claim, joined: KN, KS, KT, KV, KW.
-/
import Derived.Test.YtnkjkgmohmcobaaGreatDoorBc04
set_option maxHeartbeats 6400000
set_option maxRecDepth 100000
namespace Go.Proofs.YtnkjkgmohmcobaaGreatDoor
open Go.RowKit
def SlotGP (w:World) (o:Option ItemD) (e:Ending) (w':World):Prop:=
 ((o=none∧e= .returned (.tuple #[itemV 0 ⟨#[]⟩ ⟨0,[],0,0,0⟩ (.slice none 0 0),.int .i64 12]))∨(∃x cv,o=some x∧e= .returned (.tuple #[itemV x.st x.key x.cell cv,.int .i64 0])∧BytesAt w' w'.heap.size cv x.cell.data))∧Below w.heap.size w w'
theorem info_itemK:(Tryz.prog.info? 95).map (·.size)=some 7:=by kernel_rfl
theorem results_row_1 {fn:Func} {p t2:Tmp} {ty:TypeId} (h:fn.results= #[.cell p ty,.tmp t2]) (tmps:Array Value) (w:World) (g:Nat) (cs:Array Value)
  (hp:tmps.getD p undef= .pointer (some ⟨g,0,none⟩)) (hl:(loadVar ty ⟨g,0,none⟩).run Tryz.prog w= .ok (.agg cs) w):
  (results fn tmps).run Tryz.prog w= .ok (.tuple #[.agg cs,tmps.getD t2 undef]) w:=by
 have hp':tmps[p]?.getD undef= .pointer (some ⟨g,0,none⟩):=by simpa using hp
 simp [results,h,hp',asAddr,hl]
theorem noGuard64:Tryz.prog.eqGuardType Tryz.prog.depth 254=false:=by kernel_rfl
theorem slotGet_any (bs:List UInt8) (hl:bs.length=64) (w:World):Calls Tryz.prog 169 #[.agg (bs.map byteV).toArray] w (SlotGP w (slotG bs)):=by
 have HQ0:=hide (fun W=>run_eqB 254 64 9998 Tryz.underlying254 bs (pad64 []) hl (pad64_length (by simp)) W)
 have HQX:=hide (fun (ys:List UInt8) (hy:ys.length=64) W=>run_eqB 254 64 9998 Tryz.underlying254 ys bs hy hl W)
 have HG:=hide (show slotG bs=(if bs=pad64 [] then some item0 else if 16<slotN bs then none else slotD bs (cellG (bs.drop (2+slotN bs)))) from rfl)
 obtain ⟨x0,hx0⟩:∃x,bs[0]?=some x:=⟨_,List.getElem?_eq_getElem (by omega)⟩
 obtain ⟨x1,hx1⟩:∃x,bs[1]?=some x:=⟨_,List.getElem?_eq_getElem (by omega)⟩
 have H0:=hide (show slotS bs=x0.toNat by unfold slotS;rw [List.getD_eq_getElem?_getD,hx0];rfl)
 have H1:=hide (show slotN bs=x1.toNat by unfold slotN;rw [List.getD_eq_getElem?_getD,hx1];rfl)
 have hX0:((bs.map byteV).toArray)[0]?=some (.int .u8 ((x0.toNat:Nat):Int)):=by rw [List.getElem?_toArray,List.getElem?_map,hx0];rfl
 have hX1:((bs.map byteV).toArray)[1]?=some (.int .u8 ((x1.toNat:Nat):Int)):=by rw [List.getElem?_toArray,List.getElem?_map,hx1];rfl
 have HX0:=hide hX0
 have HX1:=hide hX1
 have hxl0:=x0.toNat_lt
 have hxl1:=x1.toNat_lt
 have HNG:=hide noGuard64
 have HL:=hide hl
 have HII:=hide (show (Tryz.prog.info? 254).map (·.size)=some ((bs.map byteV).toArray).size by rw [List.size_toArray,List.length_map,hl];kernel_rfl)
 have hreads:∀(W:World) (g:Nat),Blk W g 254 (bs.map byteV).toArray→Reads W (g+1) 1 (some ⟨g,0,none⟩) 64 (bs.map byteV):=fun W g k=>by
  have h:=Reads.of_blk (n:=64) (size:=1) k (by simp [hl])
  simpa using h
 have HRD:=hide (fun (W:World) (g m:Nat) (k:Blk W g 254 (bs.map byteV).toArray) (hm:m≤16)=>(show Reads W (g+1) 1 (some ⟨g,2+m,none⟩) (62-m) ((bs.drop (2+m)).map byteV) by
  have h:=(hreads W g k).cut (k:=2+m) (cap:=64) (by omega) (by omega)
  rw [if_neg (by omega),Option.map_some,add_plain,Nat.mul_one,Nat.zero_add] at h
  rw [List.map_drop,show 62-m=64-(2+m) by omega]
  exact h))
 have HKY:=hide (fun (W:World) (g m:Nat) (k:Blk W g 254 (bs.map byteV).toArray) (hm:m≤16)=>(show Reads W (g+1) 1 (some ⟨g,2,none⟩) m ((cutB bs 2 m).map byteV) by
  have h:=((hreads W g k).cut (k:=2) (cap:=64) (by omega) (by omega)).take (k:=m) (by omega)
  rw [if_neg (by omega),Option.map_some,add_plain,Nat.mul_one,Nat.mul_one,Nat.zero_add] at h
  unfold cutB
  rw [List.map_take,List.map_drop]
  exact h))
 generalize hn0:x0.toNat=n0 at*
 generalize hn1:x1.toNat=n1 at*
 generalize hX:(bs.map byteV).toArray=X at*
 clear hx0 hx1 hX0 hX1 hreads hn0 hn1 hX hl
 go_enter Tryz.func169,Tryz.ntmps169
 go_upto_region 1 with (fail)
 refine gen2 (R:=fun W=>Code.wp _ _ _ _ W) (fun W1 kB kR hb1 hz1=>?_)
 have HKB:=hide kB
 have HKR:=hide kR
 have HB1:=hide hb1
 have q1:W1.cell? ⟨w.heap.size,1,none⟩=some _:=(kB.cell 1).trans HX1.out
 have lB:=kB.lt
 clear kB kR hb1
 by_cases hz:bs=pad64 []
 ·have HGG:=hide (show slotG bs=some item0 by rw [HG.out,if_pos hz])
  have hq:=fun W=>HQ0.out W
  rw [show (bs==pad64 [])=true by rw [hz];exact beq_self_eq_true _] at hq
  clear hz
  have c20:=(HKR.out).cell 0
  have c21:=(HKR.out).cell 1
  have c22:=(HKR.out).cell 2
  have c23:=(HKR.out).cell 3
  have c24:=(HKR.out).cell 4
  have c25:=(HKR.out).cell 5
  have c26:=(HKR.out).cell 6
  have f20:=(HKR.out).frozen 0
  have f21:=(HKR.out).frozen 1
  have f22:=(HKR.out).frozen 2
  have f23:=(HKR.out).frozen 3
  have f24:=(HKR.out).frozen 4
  have f25:=(HKR.out).frozen 5
  have f26:=(HKR.out).frozen 6
  have l20:=(HKR.out).lt
  have hng:=HNG.out
  rw [← zeros64] at hq
  go_wp2_with (refine wpList_load_row rfl 254 (.tmp 1) rfl w.heap.size rfl 254 X (0,0) _ HKB.out Tryz.underlying254 rfl HII.out ?_)
  refine bodyPost_ret (results_row_1 Tryz.results169 _ _ (w.heap.size+1) #[.int .i64 0,.string ⟨#[]⟩,.int .i64 0,.slice none 0 0,.int .i64 0,.int .i64 0,.int .i64 0] rfl (run_loadVar_row _ _ _ _ #[.int .i64 0,.string ⟨#[]⟩,.int .i64 0,.slice none 0 0,.int .i64 0,.int .i64 0,.int .i64 0] (0,0) _ (((((((Blk.set_ HKR.out 0 _).set_ 1 _).set_ 2 _).set_ 3 _).set_ 4 _).set_ 5 _).set_ 6 _) Tryz.underlying95 rfl info_itemK)) rfl ⟨?_,(((((((Below.setCell HB1.out (p:=⟨w.heap.size+1,0,none⟩) (Nat.le_succ _) _).setCell (p:=⟨w.heap.size+1,1,none⟩) (Nat.le_succ _) _).setCell (p:=⟨w.heap.size+1,2,none⟩) (Nat.le_succ _) _).setCell (p:=⟨w.heap.size+1,3,none⟩) (Nat.le_succ _) _).setCell (p:=⟨w.heap.size+1,4,none⟩) (Nat.le_succ _) _).setCell (p:=⟨w.heap.size+1,5,none⟩) (Nat.le_succ _) _).setCell (p:=⟨w.heap.size+1,6,none⟩) (Nat.le_succ _) _)⟩
  refine .inr ⟨item0,.slice none 0 0,HGG.out,rfl,bytes_none _ _⟩
 have hq:=fun W=>HQ0.out W
 rw [show (bs==pad64 [])=false by rw [beq_eq_false_iff_ne];exact hz, ← zeros64] at hq
 have HQ1:=hide hq
 have hng:=HNG.out
 have HG1:=hide (show slotG bs=(if 16<n1 then none else slotD bs (cellG (bs.drop (2+n1)))) by rw [HG.out,if_neg hz,H1.out])
 clear hq hz
 have hq:=fun W=>HQ1.out W
 go_upto_region 3 with (refine wpList_load_row rfl 254 (.tmp 1) rfl w.heap.size rfl 254 X (0,0) _ HKB.out Tryz.underlying254 rfl HII.out ?_)
 clear hq
 by_cases h16:(16:Int)<n1
 ·have HGG:=hide (show slotG bs=none by rw [HG1.out,if_pos (by omega)])
  have c20:=(HKR.out).cell 0
  have c21:=(HKR.out).cell 1
  have c22:=(HKR.out).cell 2
  have c23:=(HKR.out).cell 3
  have c24:=(HKR.out).cell 4
  have c25:=(HKR.out).cell 5
  have c26:=(HKR.out).cell 6
  have f20:=(HKR.out).frozen 0
  have f21:=(HKR.out).frozen 1
  have f22:=(HKR.out).frozen 2
  have f23:=(HKR.out).frozen 3
  have f24:=(HKR.out).frozen 4
  have f25:=(HKR.out).frozen 5
  have f26:=(HKR.out).frozen 6
  have l20:=(HKR.out).lt
  go_wp2
  refine bodyPost_ret (results_row_1 Tryz.results169 _ _ (w.heap.size+1) #[.int .i64 0,.string ⟨#[]⟩,.int .i64 0,.slice none 0 0,.int .i64 0,.int .i64 0,.int .i64 0] rfl (run_loadVar_row _ _ _ _ #[.int .i64 0,.string ⟨#[]⟩,.int .i64 0,.slice none 0 0,.int .i64 0,.int .i64 0,.int .i64 0] (0,0) _ (((((((Blk.set_ HKR.out 0 _).set_ 1 _).set_ 2 _).set_ 3 _).set_ 4 _).set_ 5 _).set_ 6 _) Tryz.underlying95 rfl info_itemK)) rfl ⟨?_,(((((((Below.setCell HB1.out (p:=⟨w.heap.size+1,0,none⟩) (Nat.le_succ _) _).setCell (p:=⟨w.heap.size+1,1,none⟩) (Nat.le_succ _) _).setCell (p:=⟨w.heap.size+1,2,none⟩) (Nat.le_succ _) _).setCell (p:=⟨w.heap.size+1,3,none⟩) (Nat.le_succ _) _).setCell (p:=⟨w.heap.size+1,4,none⟩) (Nat.le_succ _) _).setCell (p:=⟨w.heap.size+1,5,none⟩) (Nat.le_succ _) _).setCell (p:=⟨w.heap.size+1,6,none⟩) (Nat.le_succ _) _)⟩
  exact .inl ⟨HGG.out,rfl⟩
 have HGC:=hide (show slotG bs=slotD bs (cellG (bs.drop (2+n1))) by rw [HG1.out,if_neg (by omega)])
 have h16n:n1≤16:=by omega
 obtain ⟨K,hK⟩:∃K,K=slotK bs:=⟨_,rfl⟩
 have hKb:K=⟨(cutB bs 2 n1).toArray⟩:=by rw [hK];unfold slotK;rw [H1.out]
 have HK:=hide hK
 have HST:=hide (fun (W:World) (k:Blk W w.heap.size 254 X)=>(show (convert 24 9 (.slice (some ⟨w.heap.size,2,none⟩) n1 62)).run Tryz.prog W= .ok (.string K) W from hKb▸run_string_of (HKY.out W w.heap.size n1 k h16n) 24 5 9 Tryz.underlying24 Tryz.underlying5 Tryz.underlying9))
 clear hK hKb
 have i1:(2:Int)≤2+(n1:Int):=by omega
 have i2:2+(n1:Int)≤64:=by omega
 have i0:(0:Int)≤2+(n1:Int):=by omega
 go_upto_region 6 with (fail)
 refine wp_region_inv_tail 9 [fun v _=>v= .pointer (some ⟨w.heap.size,0,none⟩),fun v _=>v= .int .u8 ((n0:Nat):Int),fun v _=>v= .int .i64 ((n0:Nat):Int),fun v _=>v= .int .i64 ((n1:Nat):Int),fun v _=>v= .int .i64 (2+((n1:Nat):Int)),fun v _=>v= .slice (some ⟨w.heap.size,2,none⟩) n1 62,fun v _=>v= .string K,fun v _=>v= .agg #[.int .i64 ((n0:Nat):Int),.string K,.int .i64 0,.slice none 0 0,.int .i64 0,.int .i64 0,.int .i64 0],fun v W=>∃g,v= .pointer (some ⟨g,0,none⟩)∧W1.heap.size≤g∧Blk W g 95 #[.int .i64 0,.string ⟨#[]⟩,.int .i64 0,.slice none 0 0,.int .i64 0,.int .i64 0,.int .i64 0]] (by kernel_rfl) (by kernel_rfl) (by kernel_rfl) (by kernel_rfl) (by kernel_rfl) (by first|simp|decide) (by kernel_rfl) ?st ?steps ?fin
 case st=>
  intro i v W W' hWW h
  match i with
  |0|1|2|3|4|5|6|7=>exact h
  |8=>obtain ⟨g,h1,h2,h3⟩:=h;exact ⟨g,h1,h2,Blk.via hWW h3⟩
  |(i+9)=>exact h
 case steps=>
  simp only [stepsT,List.take_succ_cons,List.take_zero]
  refine ⟨?_,?_,?_,?_,?_,?_,?_,?_,?_,trivial⟩
  ·intro f W hbW hdp
   simp only [fS,Nat.reduceAdd]
   go_wp2
   exact ⟨rfl,_,rfl,rfl,Below.refl _ _⟩
  ·intro f W hbW hdp
   have e0:f 0= .pointer (some ⟨w.heap.size,0,none⟩):=hdp ⟨0,.data⟩ (mfl (by simp) rfl)
   have q:W.cell? ⟨w.heap.size,0,none⟩=some _:=((Blk.via hbW HKB.out).cell 0).trans HX0.out
   simp only [fS,Nat.reduceAdd,e0]
   go_wp2
   exact ⟨rfl,_,rfl,rfl,Below.refl _ _⟩
  ·intro f W hbW hdp
   have e1:f 1= .int .u8 ((n0:Nat):Int):=hdp ⟨1,.data⟩ (mfl (by simp) rfl)
   simp only [fS,Nat.reduceAdd,e1]
   go_wp2
   exact ⟨rfl,_,rfl,rfl,Below.refl _ _⟩
  ·intro f W hbW hdp
   simp only [fS,Nat.reduceAdd]
   go_wp2
   exact ⟨rfl,_,rfl,rfl,Below.refl _ _⟩
  ·intro f W hbW hdp
   have e3:f 3= .int .i64 ((n1:Nat):Int):=hdp ⟨3,.data⟩ (mfl (by simp) rfl)
   simp only [fS,Nat.reduceAdd,e3]
   go_wp2
   exact ⟨rfl,_,rfl,rfl,Below.refl _ _⟩
  ·intro f W hbW hdp
   have e4:f 4= .int .i64 (2+((n1:Nat):Int)):=hdp ⟨4,.data⟩ (mfl (by simp) rfl)
   simp only [fS,Nat.reduceAdd,e4]
   go_wp2
   exact ⟨rfl,_,rfl,rfl,Below.refl _ _⟩
  ·intro f W hbW hdp
   have e5:f 5= .slice (some ⟨w.heap.size,2,none⟩) n1 62:=hdp ⟨5,.data⟩ (mfl (by simp) rfl)
   have hs:=HST.out W (Blk.via hbW HKB.out)
   simp only [fS,Nat.reduceAdd,e5]
   go_wp2
   exact ⟨rfl,_,rfl,rfl,Below.refl _ _⟩
  ·intro f W hbW hdp
   have e2:f 2= .int .i64 ((n0:Nat):Int):=hdp ⟨2,.data⟩ (mfl (by simp) rfl)
   have e6:f 6= .string K:=hdp ⟨6,.data⟩ (mfl (by simp) rfl)
   simp only [fS,Nat.reduceAdd,e2,e6]
   go_wp2
   exact ⟨rfl,_,rfl,rfl,Below.refl _ _⟩
  ·intro f W hbW hdp
   simp only [fS,Nat.reduceAdd]
   go_wp2
   exact ⟨rfl,_,rfl,⟨_,rfl,hbW.size,Blk.new _ _ _⟩,(Below.refl _ _).alloc (Nat.le_refl _) _⟩
 case fin=>
  intro f W hbW hA
  have a8:∃g,(f 8)= .pointer (some ⟨g,0,none⟩)∧W1.heap.size≤g∧Blk W g 95 #[.int .i64 0,.string ⟨#[]⟩,.int .i64 0,.slice none 0 0,.int .i64 0,.int .i64 0,.int .i64 0]:=hA 8 (by omega)
  have e7:f 7= .agg #[.int .i64 ((n0:Nat):Int),.string K,.int .i64 0,.slice none 0 0,.int .i64 0,.int .i64 0,.int .i64 0]:=hA 7 (by omega)
  simp only [List.drop_succ_cons,List.drop_zero,List.take_succ_cons,List.take_zero,fillF,Act.put,List.setIfInBounds_toArray,List.set_cons_succ,List.set_cons_zero,Nat.reduceAdd,e7]
  clear hA e7
  obtain ⟨g,e8,hg,kg⟩:=a8
  have HKG:=hide kg
  have HBW:=hide hbW
  have lg:=kg.lt
  clear hbW kg
  simp only [e8]
  clear e8
  have c20:=(HKG.out).cell 0
  have c21:=(HKG.out).cell 1
  have c22:=(HKG.out).cell 2
  have c23:=(HKG.out).cell 3
  have c24:=(HKG.out).cell 4
  have c25:=(HKG.out).cell 5
  have c26:=(HKG.out).cell 6
  have f20:=(HKG.out).frozen 0
  have f21:=(HKG.out).frozen 1
  have f22:=(HKG.out).frozen 2
  have f23:=(HKG.out).frozen 3
  have f24:=(HKG.out).frozen 4
  have f25:=(HKG.out).frozen 5
  have f26:=(HKG.out).frozen 6
  have l20:=(HKG.out).lt
  go_upto_region 7 with (fail)
  refine nameW (w:=World.setCell _ _ _) (R:=fun V=>Code.wp _ _ _ _ V) (fun W2 hW2=>?_)
  have kg2:Blk W2 g 95 #[.int .i64 ((n0:Nat):Int),.string K,.int .i64 0,.slice none 0 0,.int .i64 0,.int .i64 0,.int .i64 0]:=hW2▸(((((((Blk.set_ HKG.out 0 _).set_ 1 _).set_ 2 _).set_ 3 _).set_ 4 _).set_ 5 _).set_ 6 _)
  have hb2:Below W1.heap.size W1 W2:=hW2▸(((((((Below.setCell HBW.out (p:=⟨g,0,none⟩) hg _).setCell (p:=⟨g,1,none⟩) hg _).setCell (p:=⟨g,2,none⟩) hg _).setCell (p:=⟨g,3,none⟩) hg _).setCell (p:=⟨g,4,none⟩) hg _).setCell (p:=⟨g,5,none⟩) hg _).setCell (p:=⟨g,6,none⟩) hg _)
  have hb1s:=HB1.out.size
  have kB2:=Blk.via hb2 HKB.out
  have HKB2:=hide kB2
  have HKR2:=hide (Blk.via hb2 HKR.out)
  have HKG2:=hide kg2
  have HL2:=hide (HB1.out.trans (hb2.mono hb1s))
  have hz2:=hb2.size
  have HCG:=hide (fun (n c:Nat) (hn:n=62-n1) (hc:c=62-n1)=>(show Calls Tryz.prog 230 #[.slice (some ⟨w.heap.size,2+n1,none⟩) n c] W2 (CellGP W2 (cellG (bs.drop (2+n1)))) by
   subst hn hc
   exact cellGet_any (some ⟨w.heap.size,2+n1,none⟩) (62-n1) (62-n1) (bs.drop (2+n1)) (w.heap.size+1) W2 (by omega) (by omega) (by omega) (Nat.le_refl _) (by rw [List.length_drop,HL.out];omega) (HRD.out W2 w.heap.size n1 kB2 h16n)))
  clear hW2 kg2 hb2 kB2 c20 c21 c22 c23 c24 c25 c26 f20 f21 f22 f23 f24 f25 f26 l20 q1
  go_wp2_with fail
  refine (HCG.out _ _ (by omega) (by omega)).mono ?_
  rintro e W3 ⟨hcase,hb3⟩
  have HB3:=hide hb3
  have HKR3:=hide (Blk.via hb3 HKR2.out)
  have HKG3:=hide (Blk.via hb3 HKG2.out)
  have HKB3:=hide (Blk.via hb3 HKB2.out)
  have HL3:=hide (HL2.out.trans (hb3.mono HL2.out.size))
  have hz3:=hb3.size
  clear hb3
  rcases hcase with ⟨hno,sz,er,rfl,her⟩|⟨d,A,nn,cc,sz,hyes,rfl,hbytes⟩
  ·have HGG:=hide (show slotG bs=none by rw [HGC.out,hno];rfl)
   have her2:(er != 0)=true:=by simpa using her
   clear hno her
   go_upto_region 9 with (fail)
   refine gen1 (R:=fun W=>Code.wp _ _ _ _ W) (fun W4 kC hb4 hz4=>?_)
   have HKR4:=hide (Blk.via hb4 HKR3.out)
   have HL4:=hide (HL3.out.trans (hb4.mono HL3.out.size))
   clear kC hb4
   have c20:=(HKR4.out).cell 0
   have c21:=(HKR4.out).cell 1
   have c22:=(HKR4.out).cell 2
   have c23:=(HKR4.out).cell 3
   have c24:=(HKR4.out).cell 4
   have c25:=(HKR4.out).cell 5
   have c26:=(HKR4.out).cell 6
   have f20:=(HKR4.out).frozen 0
   have f21:=(HKR4.out).frozen 1
   have f22:=(HKR4.out).frozen 2
   have f23:=(HKR4.out).frozen 3
   have f24:=(HKR4.out).frozen 4
   have f25:=(HKR4.out).frozen 5
   have f26:=(HKR4.out).frozen 6
   have l20:=(HKR4.out).lt
   go_wp2_with fail
   refine bodyPost_ret (results_row_1 Tryz.results169 _ _ (w.heap.size+1) #[.int .i64 0,.string ⟨#[]⟩,.int .i64 0,.slice none 0 0,.int .i64 0,.int .i64 0,.int .i64 0] rfl (run_loadVar_row _ _ _ _ #[.int .i64 0,.string ⟨#[]⟩,.int .i64 0,.slice none 0 0,.int .i64 0,.int .i64 0,.int .i64 0] (0,0) _ (((((((Blk.set_ HKR4.out 0 _).set_ 1 _).set_ 2 _).set_ 3 _).set_ 4 _).set_ 5 _).set_ 6 _) Tryz.underlying95 rfl info_itemK)) rfl ⟨?_,(((((((Below.setCell HL4.out (p:=⟨w.heap.size+1,0,none⟩) (Nat.le_succ _) _).setCell (p:=⟨w.heap.size+1,1,none⟩) (Nat.le_succ _) _).setCell (p:=⟨w.heap.size+1,2,none⟩) (Nat.le_succ _) _).setCell (p:=⟨w.heap.size+1,3,none⟩) (Nat.le_succ _) _).setCell (p:=⟨w.heap.size+1,4,none⟩) (Nat.le_succ _) _).setCell (p:=⟨w.heap.size+1,5,none⟩) (Nat.le_succ _) _).setCell (p:=⟨w.heap.size+1,6,none⟩) (Nat.le_succ _) _)⟩
   exact .inl ⟨HGG.out,rfl⟩
  have hnn:nn=d.data.length:=by
   obtain ⟨A',n',c',e,_,_,hn',_⟩:=hbytes
   injection e with _ e2 _
   omega
  have HNN:=hide hnn
  have HYES:=hide (show slotG bs=if slotOk bs d then some ⟨slotS bs,slotK bs,d⟩ else none by rw [HGC.out,hyes];rfl)
  have HBY:=hide hbytes
  obtain ⟨dk,dd,dl,dh,dv⟩:=d
  dsimp only at*
  clear hyes hbytes hnn
  go_upto_region 10 with (fail)
  refine gen1 (R:=fun W=>Code.wp _ _ _ _ W) (fun W4 kC hb4 hz4=>?_)
  have z0:=kC.cell 0
  have z1:=kC.cell 1
  have z2:=kC.cell 2
  have z3:=kC.cell 3
  have z4:=kC.cell 4
  have hy4:=HBY.out.below hb4 (Nat.le_refl _)
  have HKR4:=hide (Blk.via hb4 HKR3.out)
  have HKG4:=hide (Blk.via hb4 HKG3.out)
  have HKB4:=hide (Blk.via hb4 HKB3.out)
  have HL4:=hide (HL3.out.trans (hb4.mono HL3.out.size))
  have HY4:=hide hy4
  clear kC hb4 hy4
  have c20:=(HKG4.out).cell 0
  have c21:=(HKG4.out).cell 1
  have c22:=(HKG4.out).cell 2
  have c23:=(HKG4.out).cell 3
  have c24:=(HKG4.out).cell 4
  have c25:=(HKG4.out).cell 5
  have c26:=(HKG4.out).cell 6
  have f20:=(HKG4.out).frozen 0
  have f21:=(HKG4.out).frozen 1
  have f22:=(HKG4.out).frozen 2
  have f23:=(HKG4.out).frozen 3
  have f24:=(HKG4.out).frozen 4
  have f25:=(HKG4.out).frozen 5
  have f26:=(HKG4.out).frozen 6
  have l20:=(HKG4.out).lt
  go_upto_region 11 with (fail)
  refine nameW (w:=World.setCell _ _ _) (R:=fun V=>Code.wp _ _ _ _ V) (fun W5 hW5=>?_)
  have hgw:w.heap.size+1<g:=by have:=HKR.out.lt;omega
  have kg5:Blk W5 g 95 #[.int .i64 ((n0:Nat):Int),.string K,.int .i64 dk,.slice A nn cc,.int .i64 dl,.int .i64 dh,.int .i64 dv]:=hW5▸(((((Blk.set_ HKG4.out 2 _).set_ 3 _).set_ 4 _).set_ 5 _).set_ 6 _)
  have hl5:Below w.heap.size w W5:=hW5▸(((((Below.setCell HL4.out (p:=⟨g,2,none⟩) (show w.heap.size≤g by omega) _).setCell (p:=⟨g,3,none⟩) (show w.heap.size≤g by omega) _).setCell (p:=⟨g,4,none⟩) (show w.heap.size≤g by omega) _).setCell (p:=⟨g,5,none⟩) (show w.heap.size≤g by omega) _).setCell (p:=⟨g,6,none⟩) (show w.heap.size≤g by omega) _)
  have hy5:BytesAt W5 W3.heap.size (.slice A nn cc) dd:=hW5▸(((((HY4.out.setOther HKG4.out rfl 2 _).setOther (HKG4.out.set_ 2 _) rfl 3 _).setOther ((HKG4.out.set_ 2 _).set_ 3 _) rfl 4 _).setOther (((HKG4.out.set_ 2 _).set_ 3 _).set_ 4 _) rfl 5 _).setOther ((((HKG4.out.set_ 2 _).set_ 3 _).set_ 4 _).set_ 5 _) rfl 6 _)
  have hs5:W5.heap.size=W4.heap.size:=by rw [hW5];simp [World.setCell]
  have hkr5:Blk W5 (w.heap.size+1) 95 #[.int .i64 0,.string ⟨#[]⟩,.int .i64 0,.slice none 0 0,.int .i64 0,.int .i64 0,.int .i64 0]:=hW5▸(((((HKR4.out.far (p:=⟨g,2,none⟩) (show w.heap.size+1≠g by omega) _).far (p:=⟨g,3,none⟩) (show w.heap.size+1≠g by omega) _).far (p:=⟨g,4,none⟩) (show w.heap.size+1≠g by omega) _).far (p:=⟨g,5,none⟩) (show w.heap.size+1≠g by omega) _).far (p:=⟨g,6,none⟩) (show w.heap.size+1≠g by omega) _)
  have hkb5:Blk W5 w.heap.size 254 X:=hW5▸(((((HKB4.out.far (p:=⟨g,2,none⟩) (show w.heap.size≠g by omega) _).far (p:=⟨g,3,none⟩) (show w.heap.size≠g by omega) _).far (p:=⟨g,4,none⟩) (show w.heap.size≠g by omega) _).far (p:=⟨g,5,none⟩) (show w.heap.size≠g by omega) _).far (p:=⟨g,6,none⟩) (show w.heap.size≠g by omega) _)
  have hy5':=hy5.more (show W3.heap.size≤W5.heap.size by omega)
  have hks:K.size≤16:=by
   rw [HK.out]
   unfold slotK cutB
   show ((bs.drop 2).take (slotN bs)).toArray.size≤16
   rw [List.size_toArray,List.length_take,H1.out]
   omega
  have HCK:=hide (fun W (hb:Below W5.heap.size W5 W)=>slotCheck_any ((n0:Nat):Int) K ⟨dk,dd,dl,dh,dv⟩ (.slice A nn cc) W5.heap.size W (by omega) hb.size (hy5'.below hb (Nat.le_refl _)))
  have HPT:=hide (fun W (hb:Below W5.heap.size W5 W)=>slotPut_any ((n0:Nat):Int) K ⟨dk,dd,dl,dh,dv⟩ A nn cc W5.heap.size W (by omega) hb.size HNN.out (hy5'.below hb (Nat.le_refl _)))
  have HKG5:=hide kg5
  have HL5:=hide hl5
  have HY5:=hide hy5'
  have HKR5:=hide hkr5
  have HKB5:=hide hkb5
  clear hW5 kg5 hl5 hy5 hy5' hkr5 hkb5 c20 c21 c22 c23 c24 c25 c26 f20 f21 f22 f23 f24 f25 f26 l20 z0 z1 z2 z3 z4 hks
  have hpl:=pad64_length (itemB_le ((n0:Nat):Int) K ⟨dk,dd,dl,dh,dv⟩)
  unfold itemV at HCK HPT
  dsimp only at HCK HPT
  cases hri:rightI ((n0:Nat):Int) K ⟨dk,dd,dl,dh,dv⟩
  ·have hce:itemE ((n0:Nat):Int) K ⟨dk,dd,dl,dh,dv⟩=1:=by unfold itemE;rw [hri];rfl
   rw [hce] at HCK
   have HGG:=hide (show slotG bs=none by
    rw [HYES.out,if_neg]
    rintro ⟨h,_⟩
    rw [H0.out, ← HK.out,hri] at h
    cases h)
   clear hce hri hpl
   refine wp_region_inv [fun v _=>v= .agg #[.int .i64 ((n0:Nat):Int),.string K,.int .i64 dk,.slice A nn cc,.int .i64 dl,.int .i64 dh,.int .i64 dv],fun v _=>v= .int .i64 1,fun v _=>v= .bool true,fun v _=>v= .bool true,fun v _=>v=undef,fun v _=>v=undef,fun v _=>v=undef,fun v _=>v=undef,fun v _=>v= .bool true] (by kernel_rfl) (by kernel_rfl) (by kernel_rfl) ?st ?steps ?fin
   case st=>
    intro i v W W' hWW h
    match i with
    |0|1|2|3|4|5|6|7|8=>exact h
    |(i+9)=>exact h
   case steps=>
    simp only [stepsI]
    refine ⟨?_,?_,?_,?_,?_,?_,?_,?_,?_,trivial⟩
    ·intro f W hbW hdp
     have kg:=Blk.via hbW HKG5.out
     have y0:=kg.cell 0
     have y1:=kg.cell 1
     have y2:=kg.cell 2
     have y3:=kg.cell 3
     have y4:=kg.cell 4
     have y5:=kg.cell 5
     have y6:=kg.cell 6
     clear kg
     simp only [fS,Nat.reduceAdd]
     go_wp2
     exact ⟨rfl,_,rfl,rfl,Below.refl _ _⟩
    ·intro f W hbW hdp
     have e0:f 0= .agg #[.int .i64 ((n0:Nat):Int),.string K,.int .i64 dk,.slice A nn cc,.int .i64 dl,.int .i64 dh,.int .i64 dv]:=hdp ⟨0,.data⟩ (mfl (by simp) rfl)
     simp only [fS,Nat.reduceAdd,e0]
     go_wp2_with (go_at_call 231;refine (HCK.out _ hbW).mono ?_;rintro e w' ⟨rfl,hb'⟩)
     exact ⟨rfl,_,rfl,rfl,hb'⟩
    ·intro f W hbW hdp
     have e1:f 1= .int .i64 1:=hdp ⟨1,.data⟩ (mfl (by simp) rfl)
     simp only [fS,Nat.reduceAdd,e1]
     go_wp2
     exact ⟨rfl,_,rfl,rfl,Below.refl _ _⟩
    ·intro f W hbW hdp
     have e2:f 2= .bool true:=hdp ⟨2,.data⟩ (mfl (by simp) rfl)
     simp only [fS,Nat.reduceAdd,e2]
     go_wp2
     exact ⟨rfl,_,rfl,rfl,Below.refl _ _⟩
    ·intro f W hbW hdp
     have e3:f 3= .bool true:=hdp ⟨3,.guard⟩ (mfl (by simp) rfl)
     simp only [fS,Nat.reduceAdd,e3]
     go_wp2
     exact ⟨rfl,_,rfl,rfl,Below.refl _ _⟩
    ·intro f W hbW hdp
     have e3:f 3= .bool true:=hdp ⟨3,.guard⟩ (mfl (by simp) rfl)
     simp only [fS,Nat.reduceAdd,e3]
     go_wp2
     exact ⟨rfl,_,rfl,rfl,Below.refl _ _⟩
    ·intro f W hbW hdp
     have e3:f 3= .bool true:=hdp ⟨3,.guard⟩ (mfl (by simp) rfl)
     simp only [fS,Nat.reduceAdd,e3]
     go_wp2
     exact ⟨rfl,_,rfl,rfl,Below.refl _ _⟩
    ·intro f W hbW hdp
     have e3:f 3= .bool true:=hdp ⟨3,.guard⟩ (mfl (by simp) rfl)
     simp only [fS,Nat.reduceAdd,e3]
     go_wp2
     exact ⟨rfl,_,rfl,rfl,Below.refl _ _⟩
    ·intro f W hbW hdp
     have e3:f 3= .bool true:=hdp ⟨3,.data⟩ (mfl (by simp) rfl)
     simp only [fS,Nat.reduceAdd,e3]
     go_wp2
     exact ⟨rfl,_,rfl,rfl,Below.refl _ _⟩
   case fin=>
    intro f W hbW hA
    have e0:f 0= .agg #[.int .i64 ((n0:Nat):Int),.string K,.int .i64 dk,.slice A nn cc,.int .i64 dl,.int .i64 dh,.int .i64 dv]:=hA 0 (by simp)
    have e1:f 1= .int .i64 1:=hA 1 (by simp)
    have e2:f 2= .bool true:=hA 2 (by simp)
    have e3:f 3= .bool true:=hA 3 (by simp)
    have e8:f 8= .bool true:=hA 8 (by simp)
    show wpList Tryz.prog #[] (Exit.then _ _) [] _ _
    simp only [fS,Nat.reduceAdd,e0,e1,e2,e3,e8]
    clear hA e0 e1 e2 e3 e8
    have HBW7:=hide hbW
    have HKR6:=hide (Blk.via hbW HKR5.out)
    have HL6:=hide (HL5.out.trans (hbW.mono HL5.out.size))
    clear hbW
    have c20:=(HKR6.out).cell 0
    have c21:=(HKR6.out).cell 1
    have c22:=(HKR6.out).cell 2
    have c23:=(HKR6.out).cell 3
    have c24:=(HKR6.out).cell 4
    have c25:=(HKR6.out).cell 5
    have c26:=(HKR6.out).cell 6
    have f20:=(HKR6.out).frozen 0
    have f21:=(HKR6.out).frozen 1
    have f22:=(HKR6.out).frozen 2
    have f23:=(HKR6.out).frozen 3
    have f24:=(HKR6.out).frozen 4
    have f25:=(HKR6.out).frozen 5
    have f26:=(HKR6.out).frozen 6
    have l20:=(HKR6.out).lt
    go_wp2_with fail
    refine bodyPost_ret (results_row_1 Tryz.results169 _ _ (w.heap.size+1) #[.int .i64 0,.string ⟨#[]⟩,.int .i64 0,.slice none 0 0,.int .i64 0,.int .i64 0,.int .i64 0] rfl (run_loadVar_row _ _ _ _ #[.int .i64 0,.string ⟨#[]⟩,.int .i64 0,.slice none 0 0,.int .i64 0,.int .i64 0,.int .i64 0] (0,0) _ (((((((Blk.set_ HKR6.out 0 _).set_ 1 _).set_ 2 _).set_ 3 _).set_ 4 _).set_ 5 _).set_ 6 _) Tryz.underlying95 rfl info_itemK)) rfl ⟨?_,(((((((Below.setCell HL6.out (p:=⟨w.heap.size+1,0,none⟩) (Nat.le_succ _) _).setCell (p:=⟨w.heap.size+1,1,none⟩) (Nat.le_succ _) _).setCell (p:=⟨w.heap.size+1,2,none⟩) (Nat.le_succ _) _).setCell (p:=⟨w.heap.size+1,3,none⟩) (Nat.le_succ _) _).setCell (p:=⟨w.heap.size+1,4,none⟩) (Nat.le_succ _) _).setCell (p:=⟨w.heap.size+1,5,none⟩) (Nat.le_succ _) _).setCell (p:=⟨w.heap.size+1,6,none⟩) (Nat.le_succ _) _)⟩
    exact .inl ⟨HGG.out,rfl⟩
  ·have hce:itemE ((n0:Nat):Int) K ⟨dk,dd,dl,dh,dv⟩=0:=by unfold itemE;rw [hri];rfl
   rw [hce] at HCK
   have hqx:=HQX.out _ hpl
   have HPI:=hide (show (Tryz.prog.info? 254).map (·.size)=some X.size from HII.out)
   have HGG:=hide (show slotG bs=if (pad64 (itemB ((n0:Nat):Int) K ⟨dk,dd,dl,dh,dv⟩)==bs)=true then some ⟨((n0:Nat):Int),K,⟨dk,dd,dl,dh,dv⟩⟩ else none by
    rw [HYES.out]
    have h1:slotOk bs ⟨dk,dd,dl,dh,dv⟩↔(pad64 (itemB ((n0:Nat):Int) K ⟨dk,dd,dl,dh,dv⟩)==bs)=true:=by
     unfold slotOk
     rw [H0.out, ← HK.out,hri,beq_iff_eq]
     simp
    by_cases h2:slotOk bs ⟨dk,dd,dl,dh,dv⟩
    ·rw [if_pos h2,if_pos (h1.1 h2),H0.out, ← HK.out]
    ·rw [if_neg h2,if_neg (fun h=>h2 (h1.2 h))])
   generalize (pad64 (itemB ((n0:Nat):Int) K ⟨dk,dd,dl,dh,dv⟩)==bs)=beq at*
   generalize ((pad64 (itemB ((n0:Nat):Int) K ⟨dk,dd,dl,dh,dv⟩)).map byteV).toArray=Y at*
   have HQY:=hide hqx
   clear hce hri hpl hqx
   refine wp_region_inv [fun v _=>v= .agg #[.int .i64 ((n0:Nat):Int),.string K,.int .i64 dk,.slice A nn cc,.int .i64 dl,.int .i64 dh,.int .i64 dv],fun v _=>v= .int .i64 0,fun v _=>v= .bool false,fun v _=>v= .bool false,fun v _=>v= .agg #[.int .i64 ((n0:Nat):Int),.string K,.int .i64 dk,.slice A nn cc,.int .i64 dl,.int .i64 dh,.int .i64 dv],fun v _=>v= .agg Y,fun v _=>v= .agg X,fun v _=>v= .bool (!beq),fun v _=>v= .bool (!beq)] (by kernel_rfl) (by kernel_rfl) (by kernel_rfl) ?st ?steps ?fin
   case st=>
    intro i v W W' hWW h
    match i with
    |0|1|2|3|4|5|6|7|8=>exact h
    |(i+9)=>exact h
   case steps=>
    simp only [stepsI]
    refine ⟨?_,?_,?_,?_,?_,?_,?_,?_,?_,trivial⟩
    ·intro f W hbW hdp
     have kg:=Blk.via hbW HKG5.out
     have y0:=kg.cell 0
     have y1:=kg.cell 1
     have y2:=kg.cell 2
     have y3:=kg.cell 3
     have y4:=kg.cell 4
     have y5:=kg.cell 5
     have y6:=kg.cell 6
     clear kg
     simp only [fS,Nat.reduceAdd]
     go_wp2
     exact ⟨rfl,_,rfl,rfl,Below.refl _ _⟩
    ·intro f W hbW hdp
     have e0:f 0= .agg #[.int .i64 ((n0:Nat):Int),.string K,.int .i64 dk,.slice A nn cc,.int .i64 dl,.int .i64 dh,.int .i64 dv]:=hdp ⟨0,.data⟩ (mfl (by simp) rfl)
     simp only [fS,Nat.reduceAdd,e0]
     go_wp2_with (go_at_call 231;refine (HCK.out _ hbW).mono ?_;rintro e w' ⟨rfl,hb'⟩)
     exact ⟨rfl,_,rfl,rfl,hb'⟩
    ·intro f W hbW hdp
     have e1:f 1= .int .i64 0:=hdp ⟨1,.data⟩ (mfl (by simp) rfl)
     simp only [fS,Nat.reduceAdd,e1]
     go_wp2
     exact ⟨rfl,_,rfl,rfl,Below.refl _ _⟩
    ·intro f W hbW hdp
     have e2:f 2= .bool false:=hdp ⟨2,.data⟩ (mfl (by simp) rfl)
     simp only [fS,Nat.reduceAdd,e2]
     go_wp2
     exact ⟨rfl,_,rfl,rfl,Below.refl _ _⟩
    ·intro f W hbW hdp
     have e3:f 3= .bool false:=hdp ⟨3,.guard⟩ (mfl (by simp) rfl)
     have kg:=Blk.via hbW HKG5.out
     have y0:=kg.cell 0
     have y1:=kg.cell 1
     have y2:=kg.cell 2
     have y3:=kg.cell 3
     have y4:=kg.cell 4
     have y5:=kg.cell 5
     have y6:=kg.cell 6
     clear kg
     simp only [fS,Nat.reduceAdd,e3]
     go_wp2
     exact ⟨rfl,_,rfl,rfl,Below.refl _ _⟩
    ·intro f W hbW hdp
     have e3:f 3= .bool false:=hdp ⟨3,.guard⟩ (mfl (by simp) rfl)
     have e4:f 4= .agg #[.int .i64 ((n0:Nat):Int),.string K,.int .i64 dk,.slice A nn cc,.int .i64 dl,.int .i64 dh,.int .i64 dv]:=hdp ⟨4,.data⟩ (mfl (by simp) rfl)
     simp only [fS,Nat.reduceAdd,e3,e4]
     go_wp2_with (go_at_call 232;refine (HPT.out _ hbW).mono ?_;rintro e w' ⟨rfl,hb'⟩)
     exact ⟨rfl,_,rfl,rfl,hb'⟩
    ·intro f W hbW hdp
     have e3:f 3= .bool false:=hdp ⟨3,.guard⟩ (mfl (by simp) rfl)
     have kB:=hide (Blk.via hbW HKB5.out)
     simp only [fS,Nat.reduceAdd,e3]
     refine wpList_load_rowG (by simp [Region.wanted,yielded]) 254 (.tmp 1) rfl w.heap.size rfl 254 X (0,0) _ kB.out Tryz.underlying254 rfl HPI.out ?_
     exact ⟨rfl,_,rfl,rfl,Below.refl _ _⟩
    ·intro f W hbW hdp
     have e3:f 3= .bool false:=hdp ⟨3,.guard⟩ (mfl (by simp) rfl)
     have e5:f 5= .agg Y:=hdp ⟨5,.data⟩ (mfl (by simp) rfl)
     have e6:f 6= .agg X:=hdp ⟨6,.data⟩ (mfl (by simp) rfl)
     have hq:=HQY.out W
     have hng:=HNG.out
     simp only [fS,Nat.reduceAdd,e3,e5,e6]
     go_wp2
     exact ⟨rfl,_,rfl,rfl,Below.refl _ _⟩
    ·intro f W hbW hdp
     have e3:f 3= .bool false:=hdp ⟨3,.data⟩ (mfl (by simp) rfl)
     have e7:f 7= .bool (!beq):=hdp ⟨7,.data⟩ (mfl (by simp) rfl)
     simp only [fS,Nat.reduceAdd,e3,e7]
     go_wp2
     exact ⟨rfl,_,rfl,rfl,Below.refl _ _⟩
   case fin=>
    intro f W hbW hA
    have e0:f 0= .agg #[.int .i64 ((n0:Nat):Int),.string K,.int .i64 dk,.slice A nn cc,.int .i64 dl,.int .i64 dh,.int .i64 dv]:=hA 0 (by simp)
    have e1:f 1= .int .i64 0:=hA 1 (by simp)
    have e2:f 2= .bool false:=hA 2 (by simp)
    have e3:f 3= .bool false:=hA 3 (by simp)
    have e8:f 8= .bool (!beq):=hA 8 (by simp)
    show wpList Tryz.prog #[] (Exit.then _ _) [] _ _
    simp only [fS,Nat.reduceAdd,e0,e1,e2,e3,e8]
    clear hA e0 e1 e2 e3 e8
    have HBW7:=hide hbW
    have HKR6:=hide (Blk.via hbW HKR5.out)
    have HKG6:=hide (Blk.via hbW HKG5.out)
    have HL6:=hide (HL5.out.trans (hbW.mono HL5.out.size))
    have HY6:=hide (HY5.out.below hbW (Nat.le_refl _))
    clear hbW
    cases beq
    ·have HGN:=hide (show slotG bs=none from HGG.out)
     have c20:=(HKR6.out).cell 0
     have c21:=(HKR6.out).cell 1
     have c22:=(HKR6.out).cell 2
     have c23:=(HKR6.out).cell 3
     have c24:=(HKR6.out).cell 4
     have c25:=(HKR6.out).cell 5
     have c26:=(HKR6.out).cell 6
     have f20:=(HKR6.out).frozen 0
     have f21:=(HKR6.out).frozen 1
     have f22:=(HKR6.out).frozen 2
     have f23:=(HKR6.out).frozen 3
     have f24:=(HKR6.out).frozen 4
     have f25:=(HKR6.out).frozen 5
     have f26:=(HKR6.out).frozen 6
     have l20:=(HKR6.out).lt
     go_wp2_with fail
     refine bodyPost_ret (results_row_1 Tryz.results169 _ _ (w.heap.size+1) #[.int .i64 0,.string ⟨#[]⟩,.int .i64 0,.slice none 0 0,.int .i64 0,.int .i64 0,.int .i64 0] rfl (run_loadVar_row _ _ _ _ #[.int .i64 0,.string ⟨#[]⟩,.int .i64 0,.slice none 0 0,.int .i64 0,.int .i64 0,.int .i64 0] (0,0) _ (((((((Blk.set_ HKR6.out 0 _).set_ 1 _).set_ 2 _).set_ 3 _).set_ 4 _).set_ 5 _).set_ 6 _) Tryz.underlying95 rfl info_itemK)) rfl ⟨?_,(((((((Below.setCell HL6.out (p:=⟨w.heap.size+1,0,none⟩) (Nat.le_succ _) _).setCell (p:=⟨w.heap.size+1,1,none⟩) (Nat.le_succ _) _).setCell (p:=⟨w.heap.size+1,2,none⟩) (Nat.le_succ _) _).setCell (p:=⟨w.heap.size+1,3,none⟩) (Nat.le_succ _) _).setCell (p:=⟨w.heap.size+1,4,none⟩) (Nat.le_succ _) _).setCell (p:=⟨w.heap.size+1,5,none⟩) (Nat.le_succ _) _).setCell (p:=⟨w.heap.size+1,6,none⟩) (Nat.le_succ _) _)⟩
     exact .inl ⟨HGN.out,rfl⟩
    ·have HGN:=hide (show slotG bs=some ⟨((n0:Nat):Int),K,⟨dk,dd,dl,dh,dv⟩⟩ from HGG.out)
     have y0:=HKG6.out.cell 0
     have y1:=HKG6.out.cell 1
     have y2:=HKG6.out.cell 2
     have y3:=HKG6.out.cell 3
     have y4:=HKG6.out.cell 4
     have y5:=HKG6.out.cell 5
     have y6:=HKG6.out.cell 6
     have hne:=HKG6.out.lt
     have c20:=(HKR6.out).cell 0
     have c21:=(HKR6.out).cell 1
     have c22:=(HKR6.out).cell 2
     have c23:=(HKR6.out).cell 3
     have c24:=(HKR6.out).cell 4
     have c25:=(HKR6.out).cell 5
     have c26:=(HKR6.out).cell 6
     have f20:=(HKR6.out).frozen 0
     have f21:=(HKR6.out).frozen 1
     have f22:=(HKR6.out).frozen 2
     have f23:=(HKR6.out).frozen 3
     have f24:=(HKR6.out).frozen 4
     have f25:=(HKR6.out).frozen 5
     have f26:=(HKR6.out).frozen 6
     have l20:=(HKR6.out).lt
     go_wp2_with fail
     refine bodyPost_ret (results_row_1 Tryz.results169 _ _ (w.heap.size+1) #[.int .i64 ((n0:Nat):Int),.string K,.int .i64 dk,.slice A nn cc,.int .i64 dl,.int .i64 dh,.int .i64 dv] rfl (run_loadVar_row _ _ _ _ #[.int .i64 ((n0:Nat):Int),.string K,.int .i64 dk,.slice A nn cc,.int .i64 dl,.int .i64 dh,.int .i64 dv] (0,0) _ (((((((Blk.set_ HKR6.out 0 _).set_ 1 _).set_ 2 _).set_ 3 _).set_ 4 _).set_ 5 _).set_ 6 _) Tryz.underlying95 rfl info_itemK)) rfl ⟨?_,(((((((Below.setCell HL6.out (p:=⟨w.heap.size+1,0,none⟩) (Nat.le_succ _) _).setCell (p:=⟨w.heap.size+1,1,none⟩) (Nat.le_succ _) _).setCell (p:=⟨w.heap.size+1,2,none⟩) (Nat.le_succ _) _).setCell (p:=⟨w.heap.size+1,3,none⟩) (Nat.le_succ _) _).setCell (p:=⟨w.heap.size+1,4,none⟩) (Nat.le_succ _) _).setCell (p:=⟨w.heap.size+1,5,none⟩) (Nat.le_succ _) _).setCell (p:=⟨w.heap.size+1,6,none⟩) (Nat.le_succ _) _)⟩
     refine .inr ⟨⟨((n0:Nat):Int),K,⟨dk,dd,dl,dh,dv⟩⟩,.slice A nn cc,HGN.out,rfl,?_⟩
     have h7:=(((((((HY6.out.setOther HKR6.out rfl 0 (.int .i64 ((n0:Nat):Int))).setOther (HKR6.out.set_ 0 (.int .i64 ((n0:Nat):Int))) rfl 1 (.string K)).setOther ((HKR6.out.set_ 0 (.int .i64 ((n0:Nat):Int))).set_ 1 (.string K)) rfl 2 (.int .i64 dk)).setOther (((HKR6.out.set_ 0 (.int .i64 ((n0:Nat):Int))).set_ 1 (.string K)).set_ 2 (.int .i64 dk)) rfl 3 (.slice A nn cc)).setOther ((((HKR6.out.set_ 0 (.int .i64 ((n0:Nat):Int))).set_ 1 (.string K)).set_ 2 (.int .i64 dk)).set_ 3 (.slice A nn cc)) rfl 4 (.int .i64 dl)).setOther (((((HKR6.out.set_ 0 (.int .i64 ((n0:Nat):Int))).set_ 1 (.string K)).set_ 2 (.int .i64 dk)).set_ 3 (.slice A nn cc)).set_ 4 (.int .i64 dl)) rfl 5 (.int .i64 dh)).setOther ((((((HKR6.out.set_ 0 (.int .i64 ((n0:Nat):Int))).set_ 1 (.string K)).set_ 2 (.int .i64 dk)).set_ 3 (.slice A nn cc)).set_ 4 (.int .i64 dl)).set_ 5 (.int .i64 dh)) rfl 6 (.int .i64 dv))
     refine h7.more ?_
     have:=HBW7.out.size
     simp [World.setCell]
     omega
end Go.Proofs.YtnkjkgmohmcobaaGreatDoor
namespace Go.Proofs.YtnkjkgmohmcobaaGreatDoor
open Go.RowKit
def itemC (x:ItemD) (cv:Value):Array Value:=#[.int .i64 x.st,.string x.key,.int .i64 x.cell.kind,cv,.int .i64 x.cell.lo,.int .i64 x.cell.hi,.int .i64 x.cell.val]
theorem slotGP_one {w w':World} {o:Option ItemD} {e:Ending} (h:SlotGP w o e w'):∃(x:ItemD) (A:Option Addr) (n c:Nat) (er:Int),e= .returned (.tuple #[.agg (itemC x (.slice A n c)),.int .i64 er])∧BytesAt w' w'.heap.size (.slice A n c) x.cell.data∧((o=none∧x=item0∧A=none∧n=0∧c=0∧er=12)∨(o=some x∧er=0)):=by
 rcases h.1 with ⟨h1,rfl⟩|⟨x,cv,h1,rfl,h2⟩
 ·exact ⟨item0,none,0,0,12,rfl,bytes_none _ _,.inl ⟨h1,rfl,rfl,rfl,rfl,rfl⟩⟩
 ·have h3:=h2
  obtain ⟨A,n,c,rfl,_⟩:=h2
  exact ⟨x,A,n,c,0,rfl,h3,.inr ⟨h1,rfl⟩⟩
theorem slotGP_of {w w':World} {o:Option ItemD} {x:ItemD} {A:Option Addr} {n c:Nat} {er:Int} (h:(o=none∧x=item0∧A=none∧n=0∧c=0∧er=12)∨(o=some x∧er=0)) (hy:BytesAt w' w'.heap.size (.slice A n c) x.cell.data) (hb:Below w.heap.size w w'):SlotGP w o (.returned (.tuple #[.agg (itemC x (.slice A n c)),.int .i64 er])) w':=by
 refine ⟨?_,hb⟩
 rcases h with ⟨h1,rfl,rfl,rfl,rfl,rfl⟩|⟨h1,rfl⟩
 ·exact .inl ⟨h1,rfl⟩
 ·exact .inr ⟨x,_,h1,rfl,hy⟩
theorem BytesAt.set7 {w:World} {B:Nat} {v:Value} {bs:List UInt8} (h:BytesAt w B v bs) {g:Nat} {t:TypeId} {cs:Array Value} (k:Blk w g t cs) (hc:cs.toList.all (fun v=> !isU8 v)=true) (hz:cs.size=7) (x:ItemD) (A:Option Addr) (n c:Nat):
  BytesAt (((((((w.setCell ⟨g,0,none⟩ (.int .i64 x.st)).setCell ⟨g,1,none⟩ (.string x.key)).setCell ⟨g,2,none⟩ (.int .i64 x.cell.kind)).setCell ⟨g,3,none⟩ (.slice A n c)).setCell ⟨g,4,none⟩ (.int .i64 x.cell.lo)).setCell ⟨g,5,none⟩ (.int .i64 x.cell.hi)).setCell ⟨g,6,none⟩ (.int .i64 x.cell.val)) B v bs:=by
 obtain ⟨l⟩:=cs
 match l,hz with
 |[a0,a1,a2,a3,a4,a5,a6],_=>
  simp only [List.all_cons,List.all_nil,Bool.and_eq_true,Bool.and_true] at hc
  obtain ⟨h0,h1,h2,h3,h4,h5,h6⟩:=hc
  have e0:∀(i:Nat) (cs':Array Value),cs'.toList.all (fun v=> !isU8 v)=true→∀u,isU8 u=false→(cs'.setIfInBounds i u).toList.all (fun v=> !isU8 v)=true:=by
   intro i cs' hh u hu
   rw [List.all_eq_true] at hh ⊢
   intro y hy
   rcases Array.mem_or_eq_of_mem_setIfInBounds (Array.mem_toList_iff.1 hy) with hy|rfl
   ·exact hh y (Array.mem_toList_iff.2 hy)
   ·rw [hu];rfl
  have hc0:(#[a0,a1,a2,a3,a4,a5,a6]:Array Value).toList.all (fun v=> !isU8 v)=true:=by simp [h0,h1,h2,h3,h4,h5,h6]
  have k1:=k.set_ 0 (.int .i64 x.st)
  have c1:=e0 0 _ hc0 (.int .i64 x.st) rfl
  have k2:=k1.set_ 1 (.string x.key)
  have c2:=e0 1 _ c1 (.string x.key) rfl
  have k3:=k2.set_ 2 (.int .i64 x.cell.kind)
  have c3:=e0 2 _ c2 (.int .i64 x.cell.kind) rfl
  have k4:=k3.set_ 3 (.slice A n c)
  have c4:=e0 3 _ c3 (.slice A n c) rfl
  have k5:=k4.set_ 4 (.int .i64 x.cell.lo)
  have c5:=e0 4 _ c4 (.int .i64 x.cell.lo) rfl
  have k6:=k5.set_ 5 (.int .i64 x.cell.hi)
  have c6:=e0 5 _ c5 (.int .i64 x.cell.hi) rfl
  exact ((((((h.setOther k hc0 0 _).setOther k1 c1 1 _).setOther k2 c2 2 _).setOther k3 c3 3 _).setOther k4 c4 4 _).setOther k5 c5 5 _).setOther k6 c6 6 _
theorem spl_whole (bs:List UInt8) (h:bs.length=64):(spl ((pad64 []).map byteV) 0 (bs.map byteV)).toArray=(bs.map byteV).toArray:=by
 unfold spl
 rw [List.take_zero,List.nil_append,List.length_map,Nat.zero_add,List.drop_of_length_le (by rw [List.length_map,pad64_length (by simp),h];exact Nat.le_refl _),List.append_nil]
theorem pSlot_any (bs:List UInt8) (hl:bs.length=512) (i:Nat) (hi:i<7) (w:World):Calls Tryz.prog 114 #[pgV bs,.int .i64 (i:Nat)] w (SlotGP w (slotG (slotB bs i))):=by
 have hsb:=slotB_length hl hi
 have HG:=hide (fun W=>slotGet_any (slotB bs i) hsb W)
 have HII:=hide (row64_info (slotB bs i) (by omega))
 have hpp:pad64 (slotB bs i)=slotB bs i:=by unfold pad64;rw [hsb];simp
 rw [hpp] at HII
 have HSB:=hide hsb
 have HRD:=hide (fun (W:World) (g:Nat) (k:Blk W g 116 (bs.map byteV).toArray)=>(show ∀j v,((slotB bs i).map byteV)[j]?=some v→W.cell? ((⟨g,32+i*64,none⟩:Addr).add j)=some v by
  intro j v hv
  rw [add_plain,k.cell]
  unfold slotB cutB at hv
  rw [List.map_take,List.map_drop,List.getElem?_take] at hv
  split at hv
  ·rw [List.getElem?_drop] at hv
   rw [List.getElem?_toArray,show 32+i*64+j=32+64*i+j by omega]
   exact hv
  ·cases hv))
 unfold pgV
 generalize hX:(bs.map byteV).toArray=X at*
 clear hX hl hsb hpp
 have i1:(0:Int)≤32+(i:Int)*64:=by omega
 have i2:32+(i:Int)*64≤512:=by omega
 have i3:(32+(i:Int)*64).toNat=32+i*64:=by omega
 have i4:¬(512=32+i*64):=by omega
 have i5:(0:Int)≤i:=by omega
 have i6:(i:Int)<7:=by omega
 go_enter Tryz.func114,Tryz.ntmps114
 go_upto_region 3 with (fail)
 refine gen2 (R:=fun W=>Code.wp _ _ _ _ W) (fun W1 kB kR hb1 hz1=>?_)
 have HKB:=hide kB
 have HKR:=hide kR
 have HB1:=hide hb1
 clear kB kR hb1
 go_upto_region 4 with (fail)
 refine gen1 (R:=fun W=>Code.wp _ _ _ _ W) (fun W2 kS hb2 hz2=>?_)
 rw [zeros64] at kS
 have HKS:=hide kS
 have HKB2:=hide (Blk.via hb2 HKB.out)
 have HKR2:=hide (Blk.via hb2 HKR.out)
 have HL2:=hide (HB1.out.trans (hb2.mono HB1.out.size))
 clear kS hb2
 refine wp_region_inv_tail 5 [fun v _=>v= .slice (some ⟨W1.heap.size,0,none⟩) 64 64,fun v _=>v= .int .i64 ((i:Nat):Int),fun v _=>v= .int .i64 ((i:Int)*64),fun v _=>v= .int .i64 (32+(i:Int)*64),fun v _=>v= .slice (some ⟨w.heap.size,32+i*64,none⟩) (512-(32+i*64)) (512-(32+i*64))] (by kernel_rfl) (by kernel_rfl) (by kernel_rfl) (by kernel_rfl) (by kernel_rfl) (by first|simp|decide) (by kernel_rfl) ?st ?steps ?fin
 case st=>
  intro i v W W' hWW h
  match i with
  |0|1|2|3|4=>exact h
  |(i+5)=>exact h
 case steps=>
  simp only [stepsT,List.take_succ_cons,List.take_zero]
  refine ⟨?_,?_,?_,?_,?_,trivial⟩
  ·intro f W hbW hdp
   simp only [fS,Nat.reduceAdd]
   go_wp2
   exact ⟨rfl,_,rfl,rfl,Below.refl _ _⟩
  ·intro f W hbW hdp
   simp only [fS,Nat.reduceAdd]
   go_wp2
   exact ⟨rfl,_,rfl,rfl,Below.refl _ _⟩
  ·intro f W hbW hdp
   have e1:f 1= .int .i64 ((i:Nat):Int):=hdp ⟨1,.data⟩ (mfl (by simp) rfl)
   simp only [fS,Nat.reduceAdd,e1]
   go_wp2
   exact ⟨rfl,_,rfl,rfl,Below.refl _ _⟩
  ·intro f W hbW hdp
   have e2:f 2= .int .i64 ((i:Int)*64):=hdp ⟨2,.data⟩ (mfl (by simp) rfl)
   simp only [fS,Nat.reduceAdd,e2]
   go_wp2
   exact ⟨rfl,_,rfl,rfl,Below.refl _ _⟩
  ·intro f W hbW hdp
   have e3:f 3= .int .i64 (32+(i:Int)*64):=hdp ⟨3,.data⟩ (mfl (by simp) rfl)
   simp only [fS,Nat.reduceAdd,e3]
   go_wp2
   exact ⟨rfl,_,rfl,rfl,Below.refl _ _⟩
 case fin=>
  intro f W hbW hA
  have e0:f 0= .slice (some ⟨W1.heap.size,0,none⟩) 64 64:=hA 0 (by omega)
  have e4:f 4= .slice (some ⟨w.heap.size,32+i*64,none⟩) (512-(32+i*64)) (512-(32+i*64)):=hA 4 (by omega)
  simp only [List.drop_succ_cons,List.drop_zero,List.take_succ_cons,List.take_zero,fillF,Act.put,List.setIfInBounds_toArray,List.set_cons_succ,List.set_cons_zero,Nat.reduceAdd,e0,e4]
  clear hA e0 e4
  have kS:=Blk.via hbW HKS.out
  have kB:=Blk.via hbW HKB2.out
  refine wpList_copy_blk rfl _ _ _ _ rfl 5 1 Tryz.underlying24 size_u8 W1.heap.size 0 254 ((pad64 []).map byteV) ((slotB bs i).map byteV) 64 64 _ _ _ rfl rfl kS (by rw [List.length_map,HSB.out,Nat.mul_one];exact (Nat.min_eq_right (by omega)).symm) (HRD.out W _ kB) (by rw [List.length_map,List.length_map,HSB.out,pad64_length (by simp)];omega) (bytes_one _) ?_
  intro v' W5 hk5 ht5
  rw [spl_whole _ HSB.out] at hk5
  have hb5:Below w.heap.size w W5:=ht5.below (HL2.out.trans (hbW.mono HL2.out.size)) (by omega)
  have HKS5:=hide hk5
  have HKR5:=hide (ht5.blk (Blk.via hbW HKR2.out) (by omega))
  have HL5:=hide hb5
  have HG5:=hide (HG.out W5)
  clear kS kB hk5 ht5 hb5 hbW
  go_wp2_with (refine wpList_load_row rfl 254 (.tmp 6) rfl W1.heap.size rfl 254 _ (0,0) _ HKS5.out Tryz.underlying254 rfl HII.out ?_)
  refine HG5.out.mono ?_
  rintro e W6 hP
  obtain ⟨x,A,n,c,er,rfl,hby,hor⟩:=slotGP_one hP
  have HKR6:=hide (Blk.via hP.2 HKR5.out)
  have HL6:=hide (HL5.out.trans (hP.2.mono HL5.out.size))
  have HBY:=hide hby
  have HOR:=hide hor
  obtain ⟨xs,xk,d1,d2,d3,d4,d5⟩:=x
  unfold itemC at*
  dsimp only at*
  clear hP hby hor
  have c20:=(HKR6.out).cell 0
  have c21:=(HKR6.out).cell 1
  have c22:=(HKR6.out).cell 2
  have c23:=(HKR6.out).cell 3
  have c24:=(HKR6.out).cell 4
  have c25:=(HKR6.out).cell 5
  have c26:=(HKR6.out).cell 6
  have f20:=(HKR6.out).frozen 0
  have f21:=(HKR6.out).frozen 1
  have f22:=(HKR6.out).frozen 2
  have f23:=(HKR6.out).frozen 3
  have f24:=(HKR6.out).frozen 4
  have f25:=(HKR6.out).frozen 5
  have f26:=(HKR6.out).frozen 6
  have l20:=(HKR6.out).lt
  go_wp2_with fail
  refine bodyPost_ret (results_row_1 Tryz.results114 _ _ (w.heap.size+1) #[.int .i64 xs,.string xk,.int .i64 d1,.slice A n c,.int .i64 d3,.int .i64 d4,.int .i64 d5] rfl (run_loadVar_row _ _ _ _ #[.int .i64 xs,.string xk,.int .i64 d1,.slice A n c,.int .i64 d3,.int .i64 d4,.int .i64 d5] (0,0) _ (((((((Blk.set_ HKR6.out 0 _).set_ 1 _).set_ 2 _).set_ 3 _).set_ 4 _).set_ 5 _).set_ 6 _) Tryz.underlying95 rfl info_itemK)) rfl ?_
  exact slotGP_of (x:=⟨xs,xk,⟨d1,d2,d3,d4,d5⟩⟩) HOR.out ((BytesAt.set7 HBY.out HKR6.out rfl rfl ⟨xs,xk,⟨d1,d2,d3,d4,d5⟩⟩ A n c).more (by simp [World.setCell])) (((((((Below.setCell HL6.out (p:=⟨(w.heap.size+1),0,none⟩) (Nat.le_succ _) _).setCell (p:=⟨(w.heap.size+1),1,none⟩) (Nat.le_succ _) _).setCell (p:=⟨(w.heap.size+1),2,none⟩) (Nat.le_succ _) _).setCell (p:=⟨(w.heap.size+1),3,none⟩) (Nat.le_succ _) _).setCell (p:=⟨(w.heap.size+1),4,none⟩) (Nat.le_succ _) _).setCell (p:=⟨(w.heap.size+1),5,none⟩) (Nat.le_succ _) _).setCell (p:=⟨(w.heap.size+1),6,none⟩) (Nat.le_succ _) _)
end Go.Proofs.YtnkjkgmohmcobaaGreatDoor
namespace Go.Proofs.YtnkjkgmohmcobaaGreatDoor
open Go.RowKit
def rightE (bs:List UInt8) (no:Int):Int:=if rightP bs no=true then 0 else 14
theorem zeros_iff (l:List UInt8):l.all (·==0)=(l==List.replicate l.length 0):=by
 rw [Bool.eq_iff_iff,List.all_eq_true,beq_iff_eq,List.eq_replicate_iff]
 simp
theorem page_cut {W:World} {g:Nat} {t:TypeId} {bs:List UInt8} (k:Blk W g t (bs.map byteV).toArray) (hl:bs.length=512) (at_ n:Nat) (h:at_+n≤512) (h0:0<n):Reads W (g+1) 1 (some ⟨g,at_,none⟩) n ((cutB bs at_ n).map byteV):=by
 have h1:=((pg_reads k hl).cut (k:=at_) (cap:=512) (by omega) (Nat.le_refl _)).take (k:=n) (by omega)
 rw [if_neg (by omega),Option.map_some,add_plain,Nat.mul_one,Nat.mul_one,Nat.zero_add] at h1
 unfold cutB
 rw [List.map_take,List.map_drop]
 exact h1
theorem pCheck_any (bs:List UInt8) (hl:bs.length=512) (no:Int) (w:World):Calls Tryz.prog 60 #[pgV bs,.int .i64 no] w fun e w'=>e= .returned (.int .i64 (rightE bs no))∧Below w.heap.size w w':=by
 have HNUM:=hide (fun W=>pnum_any bs hl 0 4 W (by omega) (by omega) (by omega))
 have HSUM:=hide (fun W=>psum_any bs hl W)
 have HNO:=hide (fun W=>pNo_any bs hl W)
 have HSL:=hide (fun (i:Nat) (hi:i<7) W=>pSlot_any bs hl i hi W)
 have HN1:=hide (fun W (k:Blk W w.heap.size 116 (bs.map byteV).toArray)=>none_any (some ⟨w.heap.size,24,none⟩) 8 488 (cutB bs 24 8) _ W (by omega) (by unfold cutB;rw [List.length_take,List.length_drop];omega) (page_cut k hl 24 8 (by omega) (by omega)))
 have HN2:=hide (fun W (k:Blk W w.heap.size 116 (bs.map byteV).toArray)=>none_any (some ⟨w.heap.size,480,none⟩) 32 32 (cutB bs 480 32) _ W (by omega) (by unfold cutB;rw [List.length_take,List.length_drop];omega) (page_cut k hl 480 32 (by omega) (by omega)))
 have HP:=hide (show rightP bs no=((numI (cutB bs 0 4)==((moreD 0 (bs.drop 4):Nat):Int))&&((numI (cutB bs 12 2)==no)&&((cutB bs 24 8).all (·==0)&&((cutB bs 480 32).all (·==0)&&slotsOk bs 7)))) by
  unfold rightP
  have h1:(cutB bs 24 8).length=8:=by unfold cutB;rw [List.length_take,List.length_drop];omega
  have h2:cutB bs 480 32=bs.drop 480:=by unfold cutB;rw [List.take_of_length_le];rw [List.length_drop];omega
  have h3:(bs.drop 480).length=32:=by rw [List.length_drop];omega
  rw [zeros_iff (cutB bs 24 8),h1,h2,zeros_iff (bs.drop 480),h3])
 have HII:=hide (show (Tryz.prog.info? 116).map (·.size)=some ((bs.map byteV).toArray).size by rw [pg_size bs hl];exact info_pg)
 have HLT:=hide (show moreD 0 (bs.drop 4)<4294967296 by unfold moreD;omega)
 unfold pgV at*
 generalize hX:(bs.map byteV).toArray=X at*
 generalize ((moreD 0 (bs.drop 4):Nat):Int)=v2 at*
 generalize numI (cutB bs 0 4)=v1 at*
 generalize numI (cutB bs 12 2)=v3 at*
 generalize (cutB bs 24 8).all (·==0)=z1 at*
 generalize (cutB bs 480 32).all (·==0)=z2 at*
 clear hX hl
 go_enter Tryz.func60,Tryz.ntmps60
 go_upto_region 1 with (fail)
 refine gen1 (R:=fun W=>Code.wp _ _ _ _ W) (fun W1 kB hb1 hz1=>?_)
 have HKB:=hide kB
 have HB1:=hide hb1
 clear kB hb1
 cases ha:(v1==v2)
 ·have hb:(v1 != v2)=true:=by simp [bne,ha]
  rw [ha] at HP
  clear ha
  refine wp_region_inv [fun v _=>v= .agg X,fun v _=>v= .int .i64 v1,fun v _=>v= .agg X,fun v _=>v= .int .i64 v2,fun v _=>v= .bool true,fun v _=>v= .bool true,fun v _=>v=undef,fun v _=>v=undef,fun v _=>v=undef,fun v _=>v=undef,fun v _=>v= .bool true] (by kernel_rfl) (by kernel_rfl) (by kernel_rfl) ?st ?steps ?fin
  case st=>
   intro i v W W' hWW h
   match i with
   |0|1|2|3|4|5|6|7|8|9|10=>exact h
   |(i+11)=>exact h
  case steps=>
   simp only [stepsI]
   refine ⟨?_,?_,?_,?_,?_,?_,?_,?_,?_,?_,?_,trivial⟩
   ·intro f W hbW hdp
    have kB:=hide (Blk.via hbW HKB.out)
    simp only [fS,Nat.reduceAdd]
    go_wp2_with (refine wpList_load_row rfl 116 (.tmp 2) rfl w.heap.size rfl 116 X (0,0) _ kB.out Tryz.underlying116 rfl HII.out ?_)
    exact ⟨rfl,_,rfl,rfl,Below.refl _ _⟩
   ·intro f W hbW hdp
    have e0:f 0= .agg X:=hdp ⟨0,.data⟩ (mfl (by simp) rfl)
    simp only [fS,Nat.reduceAdd,e0]
    go_wp2_with (go_at_call 112;refine (HNUM.out _).mono ?_;rintro e w' ⟨rfl,hb'⟩)
    exact ⟨rfl,_,rfl,rfl,hb'⟩
   ·intro f W hbW hdp
    have kB:=hide (Blk.via hbW HKB.out)
    simp only [fS,Nat.reduceAdd]
    go_wp2_with (refine wpList_load_row rfl 116 (.tmp 2) rfl w.heap.size rfl 116 X (0,0) _ kB.out Tryz.underlying116 rfl HII.out ?_)
    exact ⟨rfl,_,rfl,rfl,Below.refl _ _⟩
   ·intro f W hbW hdp
    have e2:f 2= .agg X:=hdp ⟨2,.data⟩ (mfl (by simp) rfl)
    simp only [fS,Nat.reduceAdd,e2]
    go_wp2_with (go_at_call 104;refine (HSUM.out _).mono ?_;rintro e w' ⟨rfl,hb'⟩)
    exact ⟨rfl,_,rfl,rfl,hb'⟩
   ·intro f W hbW hdp
    have e1:f 1= .int .i64 v1:=hdp ⟨1,.data⟩ (mfl (by simp) rfl)
    have e3:f 3= .int .i64 v2:=hdp ⟨3,.data⟩ (mfl (by simp) rfl)
    simp only [fS,Nat.reduceAdd,e1,e3]
    go_wp2
    exact ⟨rfl,_,rfl,rfl,Below.refl _ _⟩
   ·intro f W hbW hdp
    have e4:f 4= .bool true:=hdp ⟨4,.data⟩ (mfl (by simp) rfl)
    simp only [fS,Nat.reduceAdd,e4]
    go_wp2
    exact ⟨rfl,_,rfl,rfl,Below.refl _ _⟩
   ·intro f W hbW hdp
    have e5:f 5= .bool true:=hdp ⟨5,.guard⟩ (mfl (by simp) rfl)
    simp only [fS,Nat.reduceAdd,e5]
    go_wp2
    exact ⟨rfl,_,rfl,rfl,Below.refl _ _⟩
   ·intro f W hbW hdp
    have e5:f 5= .bool true:=hdp ⟨5,.guard⟩ (mfl (by simp) rfl)
    simp only [fS,Nat.reduceAdd,e5]
    go_wp2
    exact ⟨rfl,_,rfl,rfl,Below.refl _ _⟩
   ·intro f W hbW hdp
    have e5:f 5= .bool true:=hdp ⟨5,.guard⟩ (mfl (by simp) rfl)
    simp only [fS,Nat.reduceAdd,e5]
    go_wp2
    exact ⟨rfl,_,rfl,rfl,Below.refl _ _⟩
   ·intro f W hbW hdp
    have e5:f 5= .bool true:=hdp ⟨5,.guard⟩ (mfl (by simp) rfl)
    simp only [fS,Nat.reduceAdd,e5]
    go_wp2
    exact ⟨rfl,_,rfl,rfl,Below.refl _ _⟩
   ·intro f W hbW hdp
    have e5:f 5= .bool true:=hdp ⟨5,.data⟩ (mfl (by simp) rfl)
    simp only [fS,Nat.reduceAdd,e5]
    go_wp2
    exact ⟨rfl,_,rfl,rfl,Below.refl _ _⟩
  case fin=>
   intro f W hbW hA
   have e10:f 10= .bool true:=hA 10 (by simp)
   show wpList Tryz.prog #[] (Exit.then _ _) [] _ _
   simp only [fS,Nat.reduceAdd,e10]
   clear hA e10
   have HL2:=hide (HB1.out.trans (hbW.mono HB1.out.size))
   clear hbW
   have HF:=hide (show rightE bs no=14 by unfold rightE;rw [HP.out,if_neg];simp)
   go_wp2
   go_ret
   exact ⟨by rw [HF.out];rfl,HL2.out⟩
 have hb:(v1 != v2)=false:=by simp [bne,ha]
 rw [ha] at HP
 clear ha
 cases hc:(v3==no)
 ·have hd:(v3 != no)=true:=by simp [bne,hc]
  rw [hc] at HP
  clear hc
  refine wp_region_inv [fun v _=>v= .agg X,fun v _=>v= .int .i64 v1,fun v _=>v= .agg X,fun v _=>v= .int .i64 v2,fun v _=>v= .bool false,fun v _=>v= .bool false,fun v _=>v= .agg X,fun v _=>v= .int .i64 v3,fun v _=>v= .int .i64 no,fun v _=>v= .bool true,fun v _=>v= .bool true] (by kernel_rfl) (by kernel_rfl) (by kernel_rfl) ?st ?steps ?fin
  case st=>
   intro i v W W' hWW h
   match i with
   |0|1|2|3|4|5|6|7|8|9|10=>exact h
   |(i+11)=>exact h
  case steps=>
   simp only [stepsI]
   refine ⟨?_,?_,?_,?_,?_,?_,?_,?_,?_,?_,?_,trivial⟩
   ·intro f W hbW hdp
    have kB:=hide (Blk.via hbW HKB.out)
    simp only [fS,Nat.reduceAdd]
    go_wp2_with (refine wpList_load_row rfl 116 (.tmp 2) rfl w.heap.size rfl 116 X (0,0) _ kB.out Tryz.underlying116 rfl HII.out ?_)
    exact ⟨rfl,_,rfl,rfl,Below.refl _ _⟩
   ·intro f W hbW hdp
    have e0:f 0= .agg X:=hdp ⟨0,.data⟩ (mfl (by simp) rfl)
    simp only [fS,Nat.reduceAdd,e0]
    go_wp2_with (go_at_call 112;refine (HNUM.out _).mono ?_;rintro e w' ⟨rfl,hb'⟩)
    exact ⟨rfl,_,rfl,rfl,hb'⟩
   ·intro f W hbW hdp
    have kB:=hide (Blk.via hbW HKB.out)
    simp only [fS,Nat.reduceAdd]
    go_wp2_with (refine wpList_load_row rfl 116 (.tmp 2) rfl w.heap.size rfl 116 X (0,0) _ kB.out Tryz.underlying116 rfl HII.out ?_)
    exact ⟨rfl,_,rfl,rfl,Below.refl _ _⟩
   ·intro f W hbW hdp
    have e2:f 2= .agg X:=hdp ⟨2,.data⟩ (mfl (by simp) rfl)
    simp only [fS,Nat.reduceAdd,e2]
    go_wp2_with (go_at_call 104;refine (HSUM.out _).mono ?_;rintro e w' ⟨rfl,hb'⟩)
    exact ⟨rfl,_,rfl,rfl,hb'⟩
   ·intro f W hbW hdp
    have e1:f 1= .int .i64 v1:=hdp ⟨1,.data⟩ (mfl (by simp) rfl)
    have e3:f 3= .int .i64 v2:=hdp ⟨3,.data⟩ (mfl (by simp) rfl)
    simp only [fS,Nat.reduceAdd,e1,e3]
    go_wp2
    exact ⟨rfl,_,rfl,rfl,Below.refl _ _⟩
   ·intro f W hbW hdp
    have e4:f 4= .bool false:=hdp ⟨4,.data⟩ (mfl (by simp) rfl)
    simp only [fS,Nat.reduceAdd,e4]
    go_wp2
    exact ⟨rfl,_,rfl,rfl,Below.refl _ _⟩
   ·intro f W hbW hdp
    have e5:f 5= .bool false:=hdp ⟨5,.guard⟩ (mfl (by simp) rfl)
    have kB:=hide (Blk.via hbW HKB.out)
    simp only [fS,Nat.reduceAdd,e5]
    refine wpList_load_rowG (by simp [Region.wanted,yielded]) 116 (.tmp 2) rfl w.heap.size rfl 116 X (0,0) _ kB.out Tryz.underlying116 rfl HII.out ?_
    exact ⟨rfl,_,rfl,rfl,Below.refl _ _⟩
   ·intro f W hbW hdp
    have e5:f 5= .bool false:=hdp ⟨5,.guard⟩ (mfl (by simp) rfl)
    have e6:f 6= .agg X:=hdp ⟨6,.data⟩ (mfl (by simp) rfl)
    simp only [fS,Nat.reduceAdd,e5,e6]
    go_wp2_with (go_at_call 110;refine (HNO.out _).mono ?_;rintro e w' ⟨rfl,hb'⟩)
    exact ⟨rfl,_,rfl,rfl,hb'⟩
   ·intro f W hbW hdp
    have e5:f 5= .bool false:=hdp ⟨5,.guard⟩ (mfl (by simp) rfl)
    simp only [fS,Nat.reduceAdd,e5]
    go_wp2
    exact ⟨rfl,_,rfl,rfl,Below.refl _ _⟩
   ·intro f W hbW hdp
    have e5:f 5= .bool false:=hdp ⟨5,.guard⟩ (mfl (by simp) rfl)
    have e7:f 7= .int .i64 v3:=hdp ⟨7,.data⟩ (mfl (by simp) rfl)
    have e8:f 8= .int .i64 no:=hdp ⟨8,.data⟩ (mfl (by simp) rfl)
    simp only [fS,Nat.reduceAdd,e5,e7,e8]
    go_wp2
    exact ⟨rfl,_,rfl,rfl,Below.refl _ _⟩
   ·intro f W hbW hdp
    have e5:f 5= .bool false:=hdp ⟨5,.data⟩ (mfl (by simp) rfl)
    have e9:f 9= .bool true:=hdp ⟨9,.data⟩ (mfl (by simp) rfl)
    simp only [fS,Nat.reduceAdd,e5,e9]
    go_wp2
    exact ⟨rfl,_,rfl,rfl,Below.refl _ _⟩
  case fin=>
   intro f W hbW hA
   have e10:f 10= .bool true:=hA 10 (by simp)
   show wpList Tryz.prog #[] (Exit.then _ _) [] _ _
   simp only [fS,Nat.reduceAdd,e10]
   clear hA e10
   have HL2:=hide (HB1.out.trans (hbW.mono HB1.out.size))
   clear hbW
   have HF:=hide (show rightE bs no=14 by unfold rightE;rw [HP.out,if_neg];simp)
   go_wp2
   go_ret
   exact ⟨by rw [HF.out];rfl,HL2.out⟩
 ·have hd:(v3 != no)=false:=by simp [bne,hc]
  rw [hc] at HP
  clear hc
  refine wp_region_inv [fun v _=>v= .agg X,fun v _=>v= .int .i64 v1,fun v _=>v= .agg X,fun v _=>v= .int .i64 v2,fun v _=>v= .bool false,fun v _=>v= .bool false,fun v _=>v= .agg X,fun v _=>v= .int .i64 v3,fun v _=>v= .int .i64 no,fun v _=>v= .bool false,fun v _=>v= .bool false] (by kernel_rfl) (by kernel_rfl) (by kernel_rfl) ?st ?steps ?fin
  case st=>
   intro i v W W' hWW h
   match i with
   |0|1|2|3|4|5|6|7|8|9|10=>exact h
   |(i+11)=>exact h
  case steps=>
   simp only [stepsI]
   refine ⟨?_,?_,?_,?_,?_,?_,?_,?_,?_,?_,?_,trivial⟩
   ·intro f W hbW hdp
    have kB:=hide (Blk.via hbW HKB.out)
    simp only [fS,Nat.reduceAdd]
    go_wp2_with (refine wpList_load_row rfl 116 (.tmp 2) rfl w.heap.size rfl 116 X (0,0) _ kB.out Tryz.underlying116 rfl HII.out ?_)
    exact ⟨rfl,_,rfl,rfl,Below.refl _ _⟩
   ·intro f W hbW hdp
    have e0:f 0= .agg X:=hdp ⟨0,.data⟩ (mfl (by simp) rfl)
    simp only [fS,Nat.reduceAdd,e0]
    go_wp2_with (go_at_call 112;refine (HNUM.out _).mono ?_;rintro e w' ⟨rfl,hb'⟩)
    exact ⟨rfl,_,rfl,rfl,hb'⟩
   ·intro f W hbW hdp
    have kB:=hide (Blk.via hbW HKB.out)
    simp only [fS,Nat.reduceAdd]
    go_wp2_with (refine wpList_load_row rfl 116 (.tmp 2) rfl w.heap.size rfl 116 X (0,0) _ kB.out Tryz.underlying116 rfl HII.out ?_)
    exact ⟨rfl,_,rfl,rfl,Below.refl _ _⟩
   ·intro f W hbW hdp
    have e2:f 2= .agg X:=hdp ⟨2,.data⟩ (mfl (by simp) rfl)
    simp only [fS,Nat.reduceAdd,e2]
    go_wp2_with (go_at_call 104;refine (HSUM.out _).mono ?_;rintro e w' ⟨rfl,hb'⟩)
    exact ⟨rfl,_,rfl,rfl,hb'⟩
   ·intro f W hbW hdp
    have e1:f 1= .int .i64 v1:=hdp ⟨1,.data⟩ (mfl (by simp) rfl)
    have e3:f 3= .int .i64 v2:=hdp ⟨3,.data⟩ (mfl (by simp) rfl)
    simp only [fS,Nat.reduceAdd,e1,e3]
    go_wp2
    exact ⟨rfl,_,rfl,rfl,Below.refl _ _⟩
   ·intro f W hbW hdp
    have e4:f 4= .bool false:=hdp ⟨4,.data⟩ (mfl (by simp) rfl)
    simp only [fS,Nat.reduceAdd,e4]
    go_wp2
    exact ⟨rfl,_,rfl,rfl,Below.refl _ _⟩
   ·intro f W hbW hdp
    have e5:f 5= .bool false:=hdp ⟨5,.guard⟩ (mfl (by simp) rfl)
    have kB:=hide (Blk.via hbW HKB.out)
    simp only [fS,Nat.reduceAdd,e5]
    refine wpList_load_rowG (by simp [Region.wanted,yielded]) 116 (.tmp 2) rfl w.heap.size rfl 116 X (0,0) _ kB.out Tryz.underlying116 rfl HII.out ?_
    exact ⟨rfl,_,rfl,rfl,Below.refl _ _⟩
   ·intro f W hbW hdp
    have e5:f 5= .bool false:=hdp ⟨5,.guard⟩ (mfl (by simp) rfl)
    have e6:f 6= .agg X:=hdp ⟨6,.data⟩ (mfl (by simp) rfl)
    simp only [fS,Nat.reduceAdd,e5,e6]
    go_wp2_with (go_at_call 110;refine (HNO.out _).mono ?_;rintro e w' ⟨rfl,hb'⟩)
    exact ⟨rfl,_,rfl,rfl,hb'⟩
   ·intro f W hbW hdp
    have e5:f 5= .bool false:=hdp ⟨5,.guard⟩ (mfl (by simp) rfl)
    simp only [fS,Nat.reduceAdd,e5]
    go_wp2
    exact ⟨rfl,_,rfl,rfl,Below.refl _ _⟩
   ·intro f W hbW hdp
    have e5:f 5= .bool false:=hdp ⟨5,.guard⟩ (mfl (by simp) rfl)
    have e7:f 7= .int .i64 v3:=hdp ⟨7,.data⟩ (mfl (by simp) rfl)
    have e8:f 8= .int .i64 no:=hdp ⟨8,.data⟩ (mfl (by simp) rfl)
    simp only [fS,Nat.reduceAdd,e5,e7,e8]
    go_wp2
    exact ⟨rfl,_,rfl,rfl,Below.refl _ _⟩
   ·intro f W hbW hdp
    have e5:f 5= .bool false:=hdp ⟨5,.data⟩ (mfl (by simp) rfl)
    have e9:f 9= .bool false:=hdp ⟨9,.data⟩ (mfl (by simp) rfl)
    simp only [fS,Nat.reduceAdd,e5,e9]
    go_wp2
    exact ⟨rfl,_,rfl,rfl,Below.refl _ _⟩
  case fin=>
   intro f W hbW hA
   have e10:f 10= .bool false:=hA 10 (by simp)
   show wpList Tryz.prog #[] (Exit.then _ _) [] _ _
   simp only [fS,Nat.reduceAdd,e10]
   clear hA e10
   have HL2:=hide (HB1.out.trans (hbW.mono HB1.out.size))
   have HKB2:=hide (Blk.via hbW HKB.out)
   have HKB3:=hide (show Blk W w.heap.size 116 X from Blk.via hbW HKB.out)
   clear hbW hb hd
   have hn1:=hide (HN1.out W HKB2.out)
   have hn2:=hide (HN2.out W HKB2.out)
   cases z1
   ·have HF:=hide (show rightE bs no=14 by unfold rightE;rw [HP.out,if_neg];simp)
    go_wp2_with (go_at_call 113;refine hn1.out.mono ?_;rintro e w' ⟨rfl,hw'⟩;obtain rfl:=hw'.symm)
    go_ret
    exact ⟨by rw [HF.out];rfl,HL2.out⟩
   cases z2
   ·have HF:=hide (show rightE bs no=14 by unfold rightE;rw [HP.out,if_neg];simp)
    go_wp2_with (first
     |(go_at_call 113;with_reducible refine hn1.out.mono ?_;rintro e w' ⟨rfl,hw'⟩;obtain rfl:=hw'.symm)
     |(go_at_call 113;with_reducible refine hn2.out.mono ?_;rintro e w' ⟨rfl,hw'⟩;obtain rfl:=hw'.symm))
    go_ret
    exact ⟨by rw [HF.out];rfl,HL2.out⟩
   have HP7:=hide (show rightP bs no=slotsOk bs 7 by rw [HP.out];simp)
   go_upto_region 5 with (first
    |(go_at_call 113;with_reducible refine hn1.out.mono ?_;rintro e w' ⟨rfl,hw'⟩;obtain rfl:=hw'.symm)
    |(go_at_call 113;with_reducible refine hn2.out.mono ?_;rintro e w' ⟨rfl,hw'⟩;obtain rfl:=hw'.symm))
   go_wp2
   go_loopw [27] (fun iv wr=>∃k:Nat,k≤7∧iv= .int .i64 k∧Hid (slotsOk bs k=true)∧Hid (Below w.heap.size w wr)∧Hid (Blk wr w.heap.size 116 X)) (fun iv _=>7-(intOf iv).toNat)
   case atStart=>exact ⟨0,by omega,rfl,hide rfl,HL2,HKB2⟩
   case round=>
    obtain ⟨k,hk,rfl,hok,hL,hB⟩:=hrel
    by_cases hlt:(k:Int)<7
    ·have HSI:=hide (HSL.out k (by omega) wr)
     go_wp2_with (refine wpList_load_row rfl 116 (.tmp 2) rfl w.heap.size rfl 116 X (0,0) _ hB.out Tryz.underlying116 rfl HII.out ?_)
     refine HSI.out.mono ?_
     rintro e W6 hP
     obtain ⟨x,A,n,c,er,rfl,hby,hor⟩:=slotGP_one hP
     have HB6:=hide (Blk.via hP.2 hB.out)
     have hl6:Below w.heap.size w W6:=hL.out.trans (hP.2.mono hL.out.size)
     have HL6:=hide hl6
     obtain ⟨xs,xk,d1,d2,d3,d4,d5⟩:=x
     unfold itemC at*
     dsimp only at*
     have hz6:=hl6.size
     clear hP hby hl6
     rcases hor with ⟨hno,_,_,_,_,rfl⟩|⟨hyes,rfl⟩
     ·have HF:=hide (show rightE bs no=14 by unfold rightE;rw [HP7.out,slotsOk_no (by omega) hno];rfl)
      clear hno
      go_wp2
      go_ret
      exact ⟨by rw [HF.out];rfl,HL6.out.alloc HL6.out.size _⟩
     ·have HOK:=hide (show slotsOk bs (k+1)=true by unfold slotsOk;rw [hok.out,hyes];rfl)
      clear hyes
      go_wp2
      go_roundw
      case rel=>exact ⟨k+1,by omega,by go_num,HOK,hide (HL6.out.alloc HL6.out.size _),hide (Blk.alloc HB6.out _)⟩
      case measure=>simp [intOf];omega
    ·obtain rfl:k=7:=by omega
     have HF:=hide (show rightE bs no=0 by unfold rightE;rw [HP7.out,hok.out];rfl)
     go_wp2
     go_ret
     exact ⟨by rw [HF.out];rfl,hL.out⟩
end Go.Proofs.YtnkjkgmohmcobaaGreatDoor
namespace Go.Proofs.YtnkjkgmohmcobaaGreatDoor
open Go.RowKit
theorem numB_from (l:List UInt8):∀u:Nat,l.foldl (fun u b=>256*u+b.toNat) u=u*256^l.length+numB l:=by
 induction l with
 |nil=>intro u;simp [numB]
 |cons b l ih=>
  intro u
  have h1:=ih (256*u+b.toNat)
  have h2:=ih (256*0+b.toNat)
  have h3:numB (b::l)=l.foldl (fun u b=>256*u+b.toNat) (256*0+b.toNat):=rfl
  rw [List.foldl_cons,h1,h3,h2,List.length_cons,Nat.pow_succ]
  rw [Nat.mul_zero,Nat.zero_add,Nat.add_mul,Nat.mul_comm 256 u,Nat.mul_assoc u 256,Nat.mul_comm 256 (256^l.length),Nat.add_assoc]
theorem numB_cons (b:UInt8) (l:List UInt8):numB (b::l)=b.toNat*256^l.length+numB l:=by
 have h:=numB_from l (256*0+b.toNat)
 have h3:numB (b::l)=l.foldl (fun u b=>256*u+b.toNat) (256*0+b.toNat):=rfl
 rw [h3,h,Nat.mul_zero,Nat.zero_add]
theorem beB_of (n:Int) (U:Nat) (hU:IntKind.u64.wrap n=(U:Nat)):∀l:List UInt8,U%256^l.length=numB l→beB l.length n=l:=by
 intro l
 induction l with
 |nil=>intro _;rfl
 |cons b t ih=>
  intro h
  have hlt:=numB_lt t
  have hbl:=b.toNat_lt
  rw [numB_cons,List.length_cons,Nat.pow_succ] at h
  have hpos:0<256^t.length:=Nat.pos_of_ne_zero (by simp)
  have h1:U%256^t.length=numB t:=by
   have this:U%(256^t.length*256)%256^t.length=(b.toNat*256^t.length+numB t)%256^t.length:=by rw [h]
   rw [Nat.mod_mul_right_mod,Nat.add_comm,Nat.add_mul_mod_self_right,Nat.mod_eq_of_lt hlt] at this
   exact this
  have h2:U/256^t.length%256=b.toNat:=by
   have this:U%(256^t.length*256)/256^t.length=(b.toNat*256^t.length+numB t)/256^t.length:=by rw [h]
   rw [Nat.mod_mul_right_div_self,Nat.add_comm,Nat.add_mul_div_right _ _ hpos,Nat.div_eq_of_lt hlt,Nat.zero_add] at this
   exact this
  have h3:byteS n (8*t.length)=b:=by
   have h4:=byteS_val n t.length U hU
   rw [h2] at h4
   unfold byteV at h4
   injection h4 with _ h4
   exact UInt8.toNat_inj.1 (by omega)
  rw [List.length_cons,beB_succ,ih h1,h3]
theorem beB_numI (l:List UInt8) (h:l.length=8):beB 8 (numI l)=l:=by
 have hlt:=numB_lt64 l (by omega)
 have h1:IntKind.u64.wrap (numI l)=((numB l:Nat):Int):=by
  rw [IntKind.wrap_u64]
  unfold numI wrap64
  omega
 have h2:=beB_of (numI l) (numB l) h1 l (by rw [h];exact Nat.mod_eq_of_lt hlt)
 rw [h] at h2
 exact h2
theorem cutB_cutB (bs:List UInt8) (a n b m:Nat) (h:b+m≤n):cutB ((cutB bs a n).drop b) 0 m=cutB bs (a+b) m:=by
 unfold cutB
 rw [List.drop_zero,List.drop_take,List.take_take,List.drop_drop,Nat.min_eq_left (by omega)]
end Go.Proofs.YtnkjkgmohmcobaaGreatDoor
namespace Go.Proofs.YtnkjkgmohmcobaaGreatDoor
open Go.RowKit
def ReadP (w:World) (bs:List UInt8) (e:Ending) (w':World):Prop:=
 ∃r g,e= .returned (.pointer (some ⟨r,0,none⟩))∧Blk w' r 253 #[.slice (some ⟨g,0,none⟩) 8 8,.bool false]∧Reads w' r 1 (some ⟨g,0,none⟩) 8 (bs.map byteV)∧w.heap.size≤r∧Below w.heap.size w w'
theorem beRead_any (A:Option Addr) (c:Nat) (bs:List UInt8) (B:Nat) (w:World) (hB:B≤w.heap.size) (hn:bs.length=8) (hr:Reads w B 1 A 8 (bs.map byteV)):
  Calls Tryz.prog 107 #[.slice A 8 c] w (ReadP w bs):=by
 obtain ⟨b,o,rfl,_,_⟩:=hr.plain (by omega) (by omega)
 have HW:=hide (show Calls Tryz.prog 163 #[.slice (some ⟨b,o,none⟩) 8 c,.int .i64 0] w (OwnC w w.heap.size bs 8 8) from with_any ⟨b,o,none⟩ 8 c 0 bs B w hB (by omega) (by omega) hn.symm hr)
 clear hr hn
 go_enter Tryz.func107,Tryz.ntmps107
 go_wp2_with (go_at_call 163;refine HW.out.mono ?_;rintro e w1 ⟨g,rfl,ho,hb⟩)
 go_ret
 have hs:=hb.size
 have hrd:=ho.reads.2
 exact ⟨_,g,rfl,Blk.new _ _ _,hrd.alloc (Nat.le_refl _) _,hs,hb.alloc hs _⟩
theorem beOK_any (r:Nat) (v:Value) (w:World) (k:Blk w r 253 #[v,.bool false]):Calls Tryz.prog 167 #[.pointer (some ⟨r,0,none⟩)] w fun e w'=>e= .returned (.bool true)∧w'=w:=by
 have c1:=k.cell 1
 have l1:=k.lt
 clear k
 go_enter Tryz.func167,Tryz.ntmps167
 go_wp2
 go_ret
 exact ⟨rfl,rfl⟩
def NumP (w:World) (r g o n width:Nat) (x:Int) (e:Ending) (w':World):Prop:=
 e= .returned (.int .i64 x)∧∃A',Blk w' r 253 #[.slice A' (n-width) (n-width),.bool false]∧(width<n→A'=some ⟨g,o+width,none⟩)∧Turn (fun q=>q=r) w w'
theorem beNum_any (r g o n width:Nat) (bs:List UInt8) (w:World) (k:Blk w r 253 #[.slice (some ⟨g,o,none⟩) n n,.bool false]) (hn:bs.length=n) (h8:n≤8) (h1:1≤width) (hw:width≤n) (hr:Reads w r 1 (some ⟨g,o,none⟩) n (bs.map byteV)):
  Calls Tryz.prog 109 #[.pointer (some ⟨r,0,none⟩),.int .i64 (width:Nat)] w (NumP w r g o n width (numI (cutB bs 0 width))):=by
 have HOK:=hide (beOK_any r _ w k)
 have HNU:=hide (show Calls Tryz.prog 98 #[.slice (some ⟨g,o,none⟩) n n,.int .i64 0,.int .i64 (width:Nat)] w (fun e w'=>e= .returned (.tuple #[.int .i64 (numI (cutB bs 0 width)),.bool true])∧w'=w) from num_any (some ⟨g,o,none⟩) n n bs 0 width r w (by omega) (Nat.le_refl _) hn.symm hr h1 (by omega) (by omega))
 have HK:=hide k
 have c0:=k.cell 0
 have f0:=k.frozen 0
 have l0:=k.lt
 generalize numI (cutB bs 0 width)=v at*
 have a1:(0:Int)≤width:=by omega
 have a2:(width:Int)≤n:=by omega
 clear hr hn k
 by_cases he:n=width
 ·subst he
  go_enter Tryz.func109,Tryz.ntmps109
  go_wp2_with (first
   |(go_at_call 167;refine HOK.out.mono ?_;rintro e w' ⟨rfl,hw'⟩;obtain rfl:=hw'.symm)
   |(go_at_call 98;refine HNU.out.mono ?_;rintro e w' ⟨rfl,hw'⟩;obtain rfl:=hw'.symm))
  go_ret
  exact ⟨rfl,_,by simpa using HK.out.set_ 0 _,fun h=>absurd h (Nat.lt_irrefl _),Turn.set (S:=fun q=>q=r) (Turn.of_below (Below.refl _ _)) (p:=⟨r,0,none⟩) (.inl rfl) _⟩
 ·go_enter Tryz.func109,Tryz.ntmps109
  go_wp2_with (first
   |(go_at_call 167;refine HOK.out.mono ?_;rintro e w' ⟨rfl,hw'⟩;obtain rfl:=hw'.symm)
   |(go_at_call 98;refine HNU.out.mono ?_;rintro e w' ⟨rfl,hw'⟩;obtain rfl:=hw'.symm))
  go_ret
  exact ⟨rfl,_,HK.out.set_ 0 _,fun _=>rfl,Turn.set (S:=fun q=>q=r) (Turn.of_below (Below.refl _ _)) (p:=⟨r,0,none⟩) (.inl rfl) _⟩
end Go.Proofs.YtnkjkgmohmcobaaGreatDoor
