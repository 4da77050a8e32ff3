/-
  Texts of this claim, joined: JP, VA.
-/
import Derived.Test.YtnkjkgmohmcobaaGreatDoorBc10
set_option maxHeartbeats 6400000
set_option maxRecDepth 100000
namespace Go.Proofs.YtnkjkgmohmcobaaGreatDoor
open Go.RowKit Go.Maps
theorem bankCalls_any (x:ConfD) (i:Int) (o:OpD) (dv:Value) (B:Nat) (w:World) (hB:B≤w.heap.size) (hd:BytesAt w B dv o.data) (hlive:∀W,Below w.heap.size w W→Calls Tryz.prog 6 #[] W fun e w'=>e= .returned (.bool true)∧Below W.heap.size W w'):
  Calls Tryz.prog 3 #[confV x,.int .i64 i,opVv o dv] w fun e w'=>e= .returned (.bool true)∧Below w.heap.size w w':=by
 have HL:=hide hlive
 have HD:=hide (fun W (hb:Below w.heap.size w W)=>BytesAt.below hd hb hB)
 have HCD:=hide (fun n W=>code28_any n W)
 have HSN:=hide (fun W=>step_nil i W)
 have HCN:=hide (fun W=>call_nil i o dv W)
 obtain ⟨A,m,c,hdv,_,_,hml,_⟩:=hd
 have HML:=hide hml
 subst hdv
 have HM:=hide (fun g W k=>Much_one g o A m c W k hml)
 have HSM:=hide (fun W=>small_any x W)
 clear hlive hml
 cases hs:smallC x with
 |false=>
  rw [hs] at HSM
  have HXX:=hide (And.intro hs HCD.out)
  obtain ⟨xb,xp,xf,xc,xl⟩:=x
  obtain ⟨oa,ok,od,ol,oh,on⟩:=o
  unfold confV opVv at*
  dsimp only at*
  clear hs
  go_enter Tryz.func3,Tryz.ntmps3
  go_upto_region 1 with (fail)
  refine gen2 (R:=fun W=>Code.wp _ _ _ _ W) (fun W1 kc kx hb1 hz1=>?_)
  obtain ⟨p,hp⟩:∃p,p=w.heap.size:=⟨_,rfl⟩
  have HPN:=hide hp
  rw [← hp] at kc kx hz1 ⊢
  have KC1:=hide kc
  have KX1:=hide kx
  have HB1:=hide hb1
  have HPZ:=hide (show p+2≤W1.heap.size from hz1)
  have q0:=kc.cell 0
  have q1:=kc.cell 1
  have q2:=kc.cell 2
  have q3:=kc.cell 3
  have q4:=kc.cell 4
  have ql:=kc.lt
  clear kc kx hb1 hp hz1
  go_wp2_with fail
  refine (HSM.out W1).mono ?_
  rintro e W2 ⟨rfl,hb2⟩
  have HB2:=hide (below_via HB1.out hb2 HB1.out.size)
  have HPZ2:=hide (Nat.le_trans HPZ.out hb2.size)
  have kc2:=Blk.via hb2 KC1.out
  have kx2:=Blk.via hb2 KX1.out
  have KC2:=hide kc2
  have KX2:=hide kx2
  clear hb2 KC1 KX1 HB1 HPZ q0 q1 q2 q3 q4 ql
  clear kc2 kx2
  go_wp2_with (first
   |(go_at_call 5;refine (HM.out _ _ (Blk.new W2 _ _)).mono ?_;rintro e w' ⟨rfl,hw'⟩;obtain rfl:=hw'.symm)
   |(go_at_call 6;refine (HL.out _ (by first|exact HB2.out|exact HB2.out.alloc HB2.out.size _)).mono ?_;rintro e w' ⟨rfl,hb'⟩))
  go_ret
  exact ⟨rfl,below_via HB2.out hb' HB2.out.size⟩
 |true=>
  rw [hs] at HSM
  cases hm:bigOp o with
  |true=>
   rw [hm] at HM
   have HXX:=hide (And.intro hs hm)
   obtain ⟨xb,xp,xf,xc,xl⟩:=x
   obtain ⟨oa,ok,od,ol,oh,on⟩:=o
   unfold confV opVv at*
   dsimp only at*
   clear hs hm
   go_enter Tryz.func3,Tryz.ntmps3
   go_upto_region 1 with (fail)
   refine gen2 (R:=fun W=>Code.wp _ _ _ _ W) (fun W1 kc kx hb1 hz1=>?_)
   obtain ⟨p,hp⟩:∃p,p=w.heap.size:=⟨_,rfl⟩
   have HPN:=hide hp
   rw [← hp] at kc kx hz1 ⊢
   have KC1:=hide kc
   have KX1:=hide kx
   have HB1:=hide hb1
   have HPZ:=hide (show p+2≤W1.heap.size from hz1)
   have q0:=kc.cell 0
   have q1:=kc.cell 1
   have q2:=kc.cell 2
   have q3:=kc.cell 3
   have q4:=kc.cell 4
   have ql:=kc.lt
   clear kc kx hb1 hp hz1
   go_wp2_with fail
   refine (HSM.out W1).mono ?_
   rintro e W2 ⟨rfl,hb2⟩
   have HB2:=hide (below_via HB1.out hb2 HB1.out.size)
   have HPZ2:=hide (Nat.le_trans HPZ.out hb2.size)
   have kc2:=Blk.via hb2 KC1.out
   have kx2:=Blk.via hb2 KX1.out
   have KC2:=hide kc2
   have KX2:=hide kx2
   clear hb2 KC1 KX1 HB1 HPZ q0 q1 q2 q3 q4 ql
   have x0:=kx2.cell 0
   have x1:=kx2.cell 1
   have x2:=kx2.cell 2
   have x3:=kx2.cell 3
   have x4:=kx2.cell 4
   have x5:=kx2.cell 5
   have xl:=kx2.lt
   clear kc2 kx2
   go_wp2_with (first
    |(go_at_call 5;refine (HM.out _ _ (Blk.new W2 _ _)).mono ?_;rintro e w' ⟨rfl,hw'⟩;obtain rfl:=hw'.symm)
    |(go_at_call 6;refine (HL.out _ (by first|exact HB2.out|exact HB2.out.alloc HB2.out.size _)).mono ?_;rintro e w' ⟨rfl,hb'⟩))
   go_ret
   exact ⟨rfl,below_via (HB2.out.alloc HB2.out.size _) hb' (HB2.out.alloc HB2.out.size _).size⟩
  |false=>
   rw [hm] at HM
   have HOK:=hide (show confOk x=true by
    unfold smallC at hs
    rw [Bool.and_eq_true] at hs
    exact hs.1)
   have hok2:=of_decide_eq_true (show decide _=true from HOK.out)
   obtain ⟨b,hxb⟩:∃b:Nat,x.b=(b:Int):=⟨x.b.toNat,by omega⟩
   obtain ⟨n,hxc⟩:∃n:Nat,x.c=(n:Int):=⟨x.c.toNat,by omega⟩
   have HO:=hide (fun W=>open28_any x b n hxb hxc HOK.out W)
   have HDL:=hide (show o.data.length≤1000000 by
    unfold bigOp at hm
    simp only [Bool.or_eq_false_iff,decide_eq_false_iff_not] at hm
    omega)
   have HBB:=hide hB
   have HXX:=hide (And.intro hs (And.intro hm hxb))
   obtain ⟨xb,xp,xf,xc,xl⟩:=x
   obtain ⟨oa,ok,od,ol,oh,on⟩:=o
   unfold confV opVv at*
   dsimp only at*
   subst hxc
   clear hs hm hxb hok2 hB
   by_cases hi:0≤i∧i<n
   ·obtain ⟨j,rfl⟩:=Int.eq_ofNat_of_zero_le hi.1
    have HJ:=hide (show j<n by omega)
    clear hi
    by_cases h6:oa=6
    ·subst h6
     go_enter Tryz.func3,Tryz.ntmps3
     go_upto_region 1 with (fail)
     refine gen2 (R:=fun W=>Code.wp _ _ _ _ W) (fun W1 kc kx hb1 hz1=>?_)
     obtain ⟨p,hp⟩:∃p,p=w.heap.size:=⟨_,rfl⟩
     have HPN:=hide hp
     rw [← hp] at kc kx hz1 ⊢
     have KC1:=hide kc
     have KX1:=hide kx
     have HB1:=hide hb1
     have HPZ:=hide (show p+2≤W1.heap.size from hz1)
     have q0:=kc.cell 0
     have q1:=kc.cell 1
     have q2:=kc.cell 2
     have q3:=kc.cell 3
     have q4:=kc.cell 4
     have ql:=kc.lt
     clear kc kx hb1 hp hz1
     go_wp2_with fail
     refine (HSM.out W1).mono ?_
     rintro e W2 ⟨rfl,hb2⟩
     have HB2:=hide (below_via HB1.out hb2 HB1.out.size)
     have HPZ2:=hide (Nat.le_trans HPZ.out hb2.size)
     have kc2:=Blk.via hb2 KC1.out
     have kx2:=Blk.via hb2 KX1.out
     have KC2:=hide kc2
     have KX2:=hide kx2
     clear hb2 KC1 KX1 HB1 HPZ q0 q1 q2 q3 q4 ql
     have x0:=kx2.cell 0
     have x1:=kx2.cell 1
     have x2:=kx2.cell 2
     have x3:=kx2.cell 3
     have x4:=kx2.cell 4
     have x5:=kx2.cell 5
     have xl:=kx2.lt
     have hb3:Below w.heap.size w (W2.alloc (.cells #[.int .i64 6,.string ok,.slice A m c,.int .i64 ol,.int .i64 oh,.int .i64 on] 26)):=HB2.out.alloc HB2.out.size _
     have kc3:=kc2.alloc (.cells #[.int .i64 6,.string ok,.slice A m c,.int .i64 ol,.int .i64 oh,.int .i64 on] 26)
     have kx3:=kx2.alloc (.cells #[.int .i64 6,.string ok,.slice A m c,.int .i64 ol,.int .i64 oh,.int .i64 on] 26)
     have hz3:p+2≤(W2.alloc (.cells #[.int .i64 6,.string ok,.slice A m c,.int .i64 ol,.int .i64 oh,.int .i64 on] 26)).heap.size:=by have:=HPZ2.out;simp;omega
     have HB3:=hide hb3
     have KC3:=hide kc3
     have KX3:=hide kx3
     have HZ3:=hide hz3
     clear hb3 kc3 kx3 hz3 kc2 kx2
     have q0:=KC3.out.cell 0
     have q1:=KC3.out.cell 1
     have q2:=KC3.out.cell 2
     have q3:=KC3.out.cell 3
     have q4:=KC3.out.cell 4
     have ql:=KC3.out.lt
     go_wp2_with (go_at_call 5;refine (HM.out _ _ (Blk.new W2 _ _)).mono ?_;rintro e w' ⟨rfl,hw'⟩;obtain rfl:=hw'.symm)
     generalize W2.alloc (.cells #[.int .i64 6,.string ok,.slice A m c,.int .i64 ol,.int .i64 oh,.int .i64 on] 26)=W3 at*
     clear x0 x1 x2 x3 x4 x5 xl KC2 KX2 HB2
     refine (HO.out W3).mono ?_
     rintro e W4 ⟨sb,k,g,t,mt,cs,rfl,hbo,hb4⟩
     have HB4:=hide (below_via HB3.out hb4 HB3.out.size)
     have HBO:=hide hbo
     have KC4:=hide (Blk.via hb4 KC3.out)
     have KX4:=hide (Blk.via hb4 KX3.out)
     have HG:=hide (show p+2≤g∧w.heap.size≤g∧p+2≤t∧p+2≤mt∧p+2≤k by
      have h1:=HZ3.out
      have h2:=hbo.gN
      have h3:=hbo.kt.tN
      have h4:=hbo.kt.mN
      have h5:=hbo.kN
      have h6:=HB3.out.size
      omega)
     clear hbo hb4 q0 q1 q2 q3 q4 ql KC3 KX3 HB3
     have hnk:k≠g:=by
      obtain ⟨cur,kc,_⟩:=HBO.out.hc j HJ.out
      exact HBO.out.kk.ne_ kc (by decide)
     have HCALL:=hide (show Calls Tryz.prog 9 #[.pointer (some ⟨k,0,none⟩),.int .i64 (j:Nat),.agg #[.int .i64 6,.string ok,.slice A m c,.int .i64 ol,.int .i64 oh,.int .i64 on]] W4 _ from call_in k sb g n j _ HJ.out ⟨6,ok,od,ol,oh,on⟩ _ B W4 (Nat.le_trans HBB.out HB4.out.size) (HD.out W4 HB4.out) HDL.out HBO.out.kk (by have:=HBO.out.hc j HJ.out;rw [if_pos HJ.out] at this;exact this))
     have HNK:=hide hnk
     have j0:(0:Int)≤j:=by omega
     have j1:(j:Int)<n:=by have:=HJ.out;omega
     clear hnk
     have x0:=KX4.out.cell 0
     have x1:=KX4.out.cell 1
     have x2:=KX4.out.cell 2
     have x3:=KX4.out.cell 3
     have x4:=KX4.out.cell 4
     have x5:=KX4.out.cell 5
     have xl:=KX4.out.lt
     have q3:=KC4.out.cell 3
     have ql:=KC4.out.lt
     go_wp2_with fail
     refine HCALL.out.mono ?_
     rintro e W5 ⟨rfl,A',n',c',hc5,ht5⟩
     have HC5:=hide hc5
     have HT5:=hide ht5
     have KX5:=hide (ht5.blk KX4.out (fun e=>by have:=HG.out;omega))
     have KK5:=hide (ht5.blk HBO.out.kk HNK.out)
     clear hc5 ht5 q3 ql j0 j1 HCALL x0 x1 x2 x3 x4 x5 xl
     have HTW:=hide (show Calls Tryz.prog 9 #[.pointer (some ⟨k,0,none⟩),.int .i64 (j:Nat),.agg #[.int .i64 6,.string ok,.slice A m c,.int .i64 ol,.int .i64 oh,.int .i64 on]] W5 _ from call_twice k sb g n j _ HJ.out ⟨6,ok,od,ol,oh,on⟩ ⟨6,ok,od,ol,oh,on⟩ _ _ W5 KK5.out HC5.out)
     have x0:=KX5.out.cell 0
     have x1:=KX5.out.cell 1
     have x2:=KX5.out.cell 2
     have x3:=KX5.out.cell 3
     have x4:=KX5.out.cell 4
     have x5:=KX5.out.cell 5
     have xl:=KX5.out.lt
     go_wp2_with (go_at_call 8;refine (HCD.out _ _).mono ?_;rintro e w' ⟨rfl,hw'⟩;obtain rfl:=hw'.symm)
     refine HTW.out.mono ?_
     rintro e W6 ⟨rfl,hb6⟩
     have KX6:=hide (Blk.via hb6 KX5.out)
     have HC6:=hide (CalQ.via hb6 HC5.out)
     have KK6:=hide (Blk.via hb6 KK5.out)
     have HB5:=hide (turnB HT5.out HB4.out (fun q e=>by rw [e];exact HG.out.2.1) HB4.out.size)
     have HB6:=hide (below_via HB5.out hb6 HB5.out.size)
     obtain ⟨cur,kc, -, -, -⟩:=HBO.out.hc j HJ.out
     have KB6:=hide (Blk.via hb6 (HT5.out.blk HBO.out.kb (HBO.out.kb.ne_ kc (by decide))))
     have TX6:=hide ((HBO.out.kt.keep (HT5.out.block t HBO.out.kt.k.lt (HBO.out.kt.k.ne_ kc (by decide))) (HT5.out.block mt HBO.out.kt.m.lt (fun e=>HBO.out.kt.m.ne kc e.symm))).via hb6)
     clear kc
     have HST:=hide (show Calls Tryz.prog 10 #[.pointer (some ⟨k,0,none⟩),.int .i64 (j:Nat)] W6 _ from step_begin k sb g n j t mt 0 HJ.out ⟨6,ok,od,ol,oh,on⟩ _ rfl _ cs W6 KK6.out HC6.out KB6.out HBO.out.c11 TX6.out.k TX6.out.m (by omega))
     clear x0 x1 x2 x3 x4 x5 xl hb6 KX5 HC5 KK5 HTW
     go_wp2_with (go_at_call 8;refine (HCD.out _ _).mono ?_;rintro e w' ⟨rfl,hw'⟩;obtain rfl:=hw'.symm)
     refine HST.out.mono ?_
     rintro e W7 ⟨rfl,hc7,⟨ev,hk7,ho7⟩,ht7⟩
     have KX7:=hide (ht7.blk KX6.out (fun e=>by have:=HG.out;omega))
     have KK7:=hide hk7
     have HO7:=hide ho7
     have HB7:=hide (turnB ht7 HB6.out (fun q e=>by have:=HG.out;have:=HPN.out;omega) HB6.out.size)
     have HAN:=hide (answer_any k sb g n j _ 1 0 HJ.out W7 KK7.out hc7)
     clear hc7 hk7 ho7 ht7 HST KX6 HC6 KK6 KB6 TX6
     go_wp2_with fail
     refine HAN.out.mono ?_
     rintro e W8 ⟨A8,m8,c8,rfl,hb8⟩
     unfold ansVv
     have KX8:=hide (Blk.via hb8 KX7.out)
     have KK8:=hide (Blk.via hb8 KK7.out)
     have HB8:=hide (below_via HB7.out hb8 HB7.out.size)
     have HO8:=hide (own_via HO7.out hb8)
     have x0:=KX8.out.cell 0
     have xl:=KX8.out.lt
     go_upto_region 17 with (fail)
     refine gen1 (R:=fun W=>Code.wp _ _ _ _ W) (fun W9 ka hb9 hz9=>?_)
     obtain ⟨ga,hga⟩:∃g,g=W8.heap.size:=⟨_,rfl⟩
     rw [← hga] at ka ⊢
     have KA:=hide ka
     have KX9:=hide (Blk.via hb9 KX8.out)
     have KK9:=hide (Blk.via hb9 KK8.out)
     have HB9:=hide (HB8.out.trans (hb9.mono HB8.out.size))
     have HO9:=hide (own_via HO8.out hb9)
     have HEV:=hide (fun W (hb:Below W9.heap.size W9 W)=>events_one k sb g n _ _ _ _ W (Blk.via hb KK9.out) (own_via HO9.out hb))
     clear x0 xl ka hb9 hga hb8 KX8 KK8 HAN
     refine wp_region_inv [fun v _=>v= .bool true,fun v _=>v= .bool false,fun v _=>v= .bool false,fun v _=>v= .pointer (some ⟨ga,0,none⟩),fun v _=>v= .int .i64 0,fun v _=>v= .int .i64 0,fun v _=>v= .bool false,fun v _=>v= .bool false,fun v _=>v= .bool false,fun v _=>v= .int .i64 0,fun v _=>v= .int .i64 0,fun v _=>v= .bool false,fun v _=>v= .bool false,fun v _=>v= .bool false,fun v _=>v= .pointer (some ⟨k,0,none⟩),fun v W=>∃A c,v= .slice A 1 c,fun v _=>v= .int .i64 1,fun v _=>v= .bool true,fun v _=>v= .pointer (some ⟨p+1,0,none⟩),fun v _=>v= .int .i64 6,fun v _=>v= .bool true,fun v _=>v= .bool false,fun v _=>v= .bool false] (by kernel_rfl) (by kernel_rfl) (by kernel_rfl) ?st ?steps ?fin
     case st=>
      intro i v W W' hWW h
      match i with
      |0|1|2|3|4|5|6|7|8|9|10|11|12|13|14|16|17|18|19|20|21|22=>exact h
      |15=>exact h
      |(i+23)=>exact h
     case steps=>
      simp only [stepsI]
      refine ⟨?_,?_,?_,?_,?_,?_,?_,?_,?_,?_,?_,?_,?_,?_,?_,?_,?_,?_,?_,?_,?_,?_,?_,trivial⟩
      ·intro f W hbW hdp
       simp only [fS,Nat.reduceAdd]
       go_wp2
       exact ⟨rfl,_,rfl,rfl,Below.refl _ _⟩
      ·intro f W hbW hdp
       have e0:f 0= .bool true:=hdp ⟨0,.data⟩ (mfl (by simp) rfl)
       simp only [fS,Nat.reduceAdd,e0]
       go_wp2
       exact ⟨rfl,_,rfl,rfl,Below.refl _ _⟩
      ·intro f W hbW hdp
       have e1:f 1= .bool false:=hdp ⟨1,.data⟩ (mfl (by simp) rfl)
       simp only [fS,Nat.reduceAdd,e1]
       go_wp2
       exact ⟨rfl,_,rfl,rfl,Below.refl _ _⟩
      ·intro f W hbW hdp
       have e2:f 2= .bool false:=hdp ⟨2,.guard⟩ (mfl (by simp) rfl)
       simp only [fS,Nat.reduceAdd,e2]
       go_wp2
       exact ⟨rfl,_,rfl,rfl,Below.refl _ _⟩
      ·intro f W hbW hdp
       have e2:f 2= .bool false:=hdp ⟨2,.guard⟩ (mfl (by simp) rfl)
       have e3:f 3= .pointer (some ⟨ga,0,none⟩):=hdp ⟨3,.data⟩ (mfl (by simp) rfl)
       have z0:W.cell? ⟨ga,0,none⟩=some (.int .i64 0):=(Blk.via hbW KA.out).cell 0
       simp only [fS,Nat.reduceAdd,e2,e3]
       go_wp2
       exact ⟨rfl,_,rfl,rfl,Below.refl _ _⟩
      ·intro f W hbW hdp
       have e2:f 2= .bool false:=hdp ⟨2,.guard⟩ (mfl (by simp) rfl)
       simp only [fS,Nat.reduceAdd,e2]
       go_wp2
       exact ⟨rfl,_,rfl,rfl,Below.refl _ _⟩
      ·intro f W hbW hdp
       have e2:f 2= .bool false:=hdp ⟨2,.guard⟩ (mfl (by simp) rfl)
       have e4:f 4= .int .i64 0:=hdp ⟨4,.data⟩ (mfl (by simp) rfl)
       have e5:f 5= .int .i64 0:=hdp ⟨5,.data⟩ (mfl (by simp) rfl)
       simp only [fS,Nat.reduceAdd,e2,e4,e5]
       go_wp2
       exact ⟨rfl,_,rfl,rfl,Below.refl _ _⟩
      ·intro f W hbW hdp
       have e2:f 2= .bool false:=hdp ⟨2,.data⟩ (mfl (by simp) rfl)
       have e6:f 6= .bool false:=hdp ⟨6,.data⟩ (mfl (by simp) rfl)
       simp only [fS,Nat.reduceAdd,e2,e6]
       go_wp2
       exact ⟨rfl,_,rfl,rfl,Below.refl _ _⟩
      ·intro f W hbW hdp
       have e7:f 7= .bool false:=hdp ⟨7,.data⟩ (mfl (by simp) rfl)
       simp only [fS,Nat.reduceAdd,e7]
       go_wp2
       exact ⟨rfl,_,rfl,rfl,Below.refl _ _⟩
      ·intro f W hbW hdp
       have e8:f 8= .bool false:=hdp ⟨8,.guard⟩ (mfl (by simp) rfl)
       simp only [fS,Nat.reduceAdd,e8]
       go_wp2
       exact ⟨rfl,_,rfl,rfl,Below.refl _ _⟩
      ·intro f W hbW hdp
       have e8:f 8= .bool false:=hdp ⟨8,.guard⟩ (mfl (by simp) rfl)
       have e9:f 9= .int .i64 0:=hdp ⟨9,.data⟩ (mfl (by simp) rfl)
       simp only [fS,Nat.reduceAdd,e8,e9]
       go_wp2_with (go_at_call 8;refine (HCD.out _ _).mono ?_;rintro e w' ⟨rfl,hw'⟩;obtain rfl:=hw'.symm)
       exact ⟨rfl,_,rfl,rfl,Below.refl _ _⟩
      ·intro f W hbW hdp
       have e8:f 8= .bool false:=hdp ⟨8,.guard⟩ (mfl (by simp) rfl)
       have e10:f 10= .int .i64 0:=hdp ⟨10,.data⟩ (mfl (by simp) rfl)
       simp only [fS,Nat.reduceAdd,e8,e10]
       go_wp2
       exact ⟨rfl,_,rfl,rfl,Below.refl _ _⟩
      ·intro f W hbW hdp
       have e8:f 8= .bool false:=hdp ⟨8,.data⟩ (mfl (by simp) rfl)
       have e11:f 11= .bool false:=hdp ⟨11,.data⟩ (mfl (by simp) rfl)
       simp only [fS,Nat.reduceAdd,e8,e11]
       go_wp2
       exact ⟨rfl,_,rfl,rfl,Below.refl _ _⟩
      ·intro f W hbW hdp
       have e12:f 12= .bool false:=hdp ⟨12,.data⟩ (mfl (by simp) rfl)
       simp only [fS,Nat.reduceAdd,e12]
       go_wp2
       exact ⟨rfl,_,rfl,rfl,Below.refl _ _⟩
      ·intro f W hbW hdp
       have e13:f 13= .bool false:=hdp ⟨13,.guard⟩ (mfl (by simp) rfl)
       simp only [fS,Nat.reduceAdd,e13]
       go_wp2
       exact ⟨rfl,_,rfl,rfl,Below.refl _ _⟩
      ·intro f W hbW hdp
       have e13:f 13= .bool false:=hdp ⟨13,.guard⟩ (mfl (by simp) rfl)
       have e14:f 14= .pointer (some ⟨k,0,none⟩):=hdp ⟨14,.data⟩ (mfl (by simp) rfl)
       simp only [fS,Nat.reduceAdd,e13,e14]
       go_wp2_with (go_at_call 12;refine (HEV.out W hbW).mono ?_;rintro e w' ⟨⟨A9,c9,rfl⟩,hb'⟩)
       exact ⟨rfl,_,rfl,⟨A9,c9,rfl⟩,hb'⟩
      ·intro f W hbW hdp
       have e13:f 13= .bool false:=hdp ⟨13,.guard⟩ (mfl (by simp) rfl)
       have e15:∃A c,(f 15)= .slice A 1 c:=hdp ⟨15,.data⟩ (mfl (by simp) rfl)
       simp only [fS,Nat.reduceAdd,e13]
       obtain ⟨A9,c9,h15⟩:=e15
       simp only [h15]
       clear h15
       go_wp2
       exact ⟨rfl,_,rfl,rfl,Below.refl _ _⟩
      ·intro f W hbW hdp
       have e13:f 13= .bool false:=hdp ⟨13,.guard⟩ (mfl (by simp) rfl)
       have e16:f 16= .int .i64 1:=hdp ⟨16,.data⟩ (mfl (by simp) rfl)
       simp only [fS,Nat.reduceAdd,e13,e16]
       go_wp2
       exact ⟨rfl,_,rfl,rfl,Below.refl _ _⟩
      ·intro f W hbW hdp
       have e13:f 13= .bool false:=hdp ⟨13,.guard⟩ (mfl (by simp) rfl)
       simp only [fS,Nat.reduceAdd,e13]
       go_wp2
       exact ⟨rfl,_,rfl,rfl,Below.refl _ _⟩
      ·intro f W hbW hdp
       have e13:f 13= .bool false:=hdp ⟨13,.guard⟩ (mfl (by simp) rfl)
       have e18:f 18= .pointer (some ⟨p+1,0,none⟩):=hdp ⟨18,.data⟩ (mfl (by simp) rfl)
       have z0:W.cell? ⟨p+1,0,none⟩=some (.int .i64 6):=(Blk.via hbW KX9.out).cell 0
       simp only [fS,Nat.reduceAdd,e13,e18]
       go_wp2
       exact ⟨rfl,_,rfl,rfl,Below.refl _ _⟩
      ·intro f W hbW hdp
       have e13:f 13= .bool false:=hdp ⟨13,.guard⟩ (mfl (by simp) rfl)
       have e19:f 19= .int .i64 6:=hdp ⟨19,.data⟩ (mfl (by simp) rfl)
       simp only [fS,Nat.reduceAdd,e13,e19]
       go_wp2
       exact ⟨rfl,_,rfl,rfl,Below.refl _ _⟩
      ·intro f W hbW hdp
       have e13:f 13= .bool false:=hdp ⟨13,.guard⟩ (mfl (by simp) rfl)
       have e17:f 17= .bool true:=hdp ⟨17,.data⟩ (mfl (by simp) rfl)
       have e20:f 20= .bool true:=hdp ⟨20,.data⟩ (mfl (by simp) rfl)
       simp only [fS,Nat.reduceAdd,e13,e17,e20]
       go_wp2
       exact ⟨rfl,_,rfl,rfl,Below.refl _ _⟩
      ·intro f W hbW hdp
       have e13:f 13= .bool false:=hdp ⟨13,.data⟩ (mfl (by simp) rfl)
       have e21:f 21= .bool false:=hdp ⟨21,.data⟩ (mfl (by simp) rfl)
       simp only [fS,Nat.reduceAdd,e13,e21]
       go_wp2
       exact ⟨rfl,_,rfl,rfl,Below.refl _ _⟩
     case fin=>
      intro f W hbW hA
      have e22:f 22= .bool false:=hA 22 (by simp)
      show wpList Tryz.prog #[] (Exit.then _ _) [] _ _
      simp only [fS,Nat.reduceAdd,e22]
      clear hA e22
      have HBW:=hide (HB9.out.trans (hbW.mono HB9.out.size))
      have kx:=Blk.via hbW KX9.out
      have x0:=kx.cell 0
      have x1:=kx.cell 1
      have x2:=kx.cell 2
      have x3:=kx.cell 3
      have x4:=kx.cell 4
      have x5:=kx.cell 5
      have xl:=kx.lt
      clear hbW kx
      go_wp2_with (first
       |(go_at_call 8;refine (HCD.out _ _).mono ?_;rintro e w' ⟨rfl,hw'⟩;obtain rfl:=hw'.symm)
       |(go_at_call 10;refine (HSN.out _).mono ?_;rintro e w' ⟨rfl,hw'⟩;obtain rfl:=hw'.symm)
       |(go_at_call 15;refine (map_nil _).mono ?_;rintro e w' ⟨rfl,hw'⟩;obtain rfl:=hw'.symm)
       |(go_at_call 16;refine (check_nil _).mono ?_;rintro e w' ⟨rfl,hw'⟩;obtain rfl:=hw'.symm)
       |(go_at_call 17;refine (dead_nil _).mono ?_;rintro e w' ⟨rfl,hw'⟩;obtain rfl:=hw'.symm)
       |(go_at_call 12;refine (events_nil _).mono ?_;rintro e w' ⟨rfl,hw'⟩;obtain rfl:=hw'.symm)
       |(go_at_call 18;refine (bankNew_nil _).mono ?_;rintro e w' ⟨rfl,hw'⟩;obtain rfl:=hw'.symm)
       |(go_at_call 9;refine (HCN.out _).mono ?_;rintro e w10 ⟨rfl,hb10⟩)
       |(go_at_call 6;refine (HL.out _ (below_via HBW.out hb10 HBW.out.size)).mono ?_;rintro e w11 ⟨rfl,hb11⟩))
      go_ret
      exact ⟨rfl,below_via (below_via HBW.out hb10 HBW.out.size) hb11 (Nat.le_trans HBW.out.size hb10.size)⟩
    ·have HH6:=hide h6
     have x6:(oa==6)=false:=beq_eq_false_iff_ne.2 h6
     clear h6
     go_enter Tryz.func3,Tryz.ntmps3
     go_upto_region 1 with (fail)
     refine gen2 (R:=fun W=>Code.wp _ _ _ _ W) (fun W1 kc kx hb1 hz1=>?_)
     obtain ⟨p,hp⟩:∃p,p=w.heap.size:=⟨_,rfl⟩
     have HPN:=hide hp
     rw [← hp] at kc kx hz1 ⊢
     have KC1:=hide kc
     have KX1:=hide kx
     have HB1:=hide hb1
     have HPZ:=hide (show p+2≤W1.heap.size from hz1)
     have q0:=kc.cell 0
     have q1:=kc.cell 1
     have q2:=kc.cell 2
     have q3:=kc.cell 3
     have q4:=kc.cell 4
     have ql:=kc.lt
     clear kc kx hb1 hp hz1
     go_wp2_with fail
     refine (HSM.out W1).mono ?_
     rintro e W2 ⟨rfl,hb2⟩
     have HB2:=hide (below_via HB1.out hb2 HB1.out.size)
     have HPZ2:=hide (Nat.le_trans HPZ.out hb2.size)
     have kc2:=Blk.via hb2 KC1.out
     have kx2:=Blk.via hb2 KX1.out
     have KC2:=hide kc2
     have KX2:=hide kx2
     clear hb2 KC1 KX1 HB1 HPZ q0 q1 q2 q3 q4 ql
     have x0:=kx2.cell 0
     have x1:=kx2.cell 1
     have x2:=kx2.cell 2
     have x3:=kx2.cell 3
     have x4:=kx2.cell 4
     have x5:=kx2.cell 5
     have xl:=kx2.lt
     have hb3:Below w.heap.size w (W2.alloc (.cells #[.int .i64 oa,.string ok,.slice A m c,.int .i64 ol,.int .i64 oh,.int .i64 on] 26)):=HB2.out.alloc HB2.out.size _
     have kc3:=kc2.alloc (.cells #[.int .i64 oa,.string ok,.slice A m c,.int .i64 ol,.int .i64 oh,.int .i64 on] 26)
     have kx3:=kx2.alloc (.cells #[.int .i64 oa,.string ok,.slice A m c,.int .i64 ol,.int .i64 oh,.int .i64 on] 26)
     have hz3:p+2≤(W2.alloc (.cells #[.int .i64 oa,.string ok,.slice A m c,.int .i64 ol,.int .i64 oh,.int .i64 on] 26)).heap.size:=by have:=HPZ2.out;simp;omega
     have HB3:=hide hb3
     have KC3:=hide kc3
     have KX3:=hide kx3
     have HZ3:=hide hz3
     clear hb3 kc3 kx3 hz3 kc2 kx2
     have q0:=KC3.out.cell 0
     have q1:=KC3.out.cell 1
     have q2:=KC3.out.cell 2
     have q3:=KC3.out.cell 3
     have q4:=KC3.out.cell 4
     have ql:=KC3.out.lt
     go_wp2_with (go_at_call 5;refine (HM.out _ _ (Blk.new W2 _ _)).mono ?_;rintro e w' ⟨rfl,hw'⟩;obtain rfl:=hw'.symm)
     generalize W2.alloc (.cells #[.int .i64 oa,.string ok,.slice A m c,.int .i64 ol,.int .i64 oh,.int .i64 on] 26)=W3 at*
     clear x0 x1 x2 x3 x4 x5 xl KC2 KX2 HB2
     refine (HO.out W3).mono ?_
     rintro e W4 ⟨sb,k,g,t,mt,cs,rfl,hbo,hb4⟩
     have HB4:=hide (below_via HB3.out hb4 HB3.out.size)
     have HBO:=hide hbo
     have KC4:=hide (Blk.via hb4 KC3.out)
     have KX4:=hide (Blk.via hb4 KX3.out)
     have HG:=hide (show p+2≤g∧w.heap.size≤g∧p+2≤t∧p+2≤mt∧p+2≤k by
      have h1:=HZ3.out
      have h2:=hbo.gN
      have h3:=hbo.kt.tN
      have h4:=hbo.kt.mN
      have h5:=hbo.kN
      have h6:=HB3.out.size
      omega)
     clear hbo hb4 q0 q1 q2 q3 q4 ql KC3 KX3 HB3
     have hnk:k≠g:=by
      obtain ⟨cur,kc,_⟩:=HBO.out.hc j HJ.out
      exact HBO.out.kk.ne_ kc (by decide)
     have HCALL:=hide (show Calls Tryz.prog 9 #[.pointer (some ⟨k,0,none⟩),.int .i64 (j:Nat),.agg #[.int .i64 oa,.string ok,.slice A m c,.int .i64 ol,.int .i64 oh,.int .i64 on]] W4 _ from call_in k sb g n j _ HJ.out ⟨oa,ok,od,ol,oh,on⟩ _ B W4 (Nat.le_trans HBB.out HB4.out.size) (HD.out W4 HB4.out) HDL.out HBO.out.kk (by have:=HBO.out.hc j HJ.out;rw [if_pos HJ.out] at this;exact this))
     have HNK:=hide hnk
     have j0:(0:Int)≤j:=by omega
     have j1:(j:Int)<n:=by have:=HJ.out;omega
     clear hnk
     have x0:=KX4.out.cell 0
     have x1:=KX4.out.cell 1
     have x2:=KX4.out.cell 2
     have x3:=KX4.out.cell 3
     have x4:=KX4.out.cell 4
     have x5:=KX4.out.cell 5
     have xl:=KX4.out.lt
     have q3:=KC4.out.cell 3
     have ql:=KC4.out.lt
     go_wp2_with fail
     refine HCALL.out.mono ?_
     rintro e W5 ⟨rfl,A',n',c',hc5,ht5⟩
     have HC5:=hide hc5
     have HT5:=hide ht5
     have KX5:=hide (ht5.blk KX4.out (fun e=>by have:=HG.out;omega))
     have KK5:=hide (ht5.blk HBO.out.kk HNK.out)
     clear hc5 ht5 q3 ql j0 j1 HCALL x0 x1 x2 x3 x4 x5 xl
     have HTW:=hide (show Calls Tryz.prog 9 #[.pointer (some ⟨k,0,none⟩),.int .i64 (j:Nat),.agg #[.int .i64 oa,.string ok,.slice A m c,.int .i64 ol,.int .i64 oh,.int .i64 on]] W5 _ from call_twice k sb g n j _ HJ.out ⟨oa,ok,od,ol,oh,on⟩ ⟨oa,ok,od,ol,oh,on⟩ _ _ W5 KK5.out HC5.out)
     have x0:=KX5.out.cell 0
     have x1:=KX5.out.cell 1
     have x2:=KX5.out.cell 2
     have x3:=KX5.out.cell 3
     have x4:=KX5.out.cell 4
     have x5:=KX5.out.cell 5
     have xl:=KX5.out.lt
     go_wp2_with (go_at_call 8;refine (HCD.out _ _).mono ?_;rintro e w' ⟨rfl,hw'⟩;obtain rfl:=hw'.symm)
     refine HTW.out.mono ?_
     rintro e W6 ⟨rfl,hb6⟩
     have KX6:=hide (Blk.via hb6 KX5.out)
     have HC6:=hide (CalQ.via hb6 HC5.out)
     have KK6:=hide (Blk.via hb6 KK5.out)
     have HB5:=hide (turnB HT5.out HB4.out (fun q e=>by rw [e];exact HG.out.2.1) HB4.out.size)
     have HB6:=hide (below_via HB5.out hb6 HB5.out.size)
     have HST:=hide (show Calls Tryz.prog 10 #[.pointer (some ⟨k,0,none⟩),.int .i64 (j:Nat)] W6 _ from step_no k sb g n j _ HJ.out ⟨oa,ok,od,ol,oh,on⟩ _ HH6.out W6 KK6.out HC6.out)
     clear x0 x1 x2 x3 x4 x5 xl hb6 KX5 HC5 KK5 HTW
     go_wp2_with (go_at_call 8;refine (HCD.out _ _).mono ?_;rintro e w' ⟨rfl,hw'⟩;obtain rfl:=hw'.symm)
     refine HST.out.mono ?_
     rintro e W7 ⟨rfl,hc7,ht7⟩
     have KX7:=hide (ht7.blk KX6.out (fun e=>by have:=HG.out;omega))
     have KK7:=hide (ht7.blk KK6.out HNK.out)
     have HB7:=hide (turnB ht7 HB6.out (fun q e=>by rw [e];exact HG.out.2.1) HB6.out.size)
     have HAN:=hide (answer_any k sb g n j _ 0 11 HJ.out W7 KK7.out hc7)
     clear hc7 ht7 HST KX6 HC6 KK6
     go_wp2_with fail
     refine HAN.out.mono ?_
     rintro e W8 ⟨A8,m8,c8,rfl,hb8⟩
     unfold ansVv
     have KX8:=hide (Blk.via hb8 KX7.out)
     have KK8:=hide (Blk.via hb8 KK7.out)
     have HB8:=hide (below_via HB7.out hb8 HB7.out.size)
     have x0:=KX8.out.cell 0
     have xl:=KX8.out.lt
     go_upto_region 17 with (fail)
     refine gen1 (R:=fun W=>Code.wp _ _ _ _ W) (fun W9 ka hb9 hz9=>?_)
     obtain ⟨ga,hga⟩:∃g,g=W8.heap.size:=⟨_,rfl⟩
     rw [← hga] at ka ⊢
     have KA:=hide ka
     have KX9:=hide (Blk.via hb9 KX8.out)
     have KK9:=hide (Blk.via hb9 KK8.out)
     have HB9:=hide (HB8.out.trans (hb9.mono HB8.out.size))
     have HEV:=hide (fun W (hb:Below W9.heap.size W9 W)=>events_none k sb g n W (Blk.via hb KK9.out))
     clear x0 xl ka hb9 hga hb8 KX8 KK8 HAN
     refine wp_region_inv [fun v _=>v= .bool true,fun v _=>v= .bool false,fun v _=>v= .bool false,fun v _=>v= .pointer (some ⟨ga,0,none⟩),fun v _=>v= .int .i64 11,fun v _=>v= .int .i64 11,fun v _=>v= .bool false,fun v _=>v= .bool false,fun v _=>v= .bool false,fun v _=>v= .int .i64 0,fun v _=>v= .int .i64 0,fun v _=>v= .bool false,fun v _=>v= .bool false,fun v _=>v= .bool false,fun v _=>v= .pointer (some ⟨k,0,none⟩),fun v W=>∃A c,v= .slice A 0 c,fun v _=>v= .int .i64 0,fun v _=>v= .bool false,fun v _=>v= .pointer (some ⟨p+1,0,none⟩),fun v _=>v= .int .i64 oa,fun v _=>v= .bool false,fun v _=>v= .bool false,fun v _=>v= .bool false] (by kernel_rfl) (by kernel_rfl) (by kernel_rfl) ?st ?steps ?fin
     case st=>
      intro i v W W' hWW h
      match i with
      |0|1|2|3|4|5|6|7|8|9|10|11|12|13|14|16|17|18|19|20|21|22=>exact h
      |15=>exact h
      |(i+23)=>exact h
     case steps=>
      simp only [stepsI]
      refine ⟨?_,?_,?_,?_,?_,?_,?_,?_,?_,?_,?_,?_,?_,?_,?_,?_,?_,?_,?_,?_,?_,?_,?_,trivial⟩
      ·intro f W hbW hdp
       simp only [fS,Nat.reduceAdd]
       go_wp2
       exact ⟨rfl,_,rfl,rfl,Below.refl _ _⟩
      ·intro f W hbW hdp
       have e0:f 0= .bool true:=hdp ⟨0,.data⟩ (mfl (by simp) rfl)
       simp only [fS,Nat.reduceAdd,e0]
       go_wp2
       exact ⟨rfl,_,rfl,rfl,Below.refl _ _⟩
      ·intro f W hbW hdp
       have e1:f 1= .bool false:=hdp ⟨1,.data⟩ (mfl (by simp) rfl)
       simp only [fS,Nat.reduceAdd,e1]
       go_wp2
       exact ⟨rfl,_,rfl,rfl,Below.refl _ _⟩
      ·intro f W hbW hdp
       have e2:f 2= .bool false:=hdp ⟨2,.guard⟩ (mfl (by simp) rfl)
       simp only [fS,Nat.reduceAdd,e2]
       go_wp2
       exact ⟨rfl,_,rfl,rfl,Below.refl _ _⟩
      ·intro f W hbW hdp
       have e2:f 2= .bool false:=hdp ⟨2,.guard⟩ (mfl (by simp) rfl)
       have e3:f 3= .pointer (some ⟨ga,0,none⟩):=hdp ⟨3,.data⟩ (mfl (by simp) rfl)
       have z0:W.cell? ⟨ga,0,none⟩=some (.int .i64 11):=(Blk.via hbW KA.out).cell 0
       simp only [fS,Nat.reduceAdd,e2,e3]
       go_wp2
       exact ⟨rfl,_,rfl,rfl,Below.refl _ _⟩
      ·intro f W hbW hdp
       have e2:f 2= .bool false:=hdp ⟨2,.guard⟩ (mfl (by simp) rfl)
       simp only [fS,Nat.reduceAdd,e2]
       go_wp2
       exact ⟨rfl,_,rfl,rfl,Below.refl _ _⟩
      ·intro f W hbW hdp
       have e2:f 2= .bool false:=hdp ⟨2,.guard⟩ (mfl (by simp) rfl)
       have e4:f 4= .int .i64 11:=hdp ⟨4,.data⟩ (mfl (by simp) rfl)
       have e5:f 5= .int .i64 11:=hdp ⟨5,.data⟩ (mfl (by simp) rfl)
       simp only [fS,Nat.reduceAdd,e2,e4,e5]
       go_wp2
       exact ⟨rfl,_,rfl,rfl,Below.refl _ _⟩
      ·intro f W hbW hdp
       have e2:f 2= .bool false:=hdp ⟨2,.data⟩ (mfl (by simp) rfl)
       have e6:f 6= .bool false:=hdp ⟨6,.data⟩ (mfl (by simp) rfl)
       simp only [fS,Nat.reduceAdd,e2,e6]
       go_wp2
       exact ⟨rfl,_,rfl,rfl,Below.refl _ _⟩
      ·intro f W hbW hdp
       have e7:f 7= .bool false:=hdp ⟨7,.data⟩ (mfl (by simp) rfl)
       simp only [fS,Nat.reduceAdd,e7]
       go_wp2
       exact ⟨rfl,_,rfl,rfl,Below.refl _ _⟩
      ·intro f W hbW hdp
       have e8:f 8= .bool false:=hdp ⟨8,.guard⟩ (mfl (by simp) rfl)
       simp only [fS,Nat.reduceAdd,e8]
       go_wp2
       exact ⟨rfl,_,rfl,rfl,Below.refl _ _⟩
      ·intro f W hbW hdp
       have e8:f 8= .bool false:=hdp ⟨8,.guard⟩ (mfl (by simp) rfl)
       have e9:f 9= .int .i64 0:=hdp ⟨9,.data⟩ (mfl (by simp) rfl)
       simp only [fS,Nat.reduceAdd,e8,e9]
       go_wp2_with (go_at_call 8;refine (HCD.out _ _).mono ?_;rintro e w' ⟨rfl,hw'⟩;obtain rfl:=hw'.symm)
       exact ⟨rfl,_,rfl,rfl,Below.refl _ _⟩
      ·intro f W hbW hdp
       have e8:f 8= .bool false:=hdp ⟨8,.guard⟩ (mfl (by simp) rfl)
       have e10:f 10= .int .i64 0:=hdp ⟨10,.data⟩ (mfl (by simp) rfl)
       simp only [fS,Nat.reduceAdd,e8,e10]
       go_wp2
       exact ⟨rfl,_,rfl,rfl,Below.refl _ _⟩
      ·intro f W hbW hdp
       have e8:f 8= .bool false:=hdp ⟨8,.data⟩ (mfl (by simp) rfl)
       have e11:f 11= .bool false:=hdp ⟨11,.data⟩ (mfl (by simp) rfl)
       simp only [fS,Nat.reduceAdd,e8,e11]
       go_wp2
       exact ⟨rfl,_,rfl,rfl,Below.refl _ _⟩
      ·intro f W hbW hdp
       have e12:f 12= .bool false:=hdp ⟨12,.data⟩ (mfl (by simp) rfl)
       simp only [fS,Nat.reduceAdd,e12]
       go_wp2
       exact ⟨rfl,_,rfl,rfl,Below.refl _ _⟩
      ·intro f W hbW hdp
       have e13:f 13= .bool false:=hdp ⟨13,.guard⟩ (mfl (by simp) rfl)
       simp only [fS,Nat.reduceAdd,e13]
       go_wp2
       exact ⟨rfl,_,rfl,rfl,Below.refl _ _⟩
      ·intro f W hbW hdp
       have e13:f 13= .bool false:=hdp ⟨13,.guard⟩ (mfl (by simp) rfl)
       have e14:f 14= .pointer (some ⟨k,0,none⟩):=hdp ⟨14,.data⟩ (mfl (by simp) rfl)
       simp only [fS,Nat.reduceAdd,e13,e14]
       go_wp2_with (go_at_call 12;refine (HEV.out W hbW).mono ?_;rintro e w' ⟨⟨A9,c9,rfl⟩,hb'⟩)
       exact ⟨rfl,_,rfl,⟨A9,c9,rfl⟩,hb'⟩
      ·intro f W hbW hdp
       have e13:f 13= .bool false:=hdp ⟨13,.guard⟩ (mfl (by simp) rfl)
       have e15:∃A c,(f 15)= .slice A 0 c:=hdp ⟨15,.data⟩ (mfl (by simp) rfl)
       simp only [fS,Nat.reduceAdd,e13]
       obtain ⟨A9,c9,h15⟩:=e15
       simp only [h15]
       clear h15
       go_wp2
       exact ⟨rfl,_,rfl,rfl,Below.refl _ _⟩
      ·intro f W hbW hdp
       have e13:f 13= .bool false:=hdp ⟨13,.guard⟩ (mfl (by simp) rfl)
       have e16:f 16= .int .i64 0:=hdp ⟨16,.data⟩ (mfl (by simp) rfl)
       simp only [fS,Nat.reduceAdd,e13,e16]
       go_wp2
       exact ⟨rfl,_,rfl,rfl,Below.refl _ _⟩
      ·intro f W hbW hdp
       have e13:f 13= .bool false:=hdp ⟨13,.guard⟩ (mfl (by simp) rfl)
       simp only [fS,Nat.reduceAdd,e13]
       go_wp2
       exact ⟨rfl,_,rfl,rfl,Below.refl _ _⟩
      ·intro f W hbW hdp
       have e13:f 13= .bool false:=hdp ⟨13,.guard⟩ (mfl (by simp) rfl)
       have e18:f 18= .pointer (some ⟨p+1,0,none⟩):=hdp ⟨18,.data⟩ (mfl (by simp) rfl)
       have z0:W.cell? ⟨p+1,0,none⟩=some (.int .i64 oa):=(Blk.via hbW KX9.out).cell 0
       simp only [fS,Nat.reduceAdd,e13,e18]
       go_wp2
       exact ⟨rfl,_,rfl,rfl,Below.refl _ _⟩
      ·intro f W hbW hdp
       have e13:f 13= .bool false:=hdp ⟨13,.guard⟩ (mfl (by simp) rfl)
       have e19:f 19= .int .i64 oa:=hdp ⟨19,.data⟩ (mfl (by simp) rfl)
       simp only [fS,Nat.reduceAdd,e13,e19]
       go_wp2
       exact ⟨rfl,_,rfl,rfl,Below.refl _ _⟩
      ·intro f W hbW hdp
       have e13:f 13= .bool false:=hdp ⟨13,.guard⟩ (mfl (by simp) rfl)
       have e17:f 17= .bool false:=hdp ⟨17,.data⟩ (mfl (by simp) rfl)
       have e20:f 20= .bool false:=hdp ⟨20,.data⟩ (mfl (by simp) rfl)
       simp only [fS,Nat.reduceAdd,e13,e17,e20]
       go_wp2
       exact ⟨rfl,_,rfl,rfl,Below.refl _ _⟩
      ·intro f W hbW hdp
       have e13:f 13= .bool false:=hdp ⟨13,.data⟩ (mfl (by simp) rfl)
       have e21:f 21= .bool false:=hdp ⟨21,.data⟩ (mfl (by simp) rfl)
       simp only [fS,Nat.reduceAdd,e13,e21]
       go_wp2
       exact ⟨rfl,_,rfl,rfl,Below.refl _ _⟩
     case fin=>
      intro f W hbW hA
      have e22:f 22= .bool false:=hA 22 (by simp)
      show wpList Tryz.prog #[] (Exit.then _ _) [] _ _
      simp only [fS,Nat.reduceAdd,e22]
      clear hA e22
      have HBW:=hide (HB9.out.trans (hbW.mono HB9.out.size))
      have kx:=Blk.via hbW KX9.out
      have x0:=kx.cell 0
      have x1:=kx.cell 1
      have x2:=kx.cell 2
      have x3:=kx.cell 3
      have x4:=kx.cell 4
      have x5:=kx.cell 5
      have xl:=kx.lt
      clear hbW kx
      go_wp2_with (first
       |(go_at_call 8;refine (HCD.out _ _).mono ?_;rintro e w' ⟨rfl,hw'⟩;obtain rfl:=hw'.symm)
       |(go_at_call 10;refine (HSN.out _).mono ?_;rintro e w' ⟨rfl,hw'⟩;obtain rfl:=hw'.symm)
       |(go_at_call 15;refine (map_nil _).mono ?_;rintro e w' ⟨rfl,hw'⟩;obtain rfl:=hw'.symm)
       |(go_at_call 16;refine (check_nil _).mono ?_;rintro e w' ⟨rfl,hw'⟩;obtain rfl:=hw'.symm)
       |(go_at_call 17;refine (dead_nil _).mono ?_;rintro e w' ⟨rfl,hw'⟩;obtain rfl:=hw'.symm)
       |(go_at_call 12;refine (events_nil _).mono ?_;rintro e w' ⟨rfl,hw'⟩;obtain rfl:=hw'.symm)
       |(go_at_call 18;refine (bankNew_nil _).mono ?_;rintro e w' ⟨rfl,hw'⟩;obtain rfl:=hw'.symm)
       |(go_at_call 9;refine (HCN.out _).mono ?_;rintro e w10 ⟨rfl,hb10⟩)
       |(go_at_call 6;refine (HL.out _ (below_via HBW.out hb10 HBW.out.size)).mono ?_;rintro e w11 ⟨rfl,hb11⟩))
      go_ret
      exact ⟨rfl,below_via (below_via HBW.out hb10 HBW.out.size) hb11 (Nat.le_trans HBW.out.size hb10.size)⟩
   ·have HHI:=hide hi
    clear hi
    by_cases h0:i<0
    ·go_enter Tryz.func3,Tryz.ntmps3
     go_upto_region 1 with (fail)
     refine gen2 (R:=fun W=>Code.wp _ _ _ _ W) (fun W1 kc kx hb1 hz1=>?_)
     obtain ⟨p,hp⟩:∃p,p=w.heap.size:=⟨_,rfl⟩
     have HPN:=hide hp
     rw [← hp] at kc kx hz1 ⊢
     have KC1:=hide kc
     have KX1:=hide kx
     have HB1:=hide hb1
     have HPZ:=hide (show p+2≤W1.heap.size from hz1)
     have q0:=kc.cell 0
     have q1:=kc.cell 1
     have q2:=kc.cell 2
     have q3:=kc.cell 3
     have q4:=kc.cell 4
     have ql:=kc.lt
     clear kc kx hb1 hp hz1
     go_wp2_with fail
     refine (HSM.out W1).mono ?_
     rintro e W2 ⟨rfl,hb2⟩
     have HB2:=hide (below_via HB1.out hb2 HB1.out.size)
     have HPZ2:=hide (Nat.le_trans HPZ.out hb2.size)
     have kc2:=Blk.via hb2 KC1.out
     have kx2:=Blk.via hb2 KX1.out
     have KC2:=hide kc2
     have KX2:=hide kx2
     clear hb2 KC1 KX1 HB1 HPZ q0 q1 q2 q3 q4 ql
     have x0:=kx2.cell 0
     have x1:=kx2.cell 1
     have x2:=kx2.cell 2
     have x3:=kx2.cell 3
     have x4:=kx2.cell 4
     have x5:=kx2.cell 5
     have xl:=kx2.lt
     have hb3:Below w.heap.size w (W2.alloc (.cells #[.int .i64 oa,.string ok,.slice A m c,.int .i64 ol,.int .i64 oh,.int .i64 on] 26)):=HB2.out.alloc HB2.out.size _
     have kc3:=kc2.alloc (.cells #[.int .i64 oa,.string ok,.slice A m c,.int .i64 ol,.int .i64 oh,.int .i64 on] 26)
     have kx3:=kx2.alloc (.cells #[.int .i64 oa,.string ok,.slice A m c,.int .i64 ol,.int .i64 oh,.int .i64 on] 26)
     have hz3:p+2≤(W2.alloc (.cells #[.int .i64 oa,.string ok,.slice A m c,.int .i64 ol,.int .i64 oh,.int .i64 on] 26)).heap.size:=by have:=HPZ2.out;simp;omega
     have HB3:=hide hb3
     have KC3:=hide kc3
     have KX3:=hide kx3
     have HZ3:=hide hz3
     clear hb3 kc3 kx3 hz3 kc2 kx2
     have q0:=KC3.out.cell 0
     have q1:=KC3.out.cell 1
     have q2:=KC3.out.cell 2
     have q3:=KC3.out.cell 3
     have q4:=KC3.out.cell 4
     have ql:=KC3.out.lt
     go_wp2_with (go_at_call 5;refine (HM.out _ _ (Blk.new W2 _ _)).mono ?_;rintro e w' ⟨rfl,hw'⟩;obtain rfl:=hw'.symm)
     generalize W2.alloc (.cells #[.int .i64 oa,.string ok,.slice A m c,.int .i64 ol,.int .i64 oh,.int .i64 on] 26)=W3 at*
     clear x0 x1 x2 x3 x4 x5 xl KC2 KX2 HB2
     refine (HO.out W3).mono ?_
     rintro e W4 ⟨sb,k,g,t,mt,cs,rfl,hbo,hb4⟩
     have HB4:=hide (below_via HB3.out hb4 HB3.out.size)
     have HBO:=hide hbo
     have KC4:=hide (Blk.via hb4 KC3.out)
     have KX4:=hide (Blk.via hb4 KX3.out)
     have HG:=hide (show p+2≤g∧w.heap.size≤g∧p+2≤t∧p+2≤mt∧p+2≤k by
      have h1:=HZ3.out
      have h2:=hbo.gN
      have h3:=hbo.kt.tN
      have h4:=hbo.kt.mN
      have h5:=hbo.kN
      have h6:=HB3.out.size
      omega)
     clear hbo hb4 q0 q1 q2 q3 q4 ql KC3 KX3 HB3
     have i0:i<0:=h0
     have HCALL:=hide (show Calls Tryz.prog 9 #[.pointer (some ⟨k,0,none⟩),.int .i64 i,.agg #[.int .i64 oa,.string ok,.slice A m c,.int .i64 ol,.int .i64 oh,.int .i64 on]] W4 _ from call_out k sb g n i _ HHI.out ⟨oa,ok,od,ol,oh,on⟩ _ W4 HBO.out.kk)
     have x0:=KX4.out.cell 0
     have x1:=KX4.out.cell 1
     have x2:=KX4.out.cell 2
     have x3:=KX4.out.cell 3
     have x4:=KX4.out.cell 4
     have x5:=KX4.out.cell 5
     have xl:=KX4.out.lt
     have q3:=KC4.out.cell 3
     have ql:=KC4.out.lt
     go_wp2_with fail
     refine HCALL.out.mono ?_
     rintro e W5 ⟨rfl,hb5⟩
     have KX5:=hide (Blk.via hb5 KX4.out)
     have KK5:=hide (Blk.via hb5 HBO.out.kk)
     have HB5:=hide (below_via HB4.out hb5 HB4.out.size)
     clear hb5 q3 ql HCALL x0 x1 x2 x3 x4 x5 xl
     have HTW:=hide (show Calls Tryz.prog 9 #[.pointer (some ⟨k,0,none⟩),.int .i64 i,.agg #[.int .i64 oa,.string ok,.slice A m c,.int .i64 ol,.int .i64 oh,.int .i64 on]] W5 _ from call_out k sb g n i _ HHI.out ⟨oa,ok,od,ol,oh,on⟩ _ W5 KK5.out)
     have x0:=KX5.out.cell 0
     have x1:=KX5.out.cell 1
     have x2:=KX5.out.cell 2
     have x3:=KX5.out.cell 3
     have x4:=KX5.out.cell 4
     have x5:=KX5.out.cell 5
     have xl:=KX5.out.lt
     go_wp2_with (go_at_call 8;refine (HCD.out _ _).mono ?_;rintro e w' ⟨rfl,hw'⟩;obtain rfl:=hw'.symm)
     refine HTW.out.mono ?_
     rintro e W ⟨rfl,hb6⟩
     have KK6:=hide (Blk.via hb6 KK5.out)
     have HBW:=hide (below_via HB5.out hb6 HB5.out.size)
     have kx:=Blk.via hb6 KX5.out
     clear x0 x1 x2 x3 x4 x5 xl hb6 KX5 KK5 HTW
     have x0:=kx.cell 0
     have x1:=kx.cell 1
     have x2:=kx.cell 2
     have x3:=kx.cell 3
     have x4:=kx.cell 4
     have x5:=kx.cell 5
     have xl:=kx.lt
     clear kx
     have HST:=hide (step_out k sb g n i _ HHI.out W KK6.out)
     have HSO:=hide (state_out k sb g n i _ HHI.out W KK6.out)
     have HTO:=hide (txn_out k sb g n i _ HHI.out W KK6.out)
     go_wp2_with (go_at_call 8;refine (HCD.out _ _).mono ?_;rintro e w' ⟨rfl,hw'⟩;obtain rfl:=hw'.symm)
     refine HST.out.mono ?_
     rintro e w' ⟨rfl,hw'⟩
     obtain rfl:=hw'.symm
     go_wp2_with (first
      |(go_at_call 13;refine HSO.out.mono ?_;rintro e w' ⟨rfl,hw'⟩;obtain rfl:=hw'.symm)
      |(go_at_call 14;refine HTO.out.mono ?_;rintro e w' ⟨rfl,hw'⟩;obtain rfl:=hw'.symm)
      |(go_at_call 8;refine (HCD.out _ _).mono ?_;rintro e w' ⟨rfl,hw'⟩;obtain rfl:=hw'.symm)
      |(go_at_call 10;refine (HSN.out _).mono ?_;rintro e w' ⟨rfl,hw'⟩;obtain rfl:=hw'.symm)
      |(go_at_call 15;refine (map_nil _).mono ?_;rintro e w' ⟨rfl,hw'⟩;obtain rfl:=hw'.symm)
      |(go_at_call 16;refine (check_nil _).mono ?_;rintro e w' ⟨rfl,hw'⟩;obtain rfl:=hw'.symm)
      |(go_at_call 17;refine (dead_nil _).mono ?_;rintro e w' ⟨rfl,hw'⟩;obtain rfl:=hw'.symm)
      |(go_at_call 12;refine (events_nil _).mono ?_;rintro e w' ⟨rfl,hw'⟩;obtain rfl:=hw'.symm)
      |(go_at_call 18;refine (bankNew_nil _).mono ?_;rintro e w' ⟨rfl,hw'⟩;obtain rfl:=hw'.symm)
      |(go_at_call 9;refine (HCN.out _).mono ?_;rintro e w10 ⟨rfl,hb10⟩)
      |(go_at_call 6;refine (HL.out _ (below_via HBW.out hb10 HBW.out.size)).mono ?_;rintro e w11 ⟨rfl,hb11⟩))
     go_ret
     exact ⟨rfl,below_via (below_via HBW.out hb10 HBW.out.size) hb11 (Nat.le_trans HBW.out.size hb10.size)⟩
    ·have hni:(n:Int)≤i:=by have:=HHI.out;omega
     go_enter Tryz.func3,Tryz.ntmps3
     go_upto_region 1 with (fail)
     refine gen2 (R:=fun W=>Code.wp _ _ _ _ W) (fun W1 kc kx hb1 hz1=>?_)
     obtain ⟨p,hp⟩:∃p,p=w.heap.size:=⟨_,rfl⟩
     have HPN:=hide hp
     rw [← hp] at kc kx hz1 ⊢
     have KC1:=hide kc
     have KX1:=hide kx
     have HB1:=hide hb1
     have HPZ:=hide (show p+2≤W1.heap.size from hz1)
     have q0:=kc.cell 0
     have q1:=kc.cell 1
     have q2:=kc.cell 2
     have q3:=kc.cell 3
     have q4:=kc.cell 4
     have ql:=kc.lt
     clear kc kx hb1 hp hz1
     go_wp2_with fail
     refine (HSM.out W1).mono ?_
     rintro e W2 ⟨rfl,hb2⟩
     have HB2:=hide (below_via HB1.out hb2 HB1.out.size)
     have HPZ2:=hide (Nat.le_trans HPZ.out hb2.size)
     have kc2:=Blk.via hb2 KC1.out
     have kx2:=Blk.via hb2 KX1.out
     have KC2:=hide kc2
     have KX2:=hide kx2
     clear hb2 KC1 KX1 HB1 HPZ q0 q1 q2 q3 q4 ql
     have x0:=kx2.cell 0
     have x1:=kx2.cell 1
     have x2:=kx2.cell 2
     have x3:=kx2.cell 3
     have x4:=kx2.cell 4
     have x5:=kx2.cell 5
     have xl:=kx2.lt
     have hb3:Below w.heap.size w (W2.alloc (.cells #[.int .i64 oa,.string ok,.slice A m c,.int .i64 ol,.int .i64 oh,.int .i64 on] 26)):=HB2.out.alloc HB2.out.size _
     have kc3:=kc2.alloc (.cells #[.int .i64 oa,.string ok,.slice A m c,.int .i64 ol,.int .i64 oh,.int .i64 on] 26)
     have kx3:=kx2.alloc (.cells #[.int .i64 oa,.string ok,.slice A m c,.int .i64 ol,.int .i64 oh,.int .i64 on] 26)
     have hz3:p+2≤(W2.alloc (.cells #[.int .i64 oa,.string ok,.slice A m c,.int .i64 ol,.int .i64 oh,.int .i64 on] 26)).heap.size:=by have:=HPZ2.out;simp;omega
     have HB3:=hide hb3
     have KC3:=hide kc3
     have KX3:=hide kx3
     have HZ3:=hide hz3
     clear hb3 kc3 kx3 hz3 kc2 kx2
     have q0:=KC3.out.cell 0
     have q1:=KC3.out.cell 1
     have q2:=KC3.out.cell 2
     have q3:=KC3.out.cell 3
     have q4:=KC3.out.cell 4
     have ql:=KC3.out.lt
     go_wp2_with (go_at_call 5;refine (HM.out _ _ (Blk.new W2 _ _)).mono ?_;rintro e w' ⟨rfl,hw'⟩;obtain rfl:=hw'.symm)
     generalize W2.alloc (.cells #[.int .i64 oa,.string ok,.slice A m c,.int .i64 ol,.int .i64 oh,.int .i64 on] 26)=W3 at*
     clear x0 x1 x2 x3 x4 x5 xl KC2 KX2 HB2
     refine (HO.out W3).mono ?_
     rintro e W4 ⟨sb,k,g,t,mt,cs,rfl,hbo,hb4⟩
     have HB4:=hide (below_via HB3.out hb4 HB3.out.size)
     have HBO:=hide hbo
     have KC4:=hide (Blk.via hb4 KC3.out)
     have KX4:=hide (Blk.via hb4 KX3.out)
     have HG:=hide (show p+2≤g∧w.heap.size≤g∧p+2≤t∧p+2≤mt∧p+2≤k by
      have h1:=HZ3.out
      have h2:=hbo.gN
      have h3:=hbo.kt.tN
      have h4:=hbo.kt.mN
      have h5:=hbo.kN
      have h6:=HB3.out.size
      omega)
     clear hbo hb4 q0 q1 q2 q3 q4 ql KC3 KX3 HB3
     have i0:¬i<0:=by omega
     have i0':(0:Int)≤i:=by omega
     have i1:¬i<n:=by omega
     have HCALL:=hide (show Calls Tryz.prog 9 #[.pointer (some ⟨k,0,none⟩),.int .i64 i,.agg #[.int .i64 oa,.string ok,.slice A m c,.int .i64 ol,.int .i64 oh,.int .i64 on]] W4 _ from call_out k sb g n i _ HHI.out ⟨oa,ok,od,ol,oh,on⟩ _ W4 HBO.out.kk)
     have x0:=KX4.out.cell 0
     have x1:=KX4.out.cell 1
     have x2:=KX4.out.cell 2
     have x3:=KX4.out.cell 3
     have x4:=KX4.out.cell 4
     have x5:=KX4.out.cell 5
     have xl:=KX4.out.lt
     have q3:=KC4.out.cell 3
     have ql:=KC4.out.lt
     go_wp2_with fail
     refine HCALL.out.mono ?_
     rintro e W5 ⟨rfl,hb5⟩
     have KX5:=hide (Blk.via hb5 KX4.out)
     have KK5:=hide (Blk.via hb5 HBO.out.kk)
     have HB5:=hide (below_via HB4.out hb5 HB4.out.size)
     clear hb5 q3 ql HCALL x0 x1 x2 x3 x4 x5 xl
     have HTW:=hide (show Calls Tryz.prog 9 #[.pointer (some ⟨k,0,none⟩),.int .i64 i,.agg #[.int .i64 oa,.string ok,.slice A m c,.int .i64 ol,.int .i64 oh,.int .i64 on]] W5 _ from call_out k sb g n i _ HHI.out ⟨oa,ok,od,ol,oh,on⟩ _ W5 KK5.out)
     have x0:=KX5.out.cell 0
     have x1:=KX5.out.cell 1
     have x2:=KX5.out.cell 2
     have x3:=KX5.out.cell 3
     have x4:=KX5.out.cell 4
     have x5:=KX5.out.cell 5
     have xl:=KX5.out.lt
     go_wp2_with (go_at_call 8;refine (HCD.out _ _).mono ?_;rintro e w' ⟨rfl,hw'⟩;obtain rfl:=hw'.symm)
     refine HTW.out.mono ?_
     rintro e W ⟨rfl,hb6⟩
     have KK6:=hide (Blk.via hb6 KK5.out)
     have HBW:=hide (below_via HB5.out hb6 HB5.out.size)
     have kx:=Blk.via hb6 KX5.out
     clear x0 x1 x2 x3 x4 x5 xl hb6 KX5 KK5 HTW
     have x0:=kx.cell 0
     have x1:=kx.cell 1
     have x2:=kx.cell 2
     have x3:=kx.cell 3
     have x4:=kx.cell 4
     have x5:=kx.cell 5
     have xl:=kx.lt
     clear kx
     have HST:=hide (step_out k sb g n i _ HHI.out W KK6.out)
     have HSO:=hide (state_out k sb g n i _ HHI.out W KK6.out)
     have HTO:=hide (txn_out k sb g n i _ HHI.out W KK6.out)
     go_wp2_with (go_at_call 8;refine (HCD.out _ _).mono ?_;rintro e w' ⟨rfl,hw'⟩;obtain rfl:=hw'.symm)
     refine HST.out.mono ?_
     rintro e w' ⟨rfl,hw'⟩
     obtain rfl:=hw'.symm
     go_wp2_with (first
      |(go_at_call 13;refine HSO.out.mono ?_;rintro e w' ⟨rfl,hw'⟩;obtain rfl:=hw'.symm)
      |(go_at_call 14;refine HTO.out.mono ?_;rintro e w' ⟨rfl,hw'⟩;obtain rfl:=hw'.symm)
      |(go_at_call 8;refine (HCD.out _ _).mono ?_;rintro e w' ⟨rfl,hw'⟩;obtain rfl:=hw'.symm)
      |(go_at_call 10;refine (HSN.out _).mono ?_;rintro e w' ⟨rfl,hw'⟩;obtain rfl:=hw'.symm)
      |(go_at_call 15;refine (map_nil _).mono ?_;rintro e w' ⟨rfl,hw'⟩;obtain rfl:=hw'.symm)
      |(go_at_call 16;refine (check_nil _).mono ?_;rintro e w' ⟨rfl,hw'⟩;obtain rfl:=hw'.symm)
      |(go_at_call 17;refine (dead_nil _).mono ?_;rintro e w' ⟨rfl,hw'⟩;obtain rfl:=hw'.symm)
      |(go_at_call 12;refine (events_nil _).mono ?_;rintro e w' ⟨rfl,hw'⟩;obtain rfl:=hw'.symm)
      |(go_at_call 18;refine (bankNew_nil _).mono ?_;rintro e w' ⟨rfl,hw'⟩;obtain rfl:=hw'.symm)
      |(go_at_call 9;refine (HCN.out _).mono ?_;rintro e w10 ⟨rfl,hb10⟩)
      |(go_at_call 6;refine (HL.out _ (below_via HBW.out hb10 HBW.out.size)).mono ?_;rintro e w11 ⟨rfl,hb11⟩))
     go_ret
     exact ⟨rfl,below_via (below_via HBW.out hb10 HBW.out.size) hb11 (Nat.le_trans HBW.out.size hb10.size)⟩
end Go.Proofs.YtnkjkgmohmcobaaGreatDoor
namespace Go.Proofs.YtnkjkgmohmcobaaGreatDoor.Vm
open Go
noncomputable def forceN {α:Type} (x:Nat) (k:Nat→α):α:=Nat.rec (motive:=fun _=>α) (k 0) (fun p _=>k (Nat.succ p)) x
noncomputable def forceI {α:Type} (x:Int) (k:Int→α):α:=
 match x with
 | .ofNat m=>forceN m fun m=>k (.ofNat m)
 | .negSucc m=>forceN m fun m=>k (.negSucc m)
inductive AV where
 |int (k:IntKind) (n:Int)
 |bool (b:Bool)
 |str (s:ByteArray)
 |nilp
 |ptr (n off:Nat)
 |nilslice
 |slice (n off len:Nat) (cap:Option Nat) (es:Nat)
 |empty
 |nilmap
 |map (n:Nat)
 |nilfunc
 |func (fn:FuncId) (first cap:List AV)
 |yield (n:Nat)
 |niliface
 |iface (t:TypeId) (v:AV)
 |agg (cs:List AV)
 |tuple (vs:List AV)
 |bytes (len n:Nat)
 |any
 |but (k:IntKind) (l:List Int)
 deriving Inhabited
inductive Tr (α:Type) where
 |nil
 |node (l:Tr α) (v:Option α) (r:Tr α)
namespace Tr
variable {α:Type}
noncomputable def get (t:Tr α):Nat→Option α:=
 Tr.rec (motive:=fun _=>Nat→Option α) (fun _=>none)
  (fun _ v _ gl gr n=>Bool.rec (Bool.rec (gr (Nat.sub (Nat.div n 2) 1)) (gl (Nat.div n 2)) (Nat.beq (Nat.mod n 2) 1)) v (Nat.beq n 0)) t
noncomputable def put1 (f:Nat):Nat→Option α→Tr α:=
 Nat.rec (motive:=fun _=>Nat→Option α→Tr α) (fun _ _=> .nil)
  (fun _ ih n x=>Bool.rec (Bool.rec (.node .nil none (ih (Nat.sub (Nat.div n 2) 1) x)) (.node (ih (Nat.div n 2) x) none .nil) (Nat.beq (Nat.mod n 2) 1)) (.node .nil x .nil) (Nat.beq n 0)) f
noncomputable def put (t:Tr α):Nat→Option α→Tr α:=
 Tr.rec (motive:=fun _=>Nat→Option α→Tr α) (fun n x=>put1 (Nat.succ n) n x)
  (fun l v r pl pr n x=>Bool.rec (Bool.rec (.node l v (pr (Nat.sub (Nat.div n 2) 1) x)) (.node (pl (Nat.div n 2) x) v r) (Nat.beq (Nat.mod n 2) 1)) (.node l x r) (Nat.beq n 0)) t
end Tr
inductive ADef where
 |fn (f:FuncId) (args cap:List AV)
 |mark (n:Nat)
def tabL:List Bool:=[true,false,false,false,false,false,false,false,false,false,true,true,false,false,true,true]
inductive AObj where
 |row (elem:TypeId) (cs:List AV)
 |map (es:List (AV × AV × Nat)) (clock:Nat)
 |iter (m:Option Nat) (since:Nat) (seen:List Nat) (last:Nat)
 |siter (s:ByteArray) (pos:Nat)
 |loop (st:LoopState) (pend:Option Code) (t:Tr AV) (n:Nat) (params:List Tmp) (assign body:Code) (dn:Nat)
 |defs (ds:Option (List ADef))
 |glob (g:Nat) (o:Obj)
abbrev TS:=List (Nat × Nat)
noncomputable def addT:TS→Nat→Nat→TS
 |[],c,b=>[(c,b)]
 |x::r,c,b=>
  match x with
  |(c',m)=>bif Nat.beq c c' then forceN (Nat.lor m b) fun m=>(c',m)::r else (c',m)::addT r c b
noncomputable def TS.add (t:TS) (n:Nat):TS:=addT t (Nat.div n 256) (Nat.shiftLeft 1 (Nat.mod n 256))
def meets1 (c m:Nat):TS→Bool
 |[]=>false
 |x::r=>
  match x with
  |(c',m')=>bif Nat.beq c c' then !(Nat.beq (Nat.land m m') 0) || meets1 c m r else meets1 c m r
def meets:TS→TS→Bool
 |[],_=>false
 |x::r,t=>
  match x with
  |(c,m)=>meets1 c m t || meets r t
noncomputable def TS.or:TS→TS→TS
 |[],t=>t
 |x::r,t=>
  match x with
  |(c,m)=>addT (TS.or r t) c m
inductive St where
 |mk (h:Tr AObj) (c:Nat) (r w:TS)
def St.h:St→Tr AObj| .mk h _ _ _=>h
def St.c:St→Nat| .mk _ c _ _=>c
def St.r:St→TS| .mk _ _ r _=>r
def St.w:St→TS| .mk _ _ _ w=>w
inductive Rs (α:Type) where
 |ok (a:α) (s:St)
 |err (m:String)
def M (α:Type):=St→Rs α
namespace M
variable {α β:Type}
def pure (a:α):M α:=fun s=> .ok a s
def fail (m:String):M α:=fun _=> .err m
noncomputable def bind (m:M α) (k:α→M β):M β:=fun s=>Rs.rec (motive:=fun _=>Rs β) k (fun e=> .err e) (m s)
noncomputable def of (o:Option α) (m:String):M α:=fun s=>Option.rec (motive:=fun _=>Rs α) (.err m) (fun a=> .ok a s) o
end M
noncomputable def getM (n:Nat):M AObj:=fun s=>
 match s with
 | .mk h c r w=>bif Nat.ble c n then .err "get: beyond" else
  match h.get n with
  |some o=> .ok o (.mk h c (r.add n) w)
  |none=> .err "get: nothing there"
noncomputable def setM (n:Nat) (o:Option AObj):M Unit:=fun s=>
 match s with
 | .mk h c r w=>bif Nat.ble c n then .err "set: beyond" else .ok () (.mk (h.put n o) c r (w.add n))
noncomputable def newM (o:AObj):M Nat:=fun s=>
 match s with
 | .mk h c r w=>forceN (Nat.succ c) fun c'=> .ok c (.mk (h.put c (some o)) c' r (w.add c))
noncomputable def touched {α:Type} (m:M α):M (α × TS × TS):=fun s=>
 match s with
 | .mk h c r w=>
  match m (.mk h c [] []) with
  | .ok a s'=>
   match s' with
   | .mk h' c' r' w'=> .ok (a,r',w') (.mk h' c' (TS.or r' r) (TS.or w' w))
  | .err e=> .err e
def isB:AV→Option (Nat × Nat)
 | .bytes l n=>some (l,n)
 |_=>none
def lenC:List AV→Nat
 |[]=>0
 |a::r=>(match isB a with|some (l,_)=>l|none=>1)+lenC r
def splitC:List AV→Nat→Option (List AV × List AV)
 |[],k=>bif Nat.beq k 0 then some ([],[]) else none
 |a::r,k=>
  bif Nat.beq k 0 then some ([],a::r) else
  match isB a with
  |some (l,n)=>
   bif Nat.ble l k then
    match splitC r (Nat.sub k l) with
    |some (x,y)=>some (a::x,y)
    |none=>none
   else some ([.bytes k (Nat.mod n (Nat.pow 2 (Nat.mul 8 k)))],.bytes (Nat.sub l k) (Nat.shiftRight n (Nat.mul 8 k))::r)
  |none=>
   match splitC r (Nat.sub k 1) with
   |some (x,y)=>some (a::x,y)
   |none=>none
noncomputable def joinB (l n:Nat):List AV→List AV
 |[]=>[.bytes l n]
 |b::r=>
  match isB b with
  |some (l2,n2)=>forceN (Nat.add l l2) fun l3=>forceN (Nat.add n (Nat.shiftLeft n2 (Nat.mul 8 l))) fun n3=> .bytes l3 n3::r
  |none=> .bytes l n::b::r
noncomputable def joinC:List AV→List AV→List AV
 |[],y=>y
 |a::r,y=>
  match r with
  |[]=>match isB a with
   |some (l,n)=>joinB l n y
   |none=>a::y
  |_::_=>a::joinC r y
def byteOf:Int→Option Nat
 | .ofNat n=>bif Nat.ble n 255 then some n else none
 | .negSucc _=>none
def isU8:IntKind→Bool
 | .u8=>true
 |_=>false
def cellsO (v:AV):Option (List AV):=
 match v with
 | .agg cs=>some cs
 | .int k n=>bif isU8 k then (match byteOf n with|some b=>some [.bytes 1 b]|none=>none) else some [v]
 | .tuple _=>none
 | .bytes _ _=>none
 | .any=>none
 | .but _ _=>none
 |_=>some [v]
def oneA:List AV→Option AV
 |[a]=>
  match isB a with
  |some (l,n)=>bif Nat.beq l 1 then some (.int .u8 (.ofNat n)) else none
  |none=>some a
 |_=>none
def loadC (cs:List AV) (off k:Nat):Option (List AV):=
 match splitC cs off with
 |some (_,y)=>
  match splitC y k with
  |some (z,_)=>some z
  |none=>none
 |none=>none
noncomputable def storeC (cs:List AV) (off k:Nat) (new:List AV):Option (List AV):=
 match splitC cs off with
 |some (x,y)=>
  match splitC y k with
  |some (_,z)=>some (joinC x (joinC new z))
  |none=>none
 |none=>none
inductive TyD where
 |int (k:IntKind)
 |bool
 |str
 |ptr (elem:TypeId)
 |slice (elem:TypeId)
 |arr (len:Nat) (elem:TypeId)
 |struct (fields:List (Nat × TypeId))
 |map (key elem:TypeId)
 |fn
 |ifc
 |other
structure TyI where
 agg:Bool
 size:Nat
 bytes:Nat
 zero:AV
 zc:List AV
 desc:TyD
 flat:Bool
inductive AAct where
 |mk (t:Tr AV) (n:Nat) (d:List ADef)
def AAct.t:AAct→Tr AV| .mk t _ _=>t
def AAct.n:AAct→Nat| .mk _ n _=>n
def AAct.d:AAct→List ADef| .mk _ _ d=>d
inductive AExit where
 |normal
 |exit (id:Nat)
 |ret
structure Env where
 ty:Tr TyI
 fn:Tr Func
 meth:List (TypeId × String × FuncId)
 orc:Tr (List AV→M AV)
 calm:List FuncId
def undefA:AV:= .tuple []
def constA:Value→Option AV
 | .int k n=>some (.int k n)
 | .bool b=>some (.bool b)
 | .string s=>some (.str s)
 | .pointer none=>some .nilp
 | .slice none 0 0=>some .nilslice
 | .map none=>some .nilmap
 | .nilFunc=>some .nilfunc
 | .nilIface=>some .niliface
 |_=>none
inductive Opd where
 |slot (t:Nat)
 |val (v:AV)
 |no
def opd:Operand→Opd
 | .tmp t=> .slot t
 | .const v=>match constA v with
  |some a=> .val a
  |none=> .no
 | .global _=> .no
 | .func f=> .val (.func f [] [])
noncomputable def slotA (T:Tr AV) (t:Nat):AV:=Option.rec (motive:=fun _=>AV) undefA (fun v=>v) (T.get t)
noncomputable def rd (T:Tr AV) (x:Opd):M AV:=fun s=>Opd.rec (motive:=fun _=>Rs AV) (fun t=> .ok (slotA T t) s) (fun v=> .ok v s) (.err "operand") x
def opds:List Operand→List Opd
 |[]=>[]
 |x::r=>opd x::opds r
noncomputable def rds (T:Tr AV):List Opd→M (List AV)
 |[]=>M.pure []
 |x::r=>M.bind (rd T x) fun v=>M.bind (rds T r) fun vs=>M.pure (v::vs)
end Go.Proofs.YtnkjkgmohmcobaaGreatDoor.Vm
