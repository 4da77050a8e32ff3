/-
  Texts of this claim, joined: ET, DR, DX, EA, EB, EC, EV, EH, EW0, JN, JQ.
-/
import Derived.Test.YtnkjkgmohmcobaaGreatDoorBc09
set_option maxHeartbeats 6400000
set_option maxRecDepth 100000
namespace Go.Proofs.YtnkjkgmohmcobaaGreatDoor
open Go.RowKit Go.Maps
def fmtU (x:ConfD) (no:Nat):List UInt8:=if no=0 then metaPg x else withB zPg 12 2 (no:Nat)
theorem metaPg_length (x:ConfD):(metaPg x).length=512:=withB_length (withB_length (withB_length zPg_length (by omega) _) (by omega) _) (by omega) _
theorem fmtU_length (x:ConfD) (no:Nat):(fmtU x no).length=512:=by
 unfold fmtU
 split
 ·exact metaPg_length x
 ·exact withB_length zPg_length (by omega) _
def wrQ (x:ConfD) (j:Nat):Nat→List (List UInt8):=fun no=>if no<j then [sealB (fmtU x no)] else []
theorem wrQ_next (x:ConfD) (j:Nat):(fun no=>if no=j then wrQ x j j++[sealB (fmtU x j)] else wrQ x j no)=wrQ x (j+1):=by
 funext no
 unfold wrQ
 by_cases h:no=j
 ·subst h
  rw [if_pos rfl,if_neg (by omega),if_pos (by omega)]
  rfl
 ·rw [if_neg h]
  by_cases h1:no<j
  ·rw [if_pos h1,if_pos (by omega)]
  ·rw [if_neg h1,if_neg (by omega)]
theorem wrQ_len (x:ConfD) (j no:Nat):(wrQ x j no).length≤1:=by
 unfold wrQ
 split
 ·exact Nat.le_refl _
 ·exact Nat.zero_le _
def DGM (d g m q:Nat):Prop:=q=d∨q=g∨q=m
theorem Turn.into {S S':Nat→Prop} {a b c:World} (h:Turn S a b) (k:Turn S' b c) (hS:∀q,S' q→S q∨a.heap.size≤q):Turn S a c:=
 ⟨k.os.trans h.os,k.tape.trans h.tape,k.output.trans h.output,Nat.le_trans h.size k.size,fun q hq hn=>(k.block q (Nat.lt_of_lt_of_le hq h.size) (fun hs=>by
  rcases hS q hs with e|e
  ·exact hn e
  ·omega)).trans (h.block q hq hn)⟩
theorem DevS.otherF {w:World} {d g m n:Nat} {fs:Bool} {fuse:Int} {lv:Value} {stale head sure:Int} {safe:List (List UInt8)} {k:Nat} {mf:Int→Option Value} {wr:Nat→List (List UInt8)} (h:DevS w d g m n fs fuse lv stale head sure safe k mf wr) {q:Nat} {t:TypeId} {cur:Array Value} (k':Blk w q t cur) (h1:t≠113) (h2:t≠116):¬DevB d g m mf q:=by
 obtain ⟨o,kd⟩:=h.kd
 rintro (e|e|e|⟨i,e⟩)
 ·exact k'.ne_ kd h1 e
 ·exact k'.ne_ h.kg h2 e
 ·exact h.hm.ne k' e
 ·obtain ⟨cur2,e2⟩:=row_obj (h.fw i) e
  exact k'.ne_ (show Blk w q 116 cur2 from e2) h2 rfl
theorem Turn.setRowT (w:World) (g:Nat) (cs:Array Value):Turn (fun q=>q=g) w (w.setRow g cs):=
 have t:=touch_setRow w g cs
 ⟨t.os,t.tape,t.output,Nat.le_of_eq t.size.symm,fun k _ hn=>t.block k (by rcases Nat.lt_trichotomy k g with h|h|h;exact .inl h;exact absurd h hn;exact .inr h)⟩
theorem metaFormat_any (x:ConfD) (hx:confOk x=true) (w:World) (d g m n:Nat) (fuse:Int) (stale head sure:Int) (lv:Value) (safe:List (List UInt8)) (k0:Nat) (hk0:k0≤1000) (h:DevS w d g m n false fuse lv stale head sure safe k0 (fun _=>none) (fun _=>[])) (hp:x.p≤n) (hn:n≤1024):
  Calls Tryz.prog 30 #[.pointer (some ⟨d,0,none⟩),confV x] w fun e w'=>e= .returned (.int .i64 0)∧DevS w' d g m n false fuse lv stale head sure (safeN safe (wrQ x (x.b.toNat+1))) 0 (fun _=>none) (fun _=>[])∧Turn (DGM d g m) w w':=by
 have hx2:=of_decide_eq_true (show decide _=true from hx)
 obtain ⟨xb,xp,xf,xc,xl⟩:=x
 dsimp only at hx2 hp
 obtain ⟨b,rfl⟩:∃b:Nat,xb=b:=⟨xb.toNat,by omega⟩
 have hb1:1≤b:=by omega
 have hb16:b≤16:=by omega
 have hbp:(b:Int)<xp:=by omega
 have HCK:=hide (fun W=>metaCheck_any ⟨b,xp,xf,xc,xl⟩ W)
 have HMN0:=hide (fun W=>metaNew_any ⟨b,xp,xf,xc,xl⟩ hx W)
 have hce:confE ⟨b,xp,xf,xc,xl⟩=0:=by unfold confE;rw [if_pos hx]
 rw [hce] at HCK
 have HS:=hide h
 rw [show (⟨(b:Int),xp,xf,xc,xl⟩:ConfD).b.toNat=b from Int.toNat_natCast b]
 clear h hx hx2 hce
 unfold confV at*
 dsimp only at*
 go_enter Tryz.func30,Tryz.ntmps30
 go_upto_region 1 with (fail)
 refine gen1 (R:=fun W=>Code.wp _ _ _ _ W) (fun W1 kc hbb hzz=>?_)
 obtain ⟨gc,hgc⟩:∃g,g=w.heap.size:=⟨_,rfl⟩
 rw [← hgc] at kc ⊢
 have KC1:=hide kc
 have HT1:=hide (Turn.of_below (S:=DGM d g m) hbb)
 have HS1:=hide (HS.out.via hbb)
 clear kc hbb hzz hgc HS
 have q0:W1.cell? ⟨gc,0,none⟩=some (.int .i64 b):=KC1.out.cell 0
 have q1:W1.cell? ⟨gc,1,none⟩=some (.int .i64 xp):=KC1.out.cell 1
 have q2:W1.cell? ⟨gc,2,none⟩=some (.int .i64 xf):=KC1.out.cell 2
 have q3:W1.cell? ⟨gc,3,none⟩=some (.int .i64 xc):=KC1.out.cell 3
 have q4:W1.cell? ⟨gc,4,none⟩=some (.int .i64 xl):=KC1.out.cell 4
 have ql:=KC1.out.lt
 go_upto_region 5 with (go_at_call 51;refine (HCK.out _).mono ?_;rintro e W2 ⟨rfl,hb2⟩)
 have KC2:=hide (Blk.via hb2 KC1.out)
 have HT2:=hide (HT1.out.into (Turn.of_below (S:=fun _=>False) hb2) (fun _ e=>e.elim))
 have HS2:=hide (HS1.out.via hb2)
 clear hb2 q0 q1 q2 q3 q4 ql KC1 HT1 HS1
 go_cut [17] from 13 to 17 (fun s17 wx=>s17= .bool false∧Below W2.heap.size W2 wx)
 case first=>
  refine wp_region_inv [fun v _=>v= .pointer (some ⟨d,0,none⟩),fun v _=>v= .int .i64 n,fun v _=>v= .pointer (some ⟨gc,1,none⟩),fun v _=>v= .int .i64 xp,fun v _=>v= .bool (decide ((n:Int)<xp))] (by kernel_rfl) (by kernel_rfl) (by kernel_rfl) ?st ?steps ?fin
  case st=>
   intro i v W W' hWW h
   match i with
   |0|1|2|3|4=>exact h
   |(i+5)=>exact h
  case steps=>
   simp only [stepsI]
   refine ⟨?_,?_,?_,?_,?_,trivial⟩
   ·intro f W hbW hdp
    simp only [fS,Nat.reduceAdd]
    go_wp2
    exact ⟨rfl,_,rfl,rfl,Below.refl _ _⟩
   ·intro f W hbW hdp
    have e0:f 0= .pointer (some ⟨d,0,none⟩):=hdp ⟨0,.data⟩ (mfl (by simp) rfl)
    simp only [fS,Nat.reduceAdd,e0]
    obtain ⟨o,kd⟩:=(HS2.out.via hbW).kd
    have HP:=hide (devPages_any d _ n _ _ _ _ _ _ _ _ W kd)
    clear kd
    go_wp2_with fail
    refine HP.out.mono ?_
    rintro e w' ⟨rfl,hw'⟩
    obtain rfl:=hw'.symm
    go_wp2
    exact ⟨rfl,_,rfl,rfl,Below.refl _ _⟩
   ·intro f W hbW hdp
    simp only [fS,Nat.reduceAdd]
    go_wp2
    exact ⟨rfl,_,rfl,rfl,Below.refl _ _⟩
   ·intro f W hbW hdp
    have e2:f 2= .pointer (some ⟨gc,1,none⟩):=hdp ⟨2,.data⟩ (mfl (by simp) rfl)
    have q:W.cell? ⟨gc,1,none⟩=some (.int .i64 xp):=(Blk.via hbW KC2.out).cell 1
    simp only [fS,Nat.reduceAdd,e2]
    go_wp2
    exact ⟨rfl,_,rfl,rfl,Below.refl _ _⟩
   ·intro f W hbW hdp
    have e1:f 1= .int .i64 n:=hdp ⟨1,.data⟩ (mfl (by simp) rfl)
    have e3:f 3= .int .i64 xp:=hdp ⟨3,.data⟩ (mfl (by simp) rfl)
    simp only [fS,Nat.reduceAdd,e1,e3]
    go_wp2
    exact ⟨rfl,_,rfl,rfl,Below.refl _ _⟩
  case fin=>
   intro f W hbW hA
   have e4:f 4= .bool (decide ((n:Int)<xp)):=hA 4 (by simp)
   show wpList Tryz.prog #[] (Exit.then _ _) [] _ _
   simp only [fS,Nat.reduceAdd,e4]
   clear hA e4
   have hd:decide ((n:Int)<xp)=false:=by simpa using hp
   rw [hd]
   go_wp2
   go_meet
   exact ⟨rfl,hbW⟩
 case rest=>
  obtain ⟨rfl,hb3⟩:=hcut
  rename World=>W3
  have KC3:=hide (Blk.via hb3 KC2.out)
  have HT3:=hide (HT2.out.into (Turn.of_below (S:=fun _=>False) hb3) (fun _ e=>e.elim))
  have HS3:=hide (HS2.out.via hb3)
  clear hb3 KC2 HT2 HS2
  have q0:W3.cell? ⟨gc,0,none⟩=some (.int .i64 b):=KC3.out.cell 0
  have ql:=KC3.out.lt
  have HD3:=hide (show ∀q,DevB d g m (fun _=>none) q→DGM d g m q∨w.heap.size≤q from by
   rintro q (h|h|h|⟨i,h⟩)
   ·exact .inl (.inl h)
   ·exact .inl (.inr (.inl h))
   ·exact .inl (.inr (.inr h))
   ·cases h)
  have HS3':=hide (show DevS W3 d g m n false fuse lv stale head sure safe k0 (fun _=>none) (wrQ ⟨b,xp,xf,xc,xl⟩ 0) from HS3.out)
  clear HS3
  go_wp2
  go_loopw [21] (fun i wr=>∃(j k2:Nat) (mf:Int→Option Value),j≤b+1∧k2≤k0+j∧i= .int .i64 j∧Hid (DevS wr d g m n false fuse lv stale head sure safe k2 mf (wrQ ⟨b,xp,xf,xc,xl⟩ j))∧Hid (∀p v,mf p=some v→∃i:Nat,p=(i:Int)∧i<j)∧Hid (∀q,DevB d g m mf q→DGM d g m q∨w.heap.size≤q)∧Hid (Blk wr gc 23 #[.int .i64 b,.int .i64 xp,.int .i64 xf,.int .i64 xc,.int .i64 xl])∧Hid (Turn (DGM d g m) w wr)) (fun i _=>b+1-(intOf i).toNat)
  case atStart=>exact ⟨0,k0,_,Nat.zero_le _,Nat.le_refl _,rfl,HS3',hide (fun p v hp=>by cases hp),HD3,KC3,HT3⟩
  case round=>
   obtain ⟨j,k2,mf,hj,hk2,rfl,HSr,HM,HD,HC,HT⟩:=hrel
   clear q0 ql
   by_cases hlt:j<b+1
   ·have t1:(j:Int)<(b:Int)+1:=by omega
    have hl0:=withB_length zPg_length (at_:=12) (width:=2) (by omega) (j:Nat)
    obtain ⟨Y,hY⟩:∃Y,Y=((withB zPg 12 2 (j:Nat)).map byteV).toArray:=⟨_,rfl⟩
    have HN:=hide (fun W=>pNew_any (j:Nat) W)
    unfold pgV at HN
    rw [← hY] at HN
    have HPI:=hide (show (Tryz.prog.info? 116).map (·.size)=some Y.size by rw [hY,pg_size _ hl0];exact info_pg)
    have HXZ:=hide (show Tryz.zeroCells116.size=Y.size by rw [hY,pg_size _ hl0];exact zeros_page)
    have HX1:=hide (show Y.all (·.oneCell')=true by rw [hY];exact row_one _)
    have HY:=hide hY
    clear hl0 hY
    go_wp2_with fail
    refine (HN.out wr).mono ?_
    rintro e W4 ⟨rfl,hb4⟩
    have HT4:=hide (HT.out.into (Turn.of_below (S:=fun _=>False) hb4) (fun _ e=>e.elim))
    have HS4:=hide (HSr.out.via hb4)
    have HC4:=hide (Blk.via hb4 HC.out)
    clear hb4
    go_upto_region 11 with (refine wpList_store_row rfl 116 (.tmp 6) (.tmp 25) rfl W4.heap.size Y rfl rfl 116 _ (Blk.new W4 _ _) HPI.out HXZ.out HX1.out ?_)
    refine nameW (R:=fun W=>Code.wp _ _ _ _ W) (fun W5 hW5=>?_)
    have kp5:Blk W5 W4.heap.size 116 Y:=hW5▸setRow_heap _ W4.heap.size _ _ _ _ (Blk.new W4 _ _)
    have hb5:Below W4.heap.size W4 W5:=hW5▸(touch_setRow _ W4.heap.size Y).below ((Below.refl W4.heap.size W4).alloc (Nat.le_refl _) _) (Nat.le_refl _)
    have hgpw:w.heap.size≤W4.heap.size:=HT4.out.size
    have HND:=hide (show ∀q,DevB d g m mf q→q≠W4.heap.size from fun q hq e=>by have:=HS4.out.lt q hq;omega)
    obtain ⟨gp,hgp⟩:∃gp,gp=W4.heap.size:=⟨_,rfl⟩
    rw [← hgp] at kp5 hgpw HND ⊢
    have KP5:=hide kp5
    have HT5:=hide (HT4.out.into (Turn.of_below (S:=fun _=>False) hb5) (fun _ e=>e.elim))
    have HS5:=hide (HS4.out.via hb5)
    have HC5:=hide (Blk.via hb5 HC4.out)
    clear hW5 kp5 hb5 hgp HT4 HS4 HC4 HT HSr HC HN
    by_cases hj0:j=0
    ·obtain ⟨Z,hZ⟩:∃Z,Z=((metaPg ⟨b,xp,xf,xc,xl⟩).map byteV).toArray:=⟨_,rfl⟩
     have hlm:=metaPg_length ⟨b,xp,xf,xc,xl⟩
     have HPZ:=hide (show (Tryz.prog.info? 116).map (·.size)=some Z.size by rw [hZ,pg_size _ hlm];exact info_pg)
     have HYZ:=hide (show Y.size=Z.size by have h1:=HPI.out;rw [HPZ.out] at h1;injection h1 with h1;exact h1.symm)
     have HZ1:=hide (show Z.all (·.oneCell')=true by rw [hZ];exact row_one _)
     have HXF:=hide (show pgV (fmtU ⟨b,xp,xf,xc,xl⟩ j)= .agg Z by unfold fmtU pgV;rw [if_pos hj0,hZ])
     have HMZ:=hide (fun W=>(HMN0.out W).mono (R':=fun e w'=>e= .returned (.agg Z)∧Below W.heap.size W w') (by rw [hZ];exact fun _ _ h=>h))
     have t2:(j:Int)=0:=by omega
     subst hj0
     clear hlm hZ t2
     have q0:W5.cell? ⟨gc,0,none⟩=some (.int .i64 b):=HC5.out.cell 0
     have q1:W5.cell? ⟨gc,1,none⟩=some (.int .i64 xp):=HC5.out.cell 1
     have q2:W5.cell? ⟨gc,2,none⟩=some (.int .i64 xf):=HC5.out.cell 2
     have q3:W5.cell? ⟨gc,3,none⟩=some (.int .i64 xc):=HC5.out.cell 3
     have q4:W5.cell? ⟨gc,4,none⟩=some (.int .i64 xl):=HC5.out.cell 4
     have ql:=HC5.out.lt
     go_upto_region 13 with (first
      |(go_at_call 54;refine (HMZ.out _).mono ?_;rintro e Wm ⟨rfl,hbm⟩)
      |(refine wpList_store_row rfl 116 (.tmp 6) (.tmp 29) rfl gp Z rfl rfl 116 _ (Blk.via hbm KP5.out) HPZ.out HYZ.out HZ1.out ?_))
     refine nameW (R:=fun W=>Code.wp _ _ _ _ W) (fun W8 hW8=>?_)
     have kp8:Blk W8 gp 116 Z:=hW8▸setRow_heap _ gp _ _ _ _ (Blk.via hbm KP5.out)
     have ht8:Turn (fun q=>q=gp) Wm W8:=hW8▸Turn.setRowT Wm gp Z
     have KP8:=hide kp8
     have HT8:=hide ((HT5.out.into (Turn.of_below (S:=fun _=>False) hbm) (fun _ e=>e.elim)).into ht8 (fun q e=> .inr (by rw [e];exact hgpw)))
     have HS8:=hide ((HS5.out.via hbm).keep ht8 (fun q hq e=>HND.out q hq e))
     have HC8:=hide (ht8.blk (Blk.via hbm HC5.out) ((Blk.via hbm HC5.out).ne_ (Blk.via hbm KP5.out) (by decide)))
     have hsz:=HYZ.out
     have HPI:=HPZ
     clear hW8 kp8 ht8 hbm q0 q1 q2 q3 q4 ql KP5 HT5 HS5 HC5 hsz
     have hul:=fmtU_length ⟨b,xp,xf,xc,xl⟩ 0
     have hsl:=sealB_length hul
     have HSE:=hide (fun W=>pSeal_any (fmtU ⟨b,xp,xf,xc,xl⟩ 0) hul W)
     rw [HXF.out] at HSE
     unfold pgV at HSE
     go_wp2_with (refine wpList_load_row rfl 116 (.tmp 6) rfl gp rfl 116 Z (0,0) _ (KP8).out Tryz.underlying116 rfl HPI.out ?_)
     refine (HSE.out _).mono ?_
     rintro e W6 ⟨rfl,hb6⟩
     have HT6:=hide ((HT8).out.into (Turn.of_below (S:=fun _=>False) hb6) (fun _ e=>e.elim))
     have HS6:=hide ((HS8).out.via hb6)
     have HC6:=hide (Blk.via hb6 (HC8).out)
     have HWR:=hide (show Calls Tryz.prog 55 #[.pointer (some ⟨d,0,none⟩),(.int .i64 0),pgV (sealB (fmtU ⟨b,xp,xf,xc,xl⟩ 0))] W6 _ from devWrite_any W6 d g m n _ _ _ _ _ k2 mf _ 0 (sealB (fmtU ⟨b,xp,xf,xc,xl⟩ 0)) fuse HS6.out (by omega) (by omega) (by omega) (by have:=wrQ_len ⟨b,xp,xf,xc,xl⟩ 0 0;omega) hsl)
     unfold pgV at HWR
     clear hb6 hul hsl HSE
     go_wp2_with fail
     refine HWR.out.mono ?_
     rintro e W7 ⟨rfl,v7,hs7,ht7,hloc7⟩
     rw [wrQ_next] at hs7
     have HDN:=hide (fun q hq=>(show DGM d g m q∨w.heap.size≤q from by
      rcases WroteP.blocks hloc7 q hq with h|h
      ·exact HD.out q h
      ·exact .inr (Nat.le_trans HT6.out.size h)))
     have HTN:=hide (HT6.out.into ht7 HD.out)
     have HCN:=hide (ht7.blk HC6.out (HS6.out.otherF HC6.out (by decide) (by decide)))
     have HSN:=hide hs7
     have HMN:=hide (show ∀p v,(fun q=>if q=((0:Nat):Int) then some v7 else mf q) p=some v→∃i:Nat,p=(i:Int)∧i<0+1 from fun p v hp=>by
      dsimp only at hp
      by_cases hpj:p=((0:Nat):Int)
      ·exact ⟨0,hpj,by omega⟩
      ·rw [if_neg hpj] at hp
       obtain ⟨i,h1,h2⟩:=HM.out p v hp
       exact ⟨i,h1,by omega⟩)
     clear hs7 ht7 hloc7 HWR HS6 HC6 HT6
     go_wp2
     go_roundw
     case rel=>exact ⟨0+1,k2+1,_,by omega,by omega,by go_num,HSN,HMN,HDN,HCN,HTN⟩
     case measure=>first|(simp [intOf];done)|(simp [intOf];omega)
    ·have HXF:=hide (show pgV (fmtU ⟨b,xp,xf,xc,xl⟩ j)= .agg Y by unfold fmtU pgV;rw [if_neg hj0,HY.out])
     have t2:¬(j:Int)=0:=by omega
     go_upto_region 13 with (fail)
     have hul:=fmtU_length ⟨b,xp,xf,xc,xl⟩ j
     have hsl:=sealB_length hul
     have HSE:=hide (fun W=>pSeal_any (fmtU ⟨b,xp,xf,xc,xl⟩ j) hul W)
     rw [HXF.out] at HSE
     unfold pgV at HSE
     go_wp2_with (refine wpList_load_row rfl 116 (.tmp 6) rfl gp rfl 116 Y (0,0) _ (KP5).out Tryz.underlying116 rfl HPI.out ?_)
     refine (HSE.out _).mono ?_
     rintro e W6 ⟨rfl,hb6⟩
     have HT6:=hide ((HT5).out.into (Turn.of_below (S:=fun _=>False) hb6) (fun _ e=>e.elim))
     have HS6:=hide ((HS5).out.via hb6)
     have HC6:=hide (Blk.via hb6 (HC5).out)
     have HWR:=hide (show Calls Tryz.prog 55 #[.pointer (some ⟨d,0,none⟩),(.int .i64 (j:Nat)),pgV (sealB (fmtU ⟨b,xp,xf,xc,xl⟩ j))] W6 _ from devWrite_any W6 d g m n _ _ _ _ _ k2 mf _ j (sealB (fmtU ⟨b,xp,xf,xc,xl⟩ j)) fuse HS6.out (by omega) (by omega) (by omega) (by have:=wrQ_len ⟨b,xp,xf,xc,xl⟩ j j;omega) hsl)
     unfold pgV at HWR
     clear hb6 hul hsl HSE
     go_wp2_with fail
     refine HWR.out.mono ?_
     rintro e W7 ⟨rfl,v7,hs7,ht7,hloc7⟩
     rw [wrQ_next] at hs7
     have HDN:=hide (fun q hq=>(show DGM d g m q∨w.heap.size≤q from by
      rcases WroteP.blocks hloc7 q hq with h|h
      ·exact HD.out q h
      ·exact .inr (Nat.le_trans HT6.out.size h)))
     have HTN:=hide (HT6.out.into ht7 HD.out)
     have HCN:=hide (ht7.blk HC6.out (HS6.out.otherF HC6.out (by decide) (by decide)))
     have HSN:=hide hs7
     have HMN:=hide (show ∀p v,(fun q=>if q=((j:Nat):Int) then some v7 else mf q) p=some v→∃i:Nat,p=(i:Int)∧i<j+1 from fun p v hp=>by
      dsimp only at hp
      by_cases hpj:p=((j:Nat):Int)
      ·exact ⟨j,hpj,by omega⟩
      ·rw [if_neg hpj] at hp
       obtain ⟨i,h1,h2⟩:=HM.out p v hp
       exact ⟨i,h1,by omega⟩)
     clear hs7 ht7 hloc7 HWR HS6 HC6 HT6
     go_wp2
     go_roundw
     case rel=>exact ⟨j+1,k2+1,_,by omega,by omega,by go_num,HSN,HMN,HDN,HCN,HTN⟩
     case measure=>first|(simp [intOf];done)|(simp [intOf];omega)
   ·obtain rfl:j=b+1:=by omega
    have t1:¬(((b+1:Nat):Int)<(b:Int)+1):=by omega
    have HSY:=hide (devSync_any wr d g m n fuse lv stale head sure safe k2 mf (wrQ ⟨b,xp,xf,xc,xl⟩ (b+1)) HSr.out (fun p v hp=>by
     obtain ⟨i,h1,h2⟩:=HM.out p v hp
     refine ⟨i,h1,by omega,?_,by have:=wrQ_len ⟨b,xp,xf,xc,xl⟩ (b+1) i;omega⟩
     unfold wrQ
     rw [if_pos h2]
     show 0<1
     omega))
    go_wp2_with fail
    refine HSY.out.mono ?_
    rintro e w9 ⟨rfl,hs9,ht9⟩
    have HF:=hide (show DevS w9 d g m n false fuse lv stale head sure (safeN safe (wrQ ⟨b,xp,xf,xc,xl⟩ (b+1))) 0 (fun _=>none) (fun _=>[]) from hs9)
    have HTF:=hide (HT.out.into ht9 (fun q e=> .inl e))
    clear hs9 ht9
    go_wp2
    go_ret
    exact ⟨rfl,HF.out,HTF.out⟩
end Go.Proofs.YtnkjkgmohmcobaaGreatDoor
namespace Go.Proofs.YtnkjkgmohmcobaaGreatDoor
open Go.RowKit
def pageOk (bs:List UInt8) (no:Int) (e:Int):Bool:=(numI (cutB bs 12 2)==no)&&(!(decide (numI (cutB bs 4 8)<0))&&(!(decide (e<numI (cutB bs 4 8)))&&slotsOk bs 7))
end Go.Proofs.YtnkjkgmohmcobaaGreatDoor
namespace Go.Proofs.YtnkjkgmohmcobaaGreatDoor
open Go.RowKit Go.Maps Go.Shelf
theorem slotsOk_all {bs:List UInt8} :∀(n:Nat),(∀i,i<n→(slotG (slotB bs i)).isSome=true)→slotsOk bs n=true:=by
 intro n
 induction n with
 |zero=>exact fun _=>rfl
 |succ n ih=>
  intro h
  show (slotsOk bs n&&(slotG (slotB bs n)).isSome)=true
  rw [ih (fun i hi=>h i (by omega)),h n (by omega)]
  rfl
end Go.Proofs.YtnkjkgmohmcobaaGreatDoor
namespace Go.Proofs.YtnkjkgmohmcobaaGreatDoor
open Go.RowKit Go.Maps Go.Shelf
theorem Turn.belowT {S:Nat→Prop} {a w w':World} {B:Nat} (h:Turn S w w') (hb:Below B a w) (hS:∀q,S q→B≤q) (hB:B≤w.heap.size):Below B a w':=
 ⟨h.os.trans hb.os,h.tape.trans hb.tape,h.output.trans hb.output,Nat.le_trans hb.size h.size,fun k hk=>(h.block k (Nat.lt_of_lt_of_le hk hB) (fun hs=>by have:=hS k hs;omega)).trans (hb.block k hk)⟩
end Go.Proofs.YtnkjkgmohmcobaaGreatDoor
namespace Go.Proofs.YtnkjkgmohmcobaaGreatDoor
open Go.RowKit Go.Maps Go.Shelf
theorem pageOk_slots {bs:List UInt8} {no e:Int} (h:pageOk bs no e=true):∀k,k<7→(slotG (slotB bs k)).isSome=true:=by
 unfold pageOk at h
 simp only [Bool.and_eq_true] at h
 exact (slotsOk_iff 7).1 h.2.2.2
theorem slotsOf {ps:List (List UInt8)} {n:Nat} (hn:n=ps.length) (h:∀no:Nat,1≤no→no<n→pageOk (ps.getD no []) no 0=true):∀(no:Nat) (p:List UInt8),1≤no→ps[no]?=some p→∀k,k<7→(slotG (slotB p k)).isSome=true:=by
 intro no p h1 hp
 have h2:no<n:=by rw [hn];exact (List.getElem?_eq_some_iff.1 hp).1
 have h3:=h no h1 h2
 rw [List.getD_eq_getElem?_getD,hp] at h3
 exact pageOk_slots h3
end Go.Proofs.YtnkjkgmohmcobaaGreatDoor
namespace Go.Proofs.YtnkjkgmohmcobaaGreatDoor
open Go.RowKit
def putB (b:List UInt8) (at_:Nat) (c:List UInt8):List UInt8:=(b.take at_++c)++b.drop (at_+c.length)
def noteC (x:ConfD):List UInt8:=((((([0]:List UInt8)++beB 1 x.b)++beB 2 x.p)++beB 1 x.f)++beB 1 x.c)++beB 2 x.l
def newB (no:Int):List UInt8:=putB (List.replicate 512 0) 12 (beB 2 no)
def confP (x:ConfD):List UInt8:=putB (putB (newB 0) 14 (beB 2 (x.b+1))) 16 (noteC x)
def firstB (x:ConfD) (u:Nat):List UInt8:=putB (confP x) 14 [0,UInt8.ofNat u]
def restB (b u p1 p0 f c l1 l0:UInt8):List UInt8:=[0,0,0,0,0,0,0,0,0,0,0,u,0,b,p1,p0,f,c,l1,l0]++List.replicate 488 0
theorem firstB_drop (x:ConfD) (u:Nat):(firstB x u).drop 4=restB (byteS x.b 0) (UInt8.ofNat u) (byteS x.p 8) (byteS x.p 0) (byteS x.f 0) (byteS x.c 0) (byteS x.l 8) (byteS x.l 0):=by kernel_rfl
theorem byteS_low (m:Nat) (_h:m<65536):(byteS (m:Int) 0).toNat=m%256:=by
 unfold byteS
 rw [IntKind.wrap_u64,UInt8.toNat_ofNat']
 omega
theorem byteS_high (m:Nat) (_h:m<65536):(byteS (m:Int) 8).toNat=m/256:=by
 unfold byteS
 rw [IntKind.wrap_u64,UInt8.toNat_ofNat']
 omega
theorem numI_1 (a:UInt8):numI [a]=a.toNat:=by
 have ha:=a.toNat_lt
 have hn:numB [a]=a.toNat:=by simp [numB]
 unfold numI
 rw [hn]
 unfold wrap64
 omega
theorem numI_2 (a b:UInt8):numI [a,b]=256*a.toNat+b.toNat:=by
 have ha:=a.toNat_lt
 have hb:=b.toNat_lt
 have hn:numB [a,b]=256*a.toNat+b.toNat:=by simp [numB]
 unfold numI
 rw [hn]
 unfold wrap64
 omega
theorem numI_four (v:Nat) (hv:v<4294967296):numI (beB 4 (v:Int))=(v:Int):=by
 have e:beB 4 (v:Int)=[byteS (v:Int) 24,byteS (v:Int) 16,byteS (v:Int) 8,byteS (v:Int) 0]:=rfl
 rw [e]
 have hn:∀a b c d:UInt8,numB [a,b,c,d]=256*(256*(256*a.toNat+b.toNat)+c.toNat)+d.toNat:=by intro a b c d;simp [numB]
 have h:numB [byteS (v:Int) 24,byteS (v:Int) 16,byteS (v:Int) 8,byteS (v:Int) 0]=v:=by
  rw [hn]
  unfold byteS
  rw [IntKind.wrap_u64]
  simp only [UInt8.toNat_ofNat']
  omega
 unfold numI
 rw [h]
 unfold wrap64
 omega
theorem numI_oneI {n:Int} (h0:0≤n) (h:n<256):numI [byteS n 0]=n:=by
 obtain ⟨m,rfl⟩:=Int.eq_ofNat_of_zero_le h0
 rw [numI_1,byteS_low m (by omega)]
 omega
theorem numI_pair {n:Int} (h0:0≤n) (h:n<65536):numI [byteS n 8,byteS n 0]=n:=by
 obtain ⟨m,rfl⟩:=Int.eq_ofNat_of_zero_le h0
 rw [numI_2,byteS_low m (by omega),byteS_high m (by omega)]
 omega
section
variable (v:Int) (b u p1 p0 f c l1 l0:UInt8)
theorem rest_no:cutB (beB 4 v++restB b u p1 p0 f c l1 l0) 12 2=[0,0]:=rfl
theorem rest_next:cutB (beB 4 v++restB b u p1 p0 f c l1 l0) 14 2=[0,u]:=rfl
theorem rest_zero:(beB 4 v++restB b u p1 p0 f c l1 l0).getD 16 0=0:=rfl
theorem rest_b:cutB (beB 4 v++restB b u p1 p0 f c l1 l0) 17 1=[b]:=rfl
theorem rest_p:cutB (beB 4 v++restB b u p1 p0 f c l1 l0) 18 2=[p1,p0]:=rfl
theorem rest_f:cutB (beB 4 v++restB b u p1 p0 f c l1 l0) 20 1=[f]:=rfl
theorem rest_c:cutB (beB 4 v++restB b u p1 p0 f c l1 l0) 21 1=[c]:=rfl
theorem rest_l:cutB (beB 4 v++restB b u p1 p0 f c l1 l0) 22 2=[l1,l0]:=rfl
theorem rest_sum:cutB (beB 4 v++restB b u p1 p0 f c l1 l0) 0 4=beB 4 v:=rfl
theorem rest_pad:cutB (beB 4 v++restB b u p1 p0 f c l1 l0) 24 8=List.replicate 8 0:=by kernel_rfl
theorem rest_end:(beB 4 v++restB b u p1 p0 f c l1 l0).drop 480=List.replicate 32 0:=by kernel_rfl
theorem rest_slot0:slotB (beB 4 v++restB b u p1 p0 f c l1 l0) 0=List.replicate 64 0:=by kernel_rfl
theorem rest_slot1:slotB (beB 4 v++restB b u p1 p0 f c l1 l0) 1=List.replicate 64 0:=by kernel_rfl
theorem rest_slot2:slotB (beB 4 v++restB b u p1 p0 f c l1 l0) 2=List.replicate 64 0:=by kernel_rfl
theorem rest_slot3:slotB (beB 4 v++restB b u p1 p0 f c l1 l0) 3=List.replicate 64 0:=by kernel_rfl
theorem rest_slot4:slotB (beB 4 v++restB b u p1 p0 f c l1 l0) 4=List.replicate 64 0:=by kernel_rfl
theorem rest_slot5:slotB (beB 4 v++restB b u p1 p0 f c l1 l0) 5=List.replicate 64 0:=by kernel_rfl
theorem rest_slot6:slotB (beB 4 v++restB b u p1 p0 f c l1 l0) 6=List.replicate 64 0:=by kernel_rfl
theorem rest_slot (i:Nat) (hi:i<7):slotB (beB 4 v++restB b u p1 p0 f c l1 l0) i=List.replicate 64 0:=by
 have h:i=0∨i=1∨i=2∨i=3∨i=4∨i=5∨i=6:=by omega
 rcases h with rfl|rfl|rfl|rfl|rfl|rfl|rfl
 ·exact rest_slot0 v b u p1 p0 f c l1 l0
 ·exact rest_slot1 v b u p1 p0 f c l1 l0
 ·exact rest_slot2 v b u p1 p0 f c l1 l0
 ·exact rest_slot3 v b u p1 p0 f c l1 l0
 ·exact rest_slot4 v b u p1 p0 f c l1 l0
 ·exact rest_slot5 v b u p1 p0 f c l1 l0
 ·exact rest_slot6 v b u p1 p0 f c l1 l0
end
theorem slotG_nil:slotG (List.replicate 64 0)=some item0:=by
 unfold slotG
 rw [if_pos rfl]
theorem rightP_rest (b u p1 p0 f c l1 l0:UInt8) (v:Nat) (hv:v<4294967296) (hs:v=moreD 0 (restB b u p1 p0 f c l1 l0)):rightP (beB 4 (v:Int)++restB b u p1 p0 f c l1 l0) 0=true:=by
 unfold rightP
 have e:(beB 4 (v:Int)++restB b u p1 p0 f c l1 l0).drop 4=restB b u p1 p0 f c l1 l0:=List.drop_left' (beB_length 4 _)
 rw [rest_sum,e,numI_four v hv,rest_no,rest_pad,rest_end, ← hs,slotsOk_all 7 (fun i hi=>by rw [rest_slot (v:Int) b u p1 p0 f c l1 l0 i hi,slotG_nil];rfl),numI_2]
 simp
theorem first_right (x:ConfD) (u:Nat):rightP (sealB (firstB x u)) 0=true:=by
 unfold sealB sumB
 rw [firstB_drop]
 exact rightP_rest _ _ _ _ _ _ _ _ _ (by rw [moreD_eq];unfold moreR;omega) rfl
theorem first_meta (x:ConfD) (u:Nat) (hx:confOk x=true) (h1:x.b<u) (h2:(u:Int)≤x.p) (h3:u<256):metaG (sealB (firstB x u))=some (x,(u:Int)):=by
 unfold confOk at hx
 rw [decide_eq_true_iff] at hx
 obtain ⟨b,p,f,c,l⟩:=x
 dsimp only at hx h1 h2
 have hc:confB (sealB (firstB ⟨b,p,f,c,l⟩ u))=⟨b,p,f,c,l⟩:=by
  unfold sealB sumB confB
  rw [firstB_drop]
  rw [rest_b,rest_p,rest_f,rest_c,rest_l]
  dsimp only
  rw [numI_oneI (by omega) (by omega),numI_pair (by omega) (by omega),numI_oneI (by omega) (by omega),numI_oneI (by omega) (by omega),numI_pair (by omega) (by omega)]
 have hn:numI (cutB (sealB (firstB ⟨b,p,f,c,l⟩ u)) 14 2)=(u:Int):=by
  unfold sealB sumB
  rw [firstB_drop,rest_next,numI_2,UInt8.toNat_ofNat']
  have:(0:UInt8).toNat=0:=rfl
  omega
 have hno:numI (cutB (sealB (firstB ⟨b,p,f,c,l⟩ u)) 12 2)=0:=by
  unfold sealB sumB
  rw [firstB_drop,rest_no,numI_2]
  rfl
 have hz:((sealB (firstB ⟨b,p,f,c,l⟩ u)).getD 16 0).toNat=0:=by
  unfold sealB sumB
  rw [firstB_drop,rest_zero]
  rfl
 unfold metaG
 rw [hc,hn,hno,hz]
 rw [if_pos]
 refine ⟨rfl,rfl,?_,by dsimp only;omega,by dsimp only;omega⟩
 unfold confOk
 rw [decide_eq_true_iff]
 exact hx
end Go.Proofs.YtnkjkgmohmcobaaGreatDoor
namespace Go.Proofs.YtnkjkgmohmcobaaGreatDoor
open Go.RowKit
theorem byteS_lo (m:Nat) (h:m<256):byteS (m:Int) 0=UInt8.ofNat m:=by
 apply UInt8.toNat_inj.1
 rw [byteS_low m (by omega),UInt8.toNat_ofNat']
theorem byteS_hi (m:Nat) (h:m<256):byteS (m:Int) 8=0:=by
 apply UInt8.toNat_inj.1
 rw [byteS_high m (by omega)]
 show m/256=0
 omega
def putW (p:List UInt8) (at_ width:Nat) (c:List UInt8):List UInt8:=p.take at_++(c++p.drop (at_+width))
theorem metaPg_aux (x:ConfD) (u:Nat):putW (putW (putW zPg 12 2 (beB 2 0)) 14 2 [0,UInt8.ofNat u]) 16 8 (noteC x)=firstB x u:=by kernel_rfl
theorem metaPg_first (x:ConfD) (u:Nat) (hu:x.b+1=(u:Int)) (h:u<256):metaPg x=firstB x u:=by
 have e8:beB 8 (numI (cutB (noteB x) 0 8))=noteC x:=beB_numI (noteC x) rfl
 have e2:beB 2 (x.b+1)=[0,UInt8.ofNat u]:=by
  rw [hu]
  show [byteS (u:Int) 8,byteS (u:Int) 0]=_
  rw [byteS_lo u h,byteS_hi u h]
 have e0:metaPg x=putW (putW (putW zPg 12 2 (beB 2 0)) 14 2 (beB 2 (x.b+1))) 16 8 (beB 8 (numI (cutB (noteB x) 0 8))):=rfl
 rw [e0,e8,e2,metaPg_aux]
end Go.Proofs.YtnkjkgmohmcobaaGreatDoor
namespace Go.Proofs.YtnkjkgmohmcobaaGreatDoor
open Go.RowKit Go.Maps
theorem PoolC.none {W:World} {p d l n:Nat} {f:Int} {pg:Nat→List UInt8} (k:Blk W p 174 (poolC d l f (.slice none 0 0))) (hf:0≤f):PoolC W p d l f n pg []:=
 ⟨⟨⟨_,k,World.ownsRow_nil _ _ _ _⟩,fun x hx=>by cases hx⟩,hf,fun x hx=>by cases hx⟩
theorem StoreI.opened {W:World} {b d g m n l ml p t:Nat} {x:ConfD} {safe:List (List UInt8)} {k:Nat} {mf:Int→Option Value} {wr:Nat→List (List UInt8)} (hP:PartsS W b d x l ml p t) (hD:DevS W d g m n false 0 nilS 0 0 0 safe k mf wr) (hf:0≤x.f):
  StoreI ⟨b,d,g,m,n,p,l,x,0,safe,k,mf,wr⟩ W:=by
 obtain ⟨k1,k2,k3,kb⟩:=hP.kb
 exact ⟨hD,⟨[],PoolC.none hP.kp hf⟩,⟨k1,k2,k3,t,kb⟩,⟨_,_,_,_,_,hP.kl⟩⟩
end Go.Proofs.YtnkjkgmohmcobaaGreatDoor
namespace Go.Proofs.YtnkjkgmohmcobaaGreatDoor
open Go.RowKit Go.Maps
theorem newSt_pg (x:ConfD) (n b no:Nat) (h:no≤b) (hn:no<n):pgOf (safeN (List.replicate n zPg) (wrQ x (b+1))) (fun _=>[]) no=sealB (fmtU x no):=by
 have e1:pgOf (safeN (List.replicate n zPg) (wrQ x (b+1))) (fun _=>[]) no=(safeN (List.replicate n zPg) (wrQ x (b+1))).getD no []:=rfl
 have e2:wrQ x (b+1) no=[sealB (fmtU x no)]:=by unfold wrQ;rw [if_pos (by omega)]
 rw [e1,List.getD_eq_getElem?_getD,safeN_at (by rw [List.length_replicate];exact hn)]
 show pgOf _ _ no=_
 unfold pgOf
 rw [e2]
 rfl
def NewSt (x:ConfD) (b:Nat) (w:World) (s:StN) (w':World):Prop:=StoreI s w'∧s.x=x∧w.heap.size≤s.d∧w.heap.size≤s.p∧StK s (b+1)∧(∀no,no≤b→s.pg no=sealB (fmtU x no))∧Below w.heap.size w w'
def NewB (x:ConfD) (w:World) (s:StN) (w':World):Prop:=∃k1 k2 k3 t mt,Blk w' s.b 85 (baseC s.d s.l s.p x k1 k2 k3 t)∧TxF w.heap.size 1 t mt w'∧w.heap.size≤s.b
theorem open26_any (x:ConfD) (b:Nat) (hxb:x.b=(b:Int)) (hx:confOk x=true) (w:World):Calls Tryz.prog 21 #[confV x,.int .i64 0] w fun e w'=>∃s:StN,e= .returned (ptrV s.b)∧NewSt x b w s w'∧NewB x w s w':=by
 have hx2:=of_decide_eq_true (show decide _=true from hx)
 have HFM:=hide (first_meta x (b+1) hx (by omega) (by omega) (by omega))
 have HFR:=hide (first_right x (b+1))
 rw [← metaPg_first x (b+1) (by omega) (by omega)] at HFM HFR
 have HFMT:=hide (fun W d g m n h hp hn=>metaFormat_any x hx W d g m n 0 0 0 0 nilS (List.replicate n zPg) 0 (by omega) h hp hn)
 obtain ⟨n,hxn⟩:∃n:Nat,x.p=n:=⟨x.p.toNat,by omega⟩
 have hxt:x.b.toNat=b:=by omega
 rw [hxt] at HFMT
 have hn1:b<n:=by omega
 have hn2:n≤1024:=by omega
 have hf1:4≤x.f:=by omega
 have hf2:x.f≤64:=by omega
 have hb1:1≤b:=by omega
 have hb16:b≤16:=by omega
 have HX:=hide hx
 obtain ⟨xb,xp,xf,xc,xl⟩:=x
 dsimp only at hxb hxn hf1 hf2
 subst hxb hxn
 clear hx2 hxt hx
 unfold confV at*
 dsimp only at*
 go_enter Tryz.func21,Tryz.ntmps21
 go_upto_region 1 with (fail)
 refine gen1 (R:=fun W=>Code.wp _ _ _ _ W) (fun W1 kc hbb hzz=>?_)
 obtain ⟨gc,hgc⟩:∃g,g=w.heap.size:=⟨_,rfl⟩
 rw [← hgc] at kc ⊢
 have KC1:=hide kc
 have HB1:=hide hbb
 clear kc hbb hzz hgc
 have q1:W1.cell? ⟨gc,1,none⟩=some (.int .i64 n):=KC1.out.cell 1
 have ql:=KC1.out.lt
 go_wp2_with fail
 refine (devNewN_any n (by omega) (by omega) W1).mono ?_
 rintro e W2 ⟨d,g,mm,rfl,kd,kg,hmf,hd,hg,hmm,hb2⟩
 have hz1:=HB1.out.size
 have HS2:=hide (DevS.fresh kd kg hmf)
 have HD2:=hide (show ∀q,DGM d g mm q→w.heap.size≤q from by
  rintro q (h|h|h)<;>omega)
 have hdl:w.heap.size≤d:=by omega
 have KC2:=hide (Blk.via hb2 KC1.out)
 have HB2:=hide (HB1.out.trans (hb2.mono hz1))
 clear kd kg hmf hd hg hmm hb2 q1 ql KC1 HB1 hz1
 have q0:W2.cell? ⟨gc,0,none⟩=some (.int .i64 b):=KC2.out.cell 0
 have q1:W2.cell? ⟨gc,1,none⟩=some (.int .i64 n):=KC2.out.cell 1
 have q2:W2.cell? ⟨gc,2,none⟩=some (.int .i64 xf):=KC2.out.cell 2
 have q3:W2.cell? ⟨gc,3,none⟩=some (.int .i64 xc):=KC2.out.cell 3
 have q4:W2.cell? ⟨gc,4,none⟩=some (.int .i64 xl):=KC2.out.cell 4
 have ql:=KC2.out.lt
 have HF:=hide (HFMT.out W2 d g mm n HS2.out (Int.le_refl _) hn2)
 go_wp2_with fail
 refine HF.out.mono ?_
 rintro e W3 ⟨rfl,hs3,ht3⟩
 have hz2:=HB2.out.size
 have HS3:=hide hs3
 have HB3:=hide (ht3.belowT HB2.out HD2.out hz2)
 have hpg0:pgOf (safeN (List.replicate n zPg) (wrQ ⟨b,n,xf,xc,xl⟩ (b+1))) (fun _=>[]) 0=sealB (metaPg ⟨b,n,xf,xc,xl⟩):=newSt_pg ⟨b,n,xf,xc,xl⟩ n b 0 (by omega) (by omega)
 have HOPN:=hide (open_ok W3 d g mm n false 0 0 _ 0 (fun _=>none) (fun _=>[]) HS3.out (by omega) (by omega) (by simp) (fun h=>by cases h) ⟨b,n,xf,xc,xl⟩ ((b+1:Nat):Int) (by rw [hpg0];exact HFM.out) (by rw [hpg0];exact HFR.out) (by dsimp only;omega) (fun h=>by cases h) 0 rfl)
 have HPG0:=hide hpg0
 clear hs3 ht3 HF HS2 q0 q1 q2 q3 q4 ql KC2 HB2 hz2 hpg0
 go_wp2_with fail
 refine HOPN.out.mono ?_
 rintro e W20 ⟨bb,l,ml,pp,tt,rfl,hP,hD,ht,hpn,htx,hbn⟩
 have hz3:=HB3.out.size
 have HB20:=hide (ht.belowT HB3.out (fun q e=>by rw [e];exact hdl) hz3)
 obtain ⟨s,hs⟩:∃s:StN,s=⟨bb,d,g,mm,n,pp,l,⟨b,n,xf,xc,xl⟩,0,safeN (List.replicate n zPg) (wrQ ⟨b,n,xf,xc,xl⟩ (b+1)),0,fun _=>none,fun _=>[]⟩:=⟨_,rfl⟩
 have HFIN:=hide (show NewSt ⟨b,n,xf,xc,xl⟩ b w s W20 by
  have hst:StoreI s W20:=by rw [hs];exact StoreI.opened hP hD (by dsimp only;omega)
  have hq:s.pg 0=sealB (metaPg ⟨b,n,xf,xc,xl⟩):=by rw [hs];exact HPG0.out
  have hsx:s.x=⟨b,n,xf,xc,xl⟩:=by rw [hs]
  have hsn:s.n=n:=by rw [hs]
  have hsw:∀no,s.wr no=[]:=fun no=>by rw [hs]
  have hsk:StK s (b+1):=⟨⟨by rw [hsn];exact hn2,by rw [hsx,hsn];exact Int.le_refl _,by rw [hsx];dsimp only;omega,by rw [hsx];dsimp only;omega,fun no=>by rw [hsw];simp⟩,by rw [hq];exact HFR.out,by rw [hq,hsx];exact HFM.out,by rw [hsx];dsimp only;omega,by rw [hsx];dsimp only;omega,by rw [hsx];dsimp only;omega,by rw [hsx];dsimp only;omega⟩
  refine ⟨hst,by rw [hs],by rw [hs];exact hdl,by rw [hs];dsimp only;omega,hsk,fun no hno=>?_,HB20.out⟩
  rw [hs]
  exact newSt_pg ⟨b,n,xf,xc,xl⟩ n b no hno (by omega))
 have hsb:s.b=bb:=by rw [hs]
 have HNB:=hide (show NewB ⟨b,n,xf,xc,xl⟩ w s W20 by
  obtain ⟨k1,k2,k3,kb⟩:=hP.kb
  obtain ⟨mt,htx⟩:=htx
  rw [hs]
  exact ⟨k1,k2,k3,tt,mt,kb,htx.more hz3,Nat.le_trans hz3 hbn⟩)
 clear htx hbn
 clear hP hD ht hpn hs HOPN hz3
 go_wp2
 go_loopw [8] (fun i wr=>i= .int .i64 0∧wr=W20) (fun _ _=>0)
 case atStart=>exact ⟨rfl,rfl⟩
 case round=>
  obtain ⟨rfl,rfl⟩:=hrel
  go_wp2
  go_ret
  exact ⟨s,by rw [hsb];rfl,HFIN.out,HNB.out⟩
end Go.Proofs.YtnkjkgmohmcobaaGreatDoor
namespace Go.Proofs.YtnkjkgmohmcobaaGreatDoor
open Go.RowKit Go.Maps
structure BankO (N:Nat) (w:World) (b k g n t mt:Nat) (cs:Array Value):Prop where
 kk:Blk w k 73 (bankC b g n (.slice none 0 0))
 hc:NewI n g n w
 kb:Blk w b 85 cs
 c11:cs[11]?=some (.pointer (some ⟨t,0,none⟩))
 kt:TxF N 1 t mt w
 kN:N≤k
 gN:N≤g
theorem open28_any (x:ConfD) (b n:Nat) (hxb:x.b=(b:Int)) (hxc:x.c=(n:Int)) (hx:confOk x=true) (w:World):Calls Tryz.prog 7 #[confV x] w fun e w'=>∃sb k g t mt cs,e= .returned (.tuple #[.pointer (some ⟨sb,0,none⟩),.pointer (some ⟨k,0,none⟩)])∧BankO w.heap.size w' sb k g n t mt cs∧Below w.heap.size w w':=by
 have hx2:=of_decide_eq_true (show decide _=true from hx)
 have HN:=hide (show 1≤n∧n≤16 by omega)
 have HO:=hide (fun W=>open26_any x b hxb hx W)
 have HXC:=hide hxc
 obtain ⟨xb,xp,xf,xc,xl⟩:=x
 unfold confV at*
 dsimp only at*
 clear hx2 hx hxb hxc
 go_enter Tryz.func7,Tryz.ntmps7
 go_upto_region 1 with (fail)
 refine gen1 (R:=fun W=>Code.wp _ _ _ _ W) (fun W1 kb hb1 hz1=>?_)
 have q0:=kb.cell 0
 have q1:=kb.cell 1
 have q2:=kb.cell 2
 have q3:=kb.cell 3
 have q4:=kb.cell 4
 have ql:=kb.lt
 have HB1:=hide hb1
 clear kb hb1
 go_wp2_with fail
 refine (HO.out W1).mono ?_
 rintro e W2 ⟨s,rfl,hst,⟨k1,k2,k3,t,mt,kb,htx,hbn⟩⟩
 have hb2:Below W1.heap.size W1 W2:=hst.2.2.2.2.2.2
 have HB2:=hide (below_via HB1.out hb2 HB1.out.size)
 have HKB:=hide kb
 have HTX:=hide (htx.more HB1.out.size)
 have HNW:=hide (bankNew_any s.b n _ HN.out.1 HN.out.2 W2 kb (by rw [← HXC.out];rfl))
 obtain ⟨sb,hsb⟩:∃sb,sb=s.b:=⟨_,rfl⟩
 unfold ptrV
 rw [← hsb] at HKB HNW ⊢
 clear hst kb htx hbn hb2 q0 q1 q2 q3 q4 ql hsb
 go_wp2_with fail
 refine HNW.out.mono ?_
 rintro e W3 ⟨k,g,rfl,hkk,hni,hkN,hgN,hb3⟩
 have hz2:=HB2.out.size
 have HFIN:=hide (show BankO w.heap.size W3 sb k g n t mt _ from ⟨hkk,hni,Blk.via hb3 HKB.out,rfl,HTX.out.via hb3,Nat.le_trans hz2 hkN,Nat.le_trans hz2 hgN⟩)
 have HB3:=hide (below_via HB2.out hb3 hz2)
 clear hkk hni hkN hgN hb3 hz2
 go_wp2
 go_ret2
 exact ⟨sb,k,g,t,mt,_,rfl,HFIN.out,HB3.out⟩
end Go.Proofs.YtnkjkgmohmcobaaGreatDoor
namespace Go.Proofs.YtnkjkgmohmcobaaGreatDoor
open Go.RowKit
theorem code28_any (n:Int) (w:World):Calls Tryz.prog 8 #[.int .i64 n] w fun e w'=>e= .returned (.int .i64 n)∧w'=w:=by
 go_enter Tryz.func8,Tryz.ntmps8
 go_wp2
 go_ret
 exact ⟨rfl,rfl⟩
def askC:Nat→Int
 |0=>0
 |1=>0
 |2=>1
 |3=>1
 |_=>0
def askO (d:Int) (k:ByteArray):Value:= .agg #[.int .i64 d,.string k,.slice none 0 0,.int .i64 0,.int .i64 0,.int .i64 0]
def askX:Nat→Value
 |0=>askO 6 ⟨#[]⟩
 |1=>askO 1 ⟨#[97]⟩
 |2=>askO 6 ⟨#[]⟩
 |3=>askO 1 ⟨#[98]⟩
 |_=>askO 1 ⟨#[98]⟩
def ans28:Value:= .agg #[.int .i64 10,.int .i64 0,.slice none 0 0,.int .i64 0,.int .i64 0,.int .i64 0]
def conf28:Value:= .agg #[.int .i64 1,.int .i64 3,.int .i64 4,.int .i64 2,.int .i64 4]
theorem live28_walk (S:Nat→Nat→Nat→World→Prop) (w:World)
  (hO:Calls Tryz.prog 7 #[conf28] w fun e W=>∃bv b o,e= .returned (.tuple #[bv,.pointer (some ⟨b,o,none⟩)])∧S b o 0 W)
  (hA:∀i b o W,i<5→S b o i W→Calls Tryz.prog 20 #[.pointer (some ⟨b,o,none⟩),.int .i64 (askC i),askX i] W fun e W'=>(∃v,e= .returned v)∧S b o (i+1) W')
  (hF:∀b o W,S b o 5 W→Calls Tryz.prog 20 #[.pointer (some ⟨b,o,none⟩),.int .i64 1,askO 1 ⟨#[97]⟩] W fun e W'=>e= .returned (.tuple #[ans28,.bool true])∧S b o 6 W')
  (hS:∀b o W,S b o 6 W→Calls Tryz.prog 13 #[.pointer (some ⟨b,o,none⟩),.int .i64 0] W fun e W'=>e= .returned (.int .i64 3)∧S b o 7 W')
  (hT:∀b o W,S b o 7 W→Calls Tryz.prog 14 #[.pointer (some ⟨b,o,none⟩),.int .i64 1] W fun e W'=>e= .returned (.int .i64 0)∧S b o 8 W')
  (hB:∀b o i W W',S b o i W→Below W.heap.size W W'→S b o i W')
  (hZ:∀b o W,S b o 8 W→Below w.heap.size w W):
  Calls Tryz.prog 6 #[] w fun e w'=>e= .returned (.bool true)∧Below w.heap.size w w':=by
 have HO:=hide hO
 have HA:=hide hA
 have HF:=hide hF
 have HS:=hide hS
 have HT:=hide hT
 have HB:=hide hB
 have HZ:=hide hZ
 have HCD:=hide (fun n W=>code28_any n W)
 clear hO hA hF hS hT hB hZ
 go_enter Tryz.func6,Tryz.ntmps6
 go_wp2_with fail
 refine HO.out.mono ?_
 rintro e W1 ⟨bv,b,o,rfl,hs⟩
 have HS1:=hide hs
 clear hs HO
 go_wp2
 go_loopw [3] (fun iv wr=>(iv= .int .i64 0∧Hid (S b o 0 wr))∨(iv= .int .i64 1∧Hid (S b o 2 wr))∨(iv= .int .i64 2∧Hid (S b o 4 wr))) (fun iv _=>2-(intOf iv).toNat)
 case atStart=>exact .inl ⟨rfl,HS1⟩
 case round=>
  rcases hrel with ⟨rfl,hs⟩|⟨rfl,hs⟩|⟨rfl,hs⟩
  ·go_wp2_with fail
   refine (HA.out 0 b o _ (by omega) hs.out).mono ?_
   rintro e W2 ⟨⟨v2,rfl⟩,hs2⟩
   have HS2:=hide hs2
   clear hs2 hs
   go_wp2_with fail
   refine (HA.out 1 b o _ (by omega) (HB.out b o 1 W2 _ HS2.out ((Below.refl _ _).alloc (Nat.le_refl _) _))).mono ?_
   rintro e W3 ⟨⟨v3,rfl⟩,hs3⟩
   have HS3:=hide hs3
   clear hs3 HS2
   go_wp2
   go_roundw
   case rel=>exact .inr (.inl ⟨by go_num,HS3⟩)
   case measure=>simp [intOf]
  ·go_wp2_with fail
   refine (HA.out 2 b o _ (by omega) hs.out).mono ?_
   rintro e W2 ⟨⟨v2,rfl⟩,hs2⟩
   have HS2:=hide hs2
   clear hs2 hs
   go_wp2_with fail
   refine (HA.out 3 b o _ (by omega) (HB.out b o 3 W2 _ HS2.out ((Below.refl _ _).alloc (Nat.le_refl _) _))).mono ?_
   rintro e W3 ⟨⟨v3,rfl⟩,hs3⟩
   have HS3:=hide hs3
   clear hs3 HS2
   go_wp2
   go_roundw
   case rel=>exact .inr (.inr ⟨by go_num,HS3⟩)
   case measure=>simp [intOf]
  ·go_wp2_with fail
   refine (HA.out 4 b o _ (by omega) hs.out).mono ?_
   rintro e W2 ⟨⟨v2,rfl⟩,hs2⟩
   have HS2:=hide hs2
   clear hs2 hs
   go_wp2_with fail
   refine (HF.out b o _ HS2.out).mono ?_
   rintro e W3 ⟨rfl,hs3⟩
   have HS3:=hide hs3
   clear hs3 HS2
   unfold ans28
   go_wp2_with fail
   refine (HCD.out _ _).mono ?_
   rintro e w' ⟨rfl,hw'⟩
   obtain rfl:=hw'.symm
   go_wp2_with fail
   refine (HS.out b o _ (HB.out b o 6 W3 _ HS3.out ((Below.refl _ _).alloc (Nat.le_refl _) _))).mono ?_
   rintro e W4 ⟨rfl,hs4⟩
   have HS4:=hide hs4
   clear hs4 HS3
   go_wp2_with fail
   refine (HT.out b o _ HS4.out).mono ?_
   rintro e W5 ⟨rfl,hs5⟩
   have HS5:=hide hs5
   clear hs5 HS4
   go_wp2
   go_ret
   exact ⟨rfl,HZ.out b o _ HS5.out⟩
end Go.Proofs.YtnkjkgmohmcobaaGreatDoor
