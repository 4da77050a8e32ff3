/-
  Texts of this claim, joined: LL, LM, LO, LP, LQ, LR, LS, LT, DB, DD, DE, DG, DH, JG, JH, DI, DU, JI, JK, JL, JM.
-/
import Derived.LaidEql
import Derived.Laws.EntriesVeiled
import Derived.StringKeys
import Derived.WalkMore
import Derived.Laws.Bits64
import Derived.Laws.Externs
import Derived.Test.YtnkjkgmohmcobaaGreatDoorBc07
set_option maxHeartbeats 6400000
set_option maxRecDepth 100000
namespace Go.Proofs.YtnkjkgmohmcobaaGreatDoor
open Go.RowKit Go.Shelf Go.Maps
attribute [local go_sem] Oper.semAt_some
def LoadPF (fs:Bool) (w:World) (d:Nat) (limit:Int) (sv mv:Value) (stale fuse:Int) (e:Ending) (w':World):Prop:=
 ∃l m o',e= .returned (.tuple #[.pointer (some ⟨l,0,none⟩),.int .i64 0])∧Blk w' l 165 (logC d limit 0 0 m (.slice none 0 0))∧MapF w' m 0 (fun _=>none)∧Blk w' d 113 (devF fs sv mv (.slice none 0 0) stale 0 0 (if fs=true then fuse-1 else fuse) o')∧w.heap.size≤l∧w.heap.size≤m∧Turn (fun q=>q=d) w w'
theorem walLoadF_any (fs:Bool) (d:Nat) (limit:Int) (sv mv:Value) (stale fuse o:Int) (w:World) (h1:1≤limit) (h2:limit≤1048576) (hfu:fs=true→0<fuse∧fuse≤9223372036854775807) (k:Blk w d 113 (devF fs sv mv (.slice none 0 0) stale 0 0 fuse o)):
  Calls Tryz.prog 61 #[.pointer (some ⟨d,0,none⟩),.int .i64 limit] w (LoadPF fs w d limit sv mv stale fuse):=by
 have hmm:=@run_makeMap Tryz.prog
 have HK:=hide k
 have HFU:=hide hfu
 have ld:=k.lt
 clear k hfu
 refine (callsIn_wide (n:=9)).1 ?_
 refine callsIn_of_wp_marks Tryz.func61 rfl trivial ?_ rfl
 simp only [Tryz.ntmps61,List.size_toArray,List.length_cons,List.length_nil,Nat.reduceAdd,Nat.reduceSub,Array.replicate_succ,Array.replicate_zero,List.push_toArray,List.append_toArray,List.nil_append,List.cons_append]
 gi_upto_region 6 with (fail)
 refine gen4N (R:=fun W=>Code.wpIn _ _ _ _ _ _ W) (fun W1 kM kX kB hb1 hz1=>?_)
 have HM1:=hide kM
 have HX1:=hide kX
 have HB1:=hide kB
 have HL1:=hide hb1
 have HHD:=hide (devHeadF_any fs d sv mv (.slice none 0 0) stale 0 0 fuse o W1 (Blk.via hb1 HK.out))
 clear kM kX kB hb1
 gi_upto_region 7 with (refine ⟨trivial,?_⟩;gi_at_call 115;refine (callsIn_wide.2 HHD.out).mono ?_;rintro e w' ⟨rfl,hw'⟩;obtain rfl:=hw'.symm)
 refine gen1 (R:=fun W=>Code.wpIn _ _ _ _ _ _ W) (fun W2 kE hb2 hz2=>?_)
 have HLG:=hide (devLogF_any fs d sv mv stale 0 0 fuse o W2 (Blk.via hb2 (Blk.via HL1.out HK.out)))
 have HREC:=hide (fun A c W=>records_any A c W)
 have HE2:=hide kE
 have HL2:=hide hb2
 clear kE hb2
 gi_wp2_with (refine ⟨trivial,?_⟩;first
  |(gi_at_call 117;refine (callsIn_wide.2 HLG.out).mono ?_;rintro e W3 ⟨⟨A3,c3,rfl⟩,hb3⟩)
  |(gi_at_call 116;refine (callsIn_wide.2 (HREC.out _ _ _)).mono ?_;rintro e w' ⟨rfl,hw'⟩;obtain rfl:=hw'.symm))
 have HW2:=hide (Blk.via hb3 HE2.out)
 have hl2:Below w.heap.size w W2:=HL1.out.trans (HL2.out.mono HL1.out.size)
 have hl3:Below w.heap.size w W3:=hl2.trans (hb3.mono hl2.size)
 have h13:Below W1.heap.size W1 W3:=HL2.out.trans (hb3.mono HL2.out.size)
 have HB3:=hide h13
 have HL3:=hide hl3
 have hs1:=HL2.out.size
 have hs2:=hb3.size
 have hs3:=HL1.out.size
 have hE3:=HE2.out.lt
 clear hl2 hl3 h13 hb3
 have hp3:=Blk.new W3 24 #[.slice A3 0 c3]
 refine wpIn_rangeFunc_ownH (α:=Empty) (encs:=fun x=>x.elim) (Kp:=fun _ _=>True) (S:=fun xs=>xs=[]) (Sp:=fun _=>False) (N:=0) (w0:=W3.alloc (.cells #[.slice A3 0 c3] 24)) rfl (by omega) (gf:=170) (lb:=#[.pointer (some ⟨W3.heap.size,0,none⟩)]) rfl trivial (enters_of Tryz.func170 (by kernel_rfl) rfl) ?seq
  (fun _ _=>trivial) (fun _ _ _ _ _ _ _ _=>trivial) (Below.refl _ _) (fun x=>x.elim)
  (fun _ W=>Below W1.heap.size W1 W∧Blk W W1.heap.size 3 #[.int .i64 0]) (fun _ _ _=>False) ?own (fun _ _ _ _ _ hs _ _=>hs) ?start (fun x _ _=>x.elim) (fun x _=>x.elim) ?assign ?body ?done ?stop
 case seq=>
  intro lp J Jx W hW hJ _ _ h0
  refine (records1_in 8 (by omega) lp W3.heap.size A3 c3 W (Blk.via hW hp3)).mono ?_
  rintro e W' ⟨hv,hb⟩
  exact ⟨hv,.inl ⟨[],rfl,hJ [] W W' none h0 ⟨hb.os,hb.tape,hb.output,hb.size,fun q hq _=>hb.block q hq⟩ (fun r e=>by cases e)⟩⟩
 case own=>
  rintro hs W W' row ⟨k1,k2⟩ hg hr
  exact ⟨k1.grown hg k1.size (fun q hq=>by have:=(hr q hq).1;simp at this;omega),k2.grown hg (nc_ne hr k2)⟩
 case start=>exact ⟨HB3.out.alloc HB3.out.size _,HW2.out.alloc _⟩
 case assign=>intro _ _ x;exact x.elim
 case body=>intro _ _ x;exact x.elim
 case stop=>rintro _ _ _ _ _ hF _ _;exact hF.elim
 case done=>
  rintro D xs W hD hS ⟨i1,i2⟩ hK
  have kd:=Blk.via i1 (Blk.via HL1.out HK.out)
  have hww:Below w.heap.size w W:=HL1.out.trans (i1.mono HL1.out.size)
  have kX:=Blk.via i1 HX1.out
  have kB:=Blk.via i1 HB1.out
  have kM:=World.ownsMap.kept' HM1.out i1
  have q1:=i2.cell 0
  have l1:=i2.lt
  have HC:=hide (devCutF_any fs d sv mv stale fuse o W HFU.out kd)
  have HKM:=hide kM
  have HKX:=hide kX
  have HKB:=hide kB
  have HWW:=hide hww
  have HKD:=hide kd
  have HKK:=hide hK
  have hDl:D<W.heap.size:=(Array.getElem?_eq_some_iff.1 hK).1
  have hDW:d<D:=by simp at hD;omega
  have hDW2:w.heap.size+1+1<D:=by simp at hD;omega
  clear kM kX kB hww kd hK i1 i2 hS
  dsimp only
  gi_upto_region 13 with (refine ⟨trivial,?_⟩;gi_at_call 119;refine (callsIn_wide.2 HC.out).mono ?_;rintro e W4 ⟨rfl,o4,hd4,ht4⟩)
  gi_upto_region 15 with (fail)
  have g4:∀q,q<W.heap.size→q≠d→W4.heap[q]?=W.heap[q]?:=fun q hq hne=>ht4.block q hq hne
  have kX4:Blk W4 (w.heap.size+1) 165 (logC d limit 0 0 w.heap.size (.slice none 0 0)):=(g4 _ HKX.out.lt (by omega)).trans HKX.out
  have kB4:Blk W4 (w.heap.size+1+1) 78 #[.pointer (some ⟨w.heap.size+1,0,none⟩)]:=(g4 _ HKB.out.lt (by omega)).trans HKB.out
  have kM4:=HKM.out.kept (g4 _ HKM.out.lt (by omega))
  have hD4:W4.heap[D]?=some (.deferred (some [])):=(g4 _ hDl (by omega)).trans HKK.out
  have hDn:=HKX.out.lt
  have KX4:=hide kX4
  have KB4:=hide kB4
  have KM4:=hide kM4
  have KD4:=hide hd4
  have HD4:=hide hD4
  have HT4:=hide ht4
  have HEN:=hide (fun W5 (hb:Below W4.heap.size W4 W5)=>walEndF_any fs (w.heap.size+1) d limit 0 0 w.heap.size (.slice none 0 0) sv mv none 0 0 stale 0 0 (if fs=true then fuse-1 else fuse) o4 W5 (by omega) (by omega) (by omega) (Blk.via hb kX4) (Blk.via hb hd4))
  clear kX4 kB4 kM4 hd4 hD4 ht4 g4 q1 l1
  refine wpIn_wide.2 ?_
  refine wp_region_inv_tail 5 [fun v _=>v= .pointer (some ⟨w.heap.size+1,0,none⟩),fun v _=>v= .pointer (some ⟨w.heap.size+1,0,none⟩),fun v _=>v= .int .i64 0,fun v _=>v= .pointer (some ⟨w.heap.size+1,0,none⟩),fun v _=>v= .pointer (some ⟨w.heap.size+1,3,none⟩)] (by kernel_rfl) (by kernel_rfl) (by kernel_rfl) (by kernel_rfl) (by kernel_rfl) (by first|simp|decide) (by kernel_rfl) ?st ?steps ?fin
  case st=>
   intro i v W W' hWW h
   match i with
   |0|1|2|3|4=>exact h
   |(i+5)=>exact h
  case steps=>
   simp only [stepsT,List.take_succ_cons,List.take_zero]
   refine ⟨?_,?_,?_,?_,?_,trivial⟩
   ·intro f W hbW hdp
    have q:W.cell? ⟨w.heap.size+1+1,0,none⟩=some (.pointer (some ⟨w.heap.size+1,0,none⟩)):=(Blk.via hbW KB4.out).cell 0
    simp only [fS,Nat.reduceAdd]
    go_wp2
    exact ⟨rfl,_,rfl,rfl,Below.refl _ _⟩
   ·intro f W hbW hdp
    have q:W.cell? ⟨w.heap.size+1+1,0,none⟩=some (.pointer (some ⟨w.heap.size+1,0,none⟩)):=(Blk.via hbW KB4.out).cell 0
    simp only [fS,Nat.reduceAdd]
    go_wp2
    exact ⟨rfl,_,rfl,rfl,Below.refl _ _⟩
   ·intro f W hbW hdp
    have e1:f 1= .pointer (some ⟨w.heap.size+1,0,none⟩):=hdp ⟨1,.data⟩ (mfl (by simp) rfl)
    simp only [fS,Nat.reduceAdd,e1]
    go_wp2_with (go_at_call 47;refine (HEN.out _ hbW).mono ?_;rintro e w' ⟨rfl,hb'⟩)
    exact ⟨rfl,_,rfl,rfl,hb'⟩
   ·intro f W hbW hdp
    have e0:f 0= .pointer (some ⟨w.heap.size+1,0,none⟩):=hdp ⟨0,.data⟩ (mfl (by simp) rfl)
    simp only [fS,Nat.reduceAdd,e0]
    go_wp2
    exact ⟨rfl,_,rfl,rfl,Below.refl _ _⟩
   ·intro f W hbW hdp
    have e3:f 3= .pointer (some ⟨w.heap.size+1,0,none⟩):=hdp ⟨3,.data⟩ (mfl (by simp) rfl)
    simp only [fS,Nat.reduceAdd,e3]
    go_wp2
    exact ⟨rfl,_,rfl,rfl,Below.refl _ _⟩
  case fin=>
   intro f W hbW hA
   have e2:f 2= .int .i64 0:=hA 2 (by omega)
   have e4:f 4= .pointer (some ⟨w.heap.size+1,3,none⟩):=hA 4 (by omega)
   simp only [List.drop_succ_cons,List.drop_zero,List.take_succ_cons,List.take_zero,fillF,Act.put,List.setIfInBounds_toArray,List.set_cons_succ,List.set_cons_zero,Nat.reduceAdd,e2,e4]
   clear hA e2 e4
   have kx:=Blk.via hbW KX4.out
   have lx:=kx.lt
   have fx:=kx.frozen 3
   have cx:=kx.cell 3
   have kb:=Blk.via hbW KB4.out
   have hne2:w.heap.size+1+1≠w.heap.size+1:=by omega
   have kb5:Blk (W.setCell ⟨w.heap.size+1,3,none⟩ (.int .i64 0)) (w.heap.size+1+1) 78 #[.pointer (some ⟨w.heap.size+1,0,none⟩)]:=kb.far hne2 _
   have qb:=kb5.cell 0
   have lb:=kb5.lt
   have KX5:=hide kx
   have HBW5:=hide hbW
   clear kx hbW kb kb5
   go_wp2_with fail
   gi_wp2_with fail
   have hD5:D<W4.heap.size:=(Array.getElem?_eq_some_iff.1 HD4.out).1
   have hDk:(W.setCell ⟨w.heap.size+1,3,none⟩ (.int .i64 0)).heap[D]?=some (.deferred (some [])):=(Below.heap_setCell _ _ _ _ (by simp;omega)).trans ((HBW5.out.block D hD5).trans HD4.out)
   have hT5:Turn (fun q=>q=d) w (W.setCell ⟨w.heap.size+1,3,none⟩ (.int .i64 0)):=Turn.set (S:=fun q=>q=d) (((Turn.of_below HWW.out).trans HT4.out).trans (Turn.of_below HBW5.out)) (p:=⟨w.heap.size+1,3,none⟩) (.inr (by simp)) _
   have kx6:=KX5.out.set_ 3 (.int .i64 0)
   have kd6:=(Blk.via HBW5.out KD4.out).far (p:=⟨w.heap.size+1,3,none⟩) (by simp;omega) (.int .i64 0)
   have km6:=(KM4.out.kept (HBW5.out.block _ KM4.out.lt)).kept (W':=W.setCell ⟨w.heap.size+1,3,none⟩ (.int .i64 0)) (Below.heap_setCell _ _ _ _ (by simp))
   generalize W.setCell ⟨w.heap.size+1,3,none⟩ (.int .i64 0)=W6 at*
   have hg6:=grownBy_putObj' W6 D (.deferred none)
   refine leave_mark (v:= .tuple #[.pointer (some ⟨w.heap.size+1,0,none⟩),.int .i64 0]) hDk (by simp [results,Tryz.results61,go_sem]) ⟨w.heap.size+1,w.heap.size,o4,rfl,(World.putObj_heap_other (by omega)).trans kx6,km6.kept (World.putObj_heap_other (by omega)),(World.putObj_heap_other (by omega)).trans kd6,by omega,Nat.le_refl _,?_⟩
   exact ⟨hg6.os.trans hT5.os,hg6.tape.trans hT5.tape,hg6.output.trans hT5.output,Nat.le_trans hT5.size hg6.size,fun q hq hn=>(hg6.block q (Nat.lt_of_lt_of_le hq hT5.size) (fun e=>by injection e with e;omega)).trans (hT5.block q hq hn)⟩
end Go.Proofs.YtnkjkgmohmcobaaGreatDoor
namespace Go.Proofs.YtnkjkgmohmcobaaGreatDoor
open Go.RowKit Go.Maps
def poolC (d l:Nat) (frames:Int) (fv:Value):Array Value:=#[.pointer (some ⟨d,0,none⟩),.iface 78 (.pointer (some ⟨l,0,none⟩)),.int .i64 frames,fv]
theorem poolNew_any (d l:Nat) (f:Int) (w:World) (h1:1≤f) (h2:f≤64):Calls Tryz.prog 63 #[.pointer (some ⟨d,0,none⟩),.iface 78 (.pointer (some ⟨l,0,none⟩)),.int .i64 f] w fun e w'=>∃p,e= .returned (.pointer (some ⟨p,0,none⟩))∧Blk w' p 174 (poolC d l f (.slice none 0 0))∧w.heap.size≤p∧Below w.heap.size w w':=by
 have m1:max f 1=f:=by omega
 have m2:min f 64=f:=by omega
 go_enter Tryz.func63,Tryz.ntmps63
 go_wp2
 go_ret
 exact ⟨_,rfl,Blk.new _ _ _,Nat.le_refl _,(Below.refl _ _).alloc (Nat.le_refl _) _⟩
end Go.Proofs.YtnkjkgmohmcobaaGreatDoor
namespace Go.Proofs.YtnkjkgmohmcobaaGreatDoor
open Go.RowKit Go.Maps
def sumB (bs:List UInt8):List UInt8:=beB 4 ((moreD 0 bs:Nat):Int)++bs
def sealB (bs:List UInt8):List UInt8:=sumB (bs.drop 4)
theorem sumB_length (bs:List UInt8):(sumB bs).length=4+bs.length:=by unfold sumB;rw [List.length_append,beB_length]
theorem sealB_length {bs:List UInt8} (h:bs.length=512):(sealB bs).length=512:=by unfold sealB;rw [sumB_length,List.length_drop,h]
end Go.Proofs.YtnkjkgmohmcobaaGreatDoor
namespace Go.Proofs.YtnkjkgmohmcobaaGreatDoor
open Go.RowKit Go.Maps
theorem rightE_yes {bs:List UInt8} {no:Int} (h:rightP bs no=true):rightE bs no=0:=by
 unfold rightE
 rw [if_pos h]
end Go.Proofs.YtnkjkgmohmcobaaGreatDoor
namespace Go.Proofs.YtnkjkgmohmcobaaGreatDoor
open Go.RowKit Go.Maps
theorem metaG_conf {bs:List UInt8} {x:ConfD} {u:Int} (h:metaG bs=some (x,u)):confOk x=true:=by
 unfold metaG at h
 split at h
 ·rename_i hc
  injection h with h
  injection h with h1 h2
  rw [← h1]
  exact hc.2.2.1
 ·cases h
theorem confOk_l {x:ConfD} (h:confOk x=true):4≤x.l∧x.l≤1024∧4≤x.f∧x.f≤64:=by
 unfold confOk at h
 have h:=of_decide_eq_true h
 exact ⟨h.2.2.2.2.2.2.2.2.1,h.2.2.2.2.2.2.2.2.2,h.2.2.2.2.1,h.2.2.2.2.2.1⟩
end Go.Proofs.YtnkjkgmohmcobaaGreatDoor
namespace Go.Proofs.YtnkjkgmohmcobaaGreatDoor
open Go.RowKit Go.Shelf Go.Maps
attribute [local go_sem] Oper.semAt_some
theorem all1_empty (n:Nat) (hn:1≤n) (lp Bl l d m:Nat) (limit:Int) (w:World) (hBl:Blk w Bl 78 #[.pointer (some ⟨l,0,none⟩)]) (kl:Blk w l 165 (logC d limit 0 0 m (.slice none 0 0))):
  CallsIn Fence.wide n Tryz.prog 120 #[.func (.yield lp) #[] #[],.pointer (some ⟨Bl,0,none⟩)] w fun e W'=>(∃v,e= .returned v)∧Below w.heap.size w W':=by
 have b0:w.cell? ⟨Bl,0,none⟩=some (.pointer (some ⟨l,0,none⟩)):=hBl.cell 0
 have l5:w.cell? ⟨l,5,none⟩=some (.slice none 0 0):=kl.cell 5
 have HC:=hide (cloneI_any none 0 0 [] w.heap.size w (Nat.le_refl _) (by omega) ⟨rfl,fun h=>absurd h (by omega)⟩ (fun _=>rfl) (fun u hu=>by cases hu))
 refine callsIn_of_wp Tryz.func120 rfl trivial ?_ rfl
 simp only [Tryz.ntmps120,List.size_toArray,List.length_cons,List.length_nil,Nat.reduceAdd,Nat.reduceSub,Array.replicate_succ,Array.replicate_zero,List.push_toArray,List.append_toArray,List.nil_append,List.cons_append]
 gi_wp2_with fail
 refine ⟨trivial,?_⟩
 gi_at_call 121
 refine (callsIn_wide.2 HC.out).mono ?_
 rintro e wc ⟨A2,c2,rfl,ho,hbc⟩
 clear ho b0 l5
 gi_wp2
 refine wpIn_loop_rounds 1 ?_
 rw [roundsIn_succ]
 gi_wp2
 go_end0
 exact ⟨⟨_,rfl⟩,hbc⟩
structure PartsS (w:World) (b d:Nat) (x:ConfD) (l ml p t:Nat):Prop where
 kb:∃k1 k2 k3:Nat,Blk w b 85 #[.pointer (some ⟨d,0,none⟩),.int .i64 x.b,.int .i64 x.p,.int .i64 x.f,.int .i64 x.c,.int .i64 x.l,.pointer (some ⟨l,0,none⟩),.pointer (some ⟨p,0,none⟩),.pointer (some ⟨k1,0,none⟩),.pointer (some ⟨k2,0,none⟩),.pointer (some ⟨k3,0,none⟩),.pointer (some ⟨t,0,none⟩)]
 kl:Blk w l 165 (logC d (1024*x.l) 0 0 ml (.slice none 0 0))
 hm:MapF w ml 0 (fun _=>none)
 kp:Blk w p 174 (poolC d l x.f (.slice none 0 0))
 kt:∃mt,TxF 0 1 t mt w
theorem blk_ne_mark {w:World} {q D:Nat} {t:TypeId} {c:Array Value} {o} (k:Blk w q t c) (h:w.heap[D]?=some (.deferred o)):q≠D:=by
 rintro rfl
 rw [show w.heap[q]?=_ from k] at h
 cases h
def PartsV (N d l:Nat) (x:ConfD) (v:Value) (W:World):Prop:=∃p k1 k2 k3 t mt:Nat,v= .agg #[.pointer (some ⟨d,0,none⟩),.int .i64 x.b,.int .i64 x.p,.int .i64 x.f,.int .i64 x.c,.int .i64 x.l,.pointer (some ⟨l,0,none⟩),.pointer (some ⟨p,0,none⟩),.pointer (some ⟨k1,0,none⟩),.pointer (some ⟨k2,0,none⟩),.pointer (some ⟨k3,0,none⟩),.pointer (some ⟨t,0,none⟩)]∧Blk W p 174 (poolC d l x.f (.slice none 0 0))∧TxF N 1 t mt W∧N≤p
def BaseV (N d l:Nat) (x:ConfD) (v:Value) (W:World):Prop:=∃b p k1 k2 k3 t mt:Nat,v= .pointer (some ⟨b,0,none⟩)∧Blk W b 85 #[.pointer (some ⟨d,0,none⟩),.int .i64 x.b,.int .i64 x.p,.int .i64 x.f,.int .i64 x.c,.int .i64 x.l,.pointer (some ⟨l,0,none⟩),.pointer (some ⟨p,0,none⟩),.pointer (some ⟨k1,0,none⟩),.pointer (some ⟨k2,0,none⟩),.pointer (some ⟨k3,0,none⟩),.pointer (some ⟨t,0,none⟩)]∧Blk W p 174 (poolC d l x.f (.slice none 0 0))∧TxF N 1 t mt W∧N≤p∧N≤b
def OpenP (w:World) (d g m n:Nat) (fs:Bool) (fuse stale:Int) (safe:List (List UInt8)) (k:Nat) (mf:Int→Option Value) (wr:Nat→List (List UInt8)) (x:ConfD) (e:Ending) (w':World):Prop:=
 ∃b l ml p t,e= .returned (.tuple #[.pointer (some ⟨b,0,none⟩),.int .i64 0])∧PartsS w' b d x l ml p t∧DevS w' d g m n fs fuse nilS stale 0 0 safe k mf wr∧Turn (fun q=>q=d) w w'∧w.heap.size≤p∧(∃mt,TxF w.heap.size 1 t mt w')∧w.heap.size≤b
theorem open_ok (w:World) (d g m n:Nat) (fs:Bool) (fuse:Int) (stale:Int) (safe:List (List UInt8)) (k:Nat) (mf:Int→Option Value) (wr:Nat→List (List UInt8))
  (h:DevS w d g m n fs fuse (.slice none 0 0) stale 0 0 safe k mf wr) (h0:0<n) (hn:n≤1024) (hw:(wr 0).length≤1000000) (hfu:fs=true→0<fuse∧fuse≤9223372036854775807) (x:ConfD) (u:Int) (hx:metaG (pgOf safe wr 0)=some (x,u)) (hr:rightP (pgOf safe wr 0) 0=true) (hp:x.p≤n) (hfu2:fs=true→1<fuse) (fu2:Int) (hfe:fu2=if fs=true then fuse-2 else fuse):
  Calls Tryz.prog 31 #[.pointer (some ⟨d,0,none⟩)] w (OpenP w d g m n fs fu2 stale safe k mf wr x):=by
 obtain ⟨fu1,hf1⟩:∃v,v=(if fs=true then fuse-1 else fuse):=⟨_,rfl⟩
 have HF1:=hide hf1
 have HFU1:=hide (show fs=true→0<fu1∧fu1≤9223372036854775807 by intro hh;rw [hf1,if_pos hh];have:=hfu hh;have:=hfu2 hh;omega)
 have HFU2:=hide (show (if fs=true then fu1-1 else fu1)=fu2 by rw [hf1,hfe];split<;>first|omega|rfl)
 clear hf1 hfu2 hfe
 have HRD:=hide (show Calls Tryz.prog 58 #[.pointer (some ⟨d,0,none⟩),.int .i64 0] w _ from devRead_any w d g m n fs fuse (.slice none 0 0) stale 0 0 safe k mf wr 0 h h0 hn hw hfu)
 have hl:=pgOf_length h h0
 have HS:=hide h
 have hd:=h.lt d (.inl rfl)
 generalize pgOf safe wr 0=bs at*
 have HCH:=hide (fun W=>pCheck_any bs hl 0 W)
 have HMG:=hide (fun W=>metaGet_any bs hl W)
 rw [hx] at HMG
 have hok:=metaG_conf hx
 have hre:=rightE_yes hr
 rw [hre] at HCH
 have HDB:=hide (fun q hq=>h.lt q hq)
 clear h hfu hx hr hre
 obtain ⟨hl1,hl2,hf1,hf2⟩:=confOk_l hok
 clear hok
 have HPX:=hide (pg_size bs hl)
 have HPI:=hide (show (Tryz.prog.info? 116).map (·.size)=some ((bs.map byteV).toArray).size by rw [HPX.out];exact info_pg)
 have HPZ:=hide (show Tryz.zeroCells116.size=((bs.map byteV).toArray).size by rw [HPX.out];exact zeros_page)
 have HP1:=hide (row_one bs)
 unfold pgV at*
 generalize hX:(bs.map byteV).toArray=X at*
 clear hX hl
 refine (callsIn_wide (n:=9)).1 ?_
 refine callsIn_of_wp_marks Tryz.func31 rfl trivial ?_ rfl
 simp only [Tryz.ntmps31,List.size_toArray,List.length_cons,List.length_nil,Nat.reduceAdd,Nat.reduceSub,Array.replicate_succ,Array.replicate_zero,List.push_toArray,List.append_toArray,List.nil_append,List.cons_append]
 refine wpIn_wide.2 ?_
 go_upto_region 3 with (fail)
 go_wp2_with fail
 refine HRD.out.mono ?_
 rintro e W1 ⟨rfl,hs1,ht1⟩
 rw [← HF1.out] at hs1
 have HS1:=hide hs1
 have HT1:=hide ht1
 have hz1:=ht1.size
 clear hs1 ht1
 go_upto_region 4 with (refine wpList_store_row rfl 116 (.tmp 4) (.tmp 17) rfl W1.heap.size X rfl rfl 116 _ (Blk.new W1 _ _) HPI.out HPZ.out HP1.out ?_)
 refine nameW (w:=World.setRow _ W1.heap.size X) (R:=fun W=>Code.wp _ _ _ _ W) (fun W2 hW2=>?_)
 have kp2:Blk W2 W1.heap.size 116 X:=by
  rw [hW2]
  exact setRow_heap _ W1.heap.size _ _ _ _ (Blk.new W1 _ _)
 have hb2:Below W1.heap.size W1 W2:=by
  rw [hW2]
  exact (touch_setRow _ W1.heap.size X).below ((Below.refl W1.heap.size W1).alloc (Nat.le_refl _) _) (Nat.le_refl _)
 obtain ⟨gp,hgp⟩:∃g,g=W1.heap.size:=⟨_,rfl⟩
 rw [← hgp] at kp2
 rw [← hgp]
 have KP2:=hide kp2
 have HB2:=hide hb2
 have hz2:=hb2.size
 clear hW2 kp2 hb2 hgp
 go_wp2_with (refine wpList_load_row rfl 116 (.tmp 4) rfl gp rfl 116 X (0,0) _ KP2.out Tryz.underlying116 rfl HPI.out ?_)
 refine (HMG.out _).mono ?_
 rintro e W3 ⟨hcase,hb3⟩
 have he:e= .returned (.tuple #[confV x,.int .i64 u,.int .i64 0]):=by
  rcases hcase with ⟨h1,_⟩|⟨x',u',h1,h2⟩
  ·cases h1
  ·injection h1 with h1
   injection h1 with h3 h4
   rw [h2,h3,h4]
 clear hcase
 subst he
 unfold confV
 go_upto_region 7 with (fail)
 refine gen1 (R:=fun W=>Code.wp _ _ _ _ W) (fun W4 kC hb4 hz4=>?_)
 obtain ⟨gc,hgc⟩:∃g,g=W3.heap.size:=⟨_,rfl⟩
 rw [← hgc] at kC
 rw [← hgc]
 have h34:Below W2.heap.size W2 W4:=hb3.trans (hb4.mono hb3.size)
 have h14:Below W1.heap.size W1 W4:=HB2.out.trans (h34.mono hz2)
 have KC:=hide kC
 have KP:=hide (Blk.via h34 KP2.out)
 have HS4:=hide (HS1.out.via h14)
 have HT4:=hide (HT1.out.trans (Turn.of_below h14))
 have HPG:=hide (fun W (hb:Below W4.heap.size W4 W)=>(show Calls Tryz.prog 52 #[.pointer (some ⟨d,0,none⟩)] W (fun e w'=>e= .returned (.int .i64 (n:Nat))∧w'=W) by
  obtain ⟨o,kd⟩:=(HS4.out.via hb).kd
  exact devPagesF_any _ d _ n n _ _ _ _ _ _ _ W kd))
 clear kC h34 h14 hb3 hb4 hgc
 have hlt2:decide ((n:Int)<x.p)=false:=decide_eq_false (Int.not_lt.2 hp)
 clear hp
 refine wp_region_inv [fun v _=>v= .int .i64 0,fun v _=>v= .bool false,fun v _=>v= .bool false,fun v _=>v= .agg X,fun v _=>v= .int .i64 0,fun v _=>v= .bool false,fun v _=>v= .bool false,fun v _=>v= .bool false,fun v _=>v= .pointer (some ⟨d,0,none⟩),fun v _=>v= .int .i64 (n:Nat),fun v _=>v= .pointer (some ⟨gc,1,none⟩),fun v _=>v= .int .i64 x.p,fun v _=>v= .bool false,fun v _=>v= .bool false] (by kernel_rfl) (by kernel_rfl) (by kernel_rfl) ?st ?steps ?fin
 case st=>
  intro i v W W' hWW h
  match i with
  |0|1|2|3|4|5|6|7|8|9|10|11|12|13=>exact h
  |(i+14)=>exact h
 case steps=>
  simp only [stepsI]
  refine ⟨?_,?_,?_,?_,?_,?_,?_,?_,?_,?_,?_,?_,?_,?_,trivial⟩
  ·intro f W hbW hdp
   simp only [fS,Nat.reduceAdd]
   go_wp2
   exact ⟨rfl,_,rfl,rfl,Below.refl _ _⟩
  ·intro f W hbW hdp
   have e0:f 0= .int .i64 0:=hdp ⟨0,.data⟩ (mfl (by simp) rfl)
   simp only [fS,Nat.reduceAdd,e0]
   go_wp2
   exact ⟨rfl,_,rfl,rfl,Below.refl _ _⟩
  ·intro f W hbW hdp
   have e1:f 1= .bool false:=hdp ⟨1,.data⟩ (mfl (by simp) rfl)
   simp only [fS,Nat.reduceAdd,e1]
   go_wp2
   exact ⟨rfl,_,rfl,rfl,Below.refl _ _⟩
  ·intro f W hbW hdp
   have e2:f 2= .bool false:=hdp ⟨2,.guard⟩ (mfl (by simp) rfl)
   have kB:=hide (Blk.via hbW KP.out)
   simp only [fS,Nat.reduceAdd,e2]
   refine wpList_load_rowG (by simp [Region.wanted,yielded]) 116 (.tmp 4) rfl gp rfl 116 X (0,0) _ kB.out Tryz.underlying116 rfl HPI.out ?_
   exact ⟨rfl,_,rfl,rfl,Below.refl _ _⟩
  ·intro f W hbW hdp
   have e2:f 2= .bool false:=hdp ⟨2,.guard⟩ (mfl (by simp) rfl)
   have e3:f 3= .agg X:=hdp ⟨3,.data⟩ (mfl (by simp) rfl)
   simp only [fS,Nat.reduceAdd,e2,e3]
   go_wp2_with (go_at_call 60;refine (HCH.out _).mono ?_;rintro e w' ⟨rfl,hb'⟩)
   exact ⟨rfl,_,rfl,rfl,hb'⟩
  ·intro f W hbW hdp
   have e2:f 2= .bool false:=hdp ⟨2,.guard⟩ (mfl (by simp) rfl)
   have e4:f 4= .int .i64 0:=hdp ⟨4,.data⟩ (mfl (by simp) rfl)
   simp only [fS,Nat.reduceAdd,e2,e4]
   go_wp2
   exact ⟨rfl,_,rfl,rfl,Below.refl _ _⟩
  ·intro f W hbW hdp
   have e2:f 2= .bool false:=hdp ⟨2,.data⟩ (mfl (by simp) rfl)
   have e5:f 5= .bool false:=hdp ⟨5,.data⟩ (mfl (by simp) rfl)
   simp only [fS,Nat.reduceAdd,e2,e5]
   go_wp2
   exact ⟨rfl,_,rfl,rfl,Below.refl _ _⟩
  ·intro f W hbW hdp
   have e6:f 6= .bool false:=hdp ⟨6,.data⟩ (mfl (by simp) rfl)
   simp only [fS,Nat.reduceAdd,e6]
   go_wp2
   exact ⟨rfl,_,rfl,rfl,Below.refl _ _⟩
  ·intro f W hbW hdp
   have e7:f 7= .bool false:=hdp ⟨7,.guard⟩ (mfl (by simp) rfl)
   simp only [fS,Nat.reduceAdd,e7]
   go_wp2
   exact ⟨rfl,_,rfl,rfl,Below.refl _ _⟩
  ·intro f W hbW hdp
   have e7:f 7= .bool false:=hdp ⟨7,.guard⟩ (mfl (by simp) rfl)
   have e8:f 8= .pointer (some ⟨d,0,none⟩):=hdp ⟨8,.data⟩ (mfl (by simp) rfl)
   simp only [fS,Nat.reduceAdd,e7,e8]
   go_wp2_with (go_at_call 52;refine (HPG.out _ hbW).mono ?_;rintro e w' ⟨rfl,hw'⟩;obtain rfl:=hw'.symm)
   exact ⟨rfl,_,rfl,rfl,Below.refl _ _⟩
  ·intro f W hbW hdp
   have e7:f 7= .bool false:=hdp ⟨7,.guard⟩ (mfl (by simp) rfl)
   simp only [fS,Nat.reduceAdd,e7]
   go_wp2
   exact ⟨rfl,_,rfl,rfl,Below.refl _ _⟩
  ·intro f W hbW hdp
   have e7:f 7= .bool false:=hdp ⟨7,.guard⟩ (mfl (by simp) rfl)
   have e10:f 10= .pointer (some ⟨gc,1,none⟩):=hdp ⟨10,.data⟩ (mfl (by simp) rfl)
   have z1:=(Blk.via hbW KC.out).cell 1
   simp only [fS,Nat.reduceAdd,e7,e10]
   go_wp2
   exact ⟨rfl,_,rfl,rfl,Below.refl _ _⟩
  ·intro f W hbW hdp
   have e7:f 7= .bool false:=hdp ⟨7,.guard⟩ (mfl (by simp) rfl)
   have e9:f 9= .int .i64 (n:Nat):=hdp ⟨9,.data⟩ (mfl (by simp) rfl)
   have e11:f 11= .int .i64 x.p:=hdp ⟨11,.data⟩ (mfl (by simp) rfl)
   simp only [fS,Nat.reduceAdd,e7,e9,e11]
   go_wp2
   exact ⟨rfl,_,rfl,rfl,Below.refl _ _⟩
  ·intro f W hbW hdp
   have e7:f 7= .bool false:=hdp ⟨7,.data⟩ (mfl (by simp) rfl)
   have e12:f 12= .bool false:=hdp ⟨12,.data⟩ (mfl (by simp) rfl)
   simp only [fS,Nat.reduceAdd,e7,e12]
   go_wp2
   exact ⟨rfl,_,rfl,rfl,Below.refl _ _⟩
 case fin=>
  intro f W hbW hA
  have e13:f 13= .bool false:=hA 13 (by simp)
  show wpList Tryz.prog #[] (Exit.then _ _) [] _ _
  simp only [fS,Nat.reduceAdd,e13]
  clear hA e13
  have h5:=HS4.out.via hbW
  have HT5:=hide (HT4.out.trans (Turn.of_below hbW))
  have KC5:=hide (Blk.via hbW KC.out)
  have HS5:=hide h5
  obtain ⟨o5,kd5⟩:=h5.kd
  have hgd:=KC5.out.ne_ kd5 (by decide)
  have HWL:=hide (walLoadF_any fs d (1024*x.l) _ _ stale fu1 o5 W (by omega) (by omega) HFU1.out kd5)
  have z4:W.cell? ⟨gc,4,none⟩=some (.int .i64 x.l):=KC5.out.cell 4
  clear hbW h5 kd5
  go_wp2_with fail
  refine HWL.out.mono ?_
  rintro e W6 ⟨l,ml,o6,rfl,kl6,hm6,kd6,hl6,hml6,ht6⟩
  rw [HFU2.out] at kd6
  have hs6:=HS5.out.turnd ht6 ⟨o6,kd6⟩
  have HS6:=hide hs6
  have HT6:=hide (HT5.out.trans ht6)
  have KC6:=hide (ht6.blk KC5.out hgd)
  have KL6:=hide kl6
  have HM6:=hide hm6
  have HDL:=hide (fun q hq=>hs6.lt q hq)
  have hml:=hm6.lt
  have hll:=kl6.lt
  clear kl6 hm6 kd6 ht6 hs6 z4 hgd
  go_upto_region 13 with (fail)
  have HAL:=hide (fun w=>(callsIn_wide (n:=9)).1 (wAll_in Fence.wide 9 trivial rfl (.pointer (some ⟨l,0,none⟩)) ⟨_,rfl⟩ w))
  go_wp2_with (go_at_call 62;refine (HAL.out _).mono ?_;rintro e w' ⟨rfl,hw'⟩;subst hw')
  refine gen2 (R:=fun W=>Code.wp _ _ _ _ W) (fun W7 kN kB hb7 hz7=>?_)
  have HB7:=hide hb7
  have KN7:=hide kN
  have KB7:=hide kB
  clear kN kB hb7
  refine (wpIn_wide (n:=9)).1 ?_
  refine wpIn_rangeFunc_ownH (α:=Empty) (encs:=fun x=>x.elim) (Kp:=fun _ _=>True) (S:=fun xs=>xs=[]) (Sp:=fun _=>False) (N:=0) (w0:=W7) rfl (by omega) (gf:=120) (lb:=#[.pointer (some ⟨W6.heap.size+1,0,none⟩)]) rfl trivial (enters_of Tryz.func120 (by kernel_rfl) rfl) ?seq
   (fun _ _=>trivial) (fun _ _ _ _ _ _ _ _=>trivial) (Below.refl _ _) (fun x=>x.elim)
   (fun _ W=>Below W7.heap.size W7 W) (fun _ _ _=>False) ?own (fun _ _ _ _ _ hs _ _=>hs) ?start (fun x _ _=>x.elim) (fun x _=>x.elim) ?assign ?body ?done ?stop
  case seq=>
   intro lp J Jx W hW hJ _ _ h0
   refine (all1_empty 8 (by omega) lp (W6.heap.size+1) l d ml _ W (Blk.via hW KB7.out) (Blk.via hW (Blk.via HB7.out KL6.out))).mono ?_
   rintro e W' ⟨hv,hb⟩
   exact ⟨hv,.inl ⟨[],rfl,hJ [] W W' none h0 ⟨hb.os,hb.tape,hb.output,hb.size,fun q hq _=>hb.block q hq⟩ (fun r e=>by cases e)⟩⟩
  case own=>
   rintro hs W W' row k1 hg hr
   exact k1.grown hg k1.size (fun q hq=>by have:=(hr q hq).1;omega)
  case start=>exact Below.refl _ _
  case assign=>intro _ _ x;exact x.elim
  case body=>intro _ _ x;exact x.elim
  case stop=>rintro _ _ _ _ _ hF _ _;exact hF.elim
  case done=>
   rintro D xs V hD hS i1 hK
   have hDl:D<V.heap.size:=(Array.getElem?_eq_some_iff.1 hK).1
   have hDW:W7.heap.size≤D:=by omega
   have h7:=HB7.out.trans (i1.mono HB7.out.size)
   have KC8:=hide (Blk.via h7 KC6.out)
   have KL8:=hide (Blk.via h7 KL6.out)
   have HM8:=hide (HM6.out.kept (h7.block _ HM6.out.lt))
   have HS8:=hide (HS6.out.via h7)
   have HT8:=hide (HT6.out.trans (Turn.of_below h7))
   have KN8:=hide (Blk.via i1 KN7.out)
   have HKK:=hide hK
   have hlt9:=(Blk.via i1 KN7.out).lt
   have hlt8:=KC8.out.lt
   have HPO:=hide (fun W=>poolNew_any d l x.f W (by omega) hf2)
   have HTX:=hide (fun W=>txnsNew_any 1 (by omega) (by omega) W)
   have HLN:=hide (fun W=>locksNew_any W)
   have HHN:=hide (fun W=>latchNew_any W)
   have HEN:=hide (fun W=>escrowNew_any W)
   clear hS i1 hK h7
   dsimp only
   go_upto_region 16 with (fail)
   refine wp_region_inv [fun v _=>v= .pointer (some ⟨d,0,none⟩),fun v _=>v= .agg #[.int .i64 x.b,.int .i64 x.p,.int .i64 x.f,.int .i64 x.c,.int .i64 x.l],fun v _=>v= .pointer (some ⟨l,0,none⟩),fun v _=>v= .pointer (some ⟨d,0,none⟩),fun v _=>v= .pointer (some ⟨l,0,none⟩),fun v _=>v= .iface 78 (.pointer (some ⟨l,0,none⟩)),fun v _=>v= .pointer (some ⟨gc,2,none⟩),fun v _=>v= .int .i64 x.f,fun v W=>∃p:Nat,v= .pointer (some ⟨p,0,none⟩)∧Blk W p 174 (poolC d l x.f (.slice none 0 0))∧w.heap.size≤p,fun v W=>∃p:Nat,v= .pointer (some ⟨p,0,none⟩),fun v W=>∃p:Nat,v= .pointer (some ⟨p,0,none⟩),fun v W=>∃p:Nat,v= .pointer (some ⟨p,0,none⟩),fun v _=>v= .int .i64 0,fun v _=>v= .int .i64 1,fun v W=>∃p mt:Nat,v= .pointer (some ⟨p,0,none⟩)∧TxF w.heap.size 1 p mt W,fun v W=>PartsV w.heap.size d l x v W,fun v W=>BaseV w.heap.size d l x v W,fun v W=>BaseV w.heap.size d l x v W,fun v _=>v= .int .i64 0] (by kernel_rfl) (by kernel_rfl) (by kernel_rfl) ?st ?steps ?fin
   case st=>
    intro i v W W' hWW h
    match i with
    |0|1|2|3|4|5|6|7|12|13|18=>exact h
    |8=>obtain ⟨p,h1,h2,h3⟩:=h;exact ⟨p,h1,Blk.via hWW h2,h3⟩
    |9=>exact h
    |10=>exact h
    |11=>exact h
    |14=>obtain ⟨p,mt,h1,h2⟩:=h;exact ⟨p,mt,h1,h2.via hWW⟩
    |15=>obtain ⟨p,k1,k2,k3,t,mt,h1,h2,h3,h4⟩:=h;exact ⟨p,k1,k2,k3,t,mt,h1,Blk.via hWW h2,h3.via hWW,h4⟩
    |16=>obtain ⟨b,p,k1,k2,k3,t,mt,h1,h2,h3,h4,h5⟩:=h;exact ⟨b,p,k1,k2,k3,t,mt,h1,Blk.via hWW h2,Blk.via hWW h3,h4.via hWW,h5⟩
    |17=>obtain ⟨b,p,k1,k2,k3,t,mt,h1,h2,h3,h4,h5⟩:=h;exact ⟨b,p,k1,k2,k3,t,mt,h1,Blk.via hWW h2,Blk.via hWW h3,h4.via hWW,h5⟩
    |(i+19)=>exact h
   case steps=>
    simp only [stepsI]
    refine ⟨?_,?_,?_,?_,?_,?_,?_,?_,?_,?_,?_,?_,?_,?_,?_,?_,?_,?_,?_,trivial⟩
    ·intro f W hbW hdp
     simp only [fS,Nat.reduceAdd]
     go_wp2
     exact ⟨rfl,_,rfl,rfl,Below.refl _ _⟩
    ·intro f W hbW hdp
     have kc:=Blk.via hbW KC8.out
     have z0:=kc.cell 0
     have z1:=kc.cell 1
     have z2:=kc.cell 2
     have z3:=kc.cell 3
     have z4:=kc.cell 4
     have zl:=kc.lt
     simp only [fS,Nat.reduceAdd]
     go_wp2
     exact ⟨rfl,_,rfl,rfl,Below.refl _ _⟩
    ·intro f W hbW hdp
     simp only [fS,Nat.reduceAdd]
     go_wp2
     exact ⟨rfl,_,rfl,rfl,Below.refl _ _⟩
    ·intro f W hbW hdp
     simp only [fS,Nat.reduceAdd]
     go_wp2
     exact ⟨rfl,_,rfl,rfl,Below.refl _ _⟩
    ·intro f W hbW hdp
     simp only [fS,Nat.reduceAdd]
     go_wp2
     exact ⟨rfl,_,rfl,rfl,Below.refl _ _⟩
    ·intro f W hbW hdp
     have e4:f 4= .pointer (some ⟨l,0,none⟩):=hdp ⟨4,.data⟩ (mfl (by simp) rfl)
     simp only [fS,Nat.reduceAdd,e4]
     go_wp2
     exact ⟨rfl,_,rfl,rfl,Below.refl _ _⟩
    ·intro f W hbW hdp
     simp only [fS,Nat.reduceAdd]
     go_wp2
     exact ⟨rfl,_,rfl,rfl,Below.refl _ _⟩
    ·intro f W hbW hdp
     have e6:f 6= .pointer (some ⟨gc,2,none⟩):=hdp ⟨6,.data⟩ (mfl (by simp) rfl)
     have z2:=(Blk.via hbW KC8.out).cell 2
     simp only [fS,Nat.reduceAdd,e6]
     go_wp2
     exact ⟨rfl,_,rfl,rfl,Below.refl _ _⟩
    ·intro f W hbW hdp
     have e3:f 3= .pointer (some ⟨d,0,none⟩):=hdp ⟨3,.data⟩ (mfl (by simp) rfl)
     have e5:f 5= .iface 78 (.pointer (some ⟨l,0,none⟩)):=hdp ⟨5,.data⟩ (mfl (by simp) rfl)
     have e7:f 7= .int .i64 x.f:=hdp ⟨7,.data⟩ (mfl (by simp) rfl)
     simp only [fS,Nat.reduceAdd,e3,e5,e7]
     go_wp2_with (go_at_call 63;refine (HPO.out _).mono ?_;rintro e w' ⟨p,rfl,kp,hlp,hb'⟩)
     exact ⟨rfl,_,rfl,⟨p,rfl,kp,Nat.le_trans (Nat.le_trans HT8.out.size hbW.size) hlp⟩,hb'⟩
    ·intro f W hbW hdp
     simp only [fS,Nat.reduceAdd]
     go_wp2_with (go_at_call 64;refine (HLN.out _).mono ?_;rintro e w' ⟨⟨p,rfl,hlp⟩,hb'⟩)
     exact ⟨rfl,_,rfl,⟨p,rfl⟩,hb'⟩
    ·intro f W hbW hdp
     simp only [fS,Nat.reduceAdd]
     go_wp2_with (go_at_call 65;refine (HHN.out _).mono ?_;rintro e w' ⟨⟨p,rfl,hlp⟩,hb'⟩)
     exact ⟨rfl,_,rfl,⟨p,rfl⟩,hb'⟩
    ·intro f W hbW hdp
     simp only [fS,Nat.reduceAdd]
     go_wp2_with (go_at_call 66;refine (HEN.out _).mono ?_;rintro e w' ⟨⟨p,rfl,hlp⟩,hb'⟩)
     exact ⟨rfl,_,rfl,⟨p,rfl⟩,hb'⟩
    ·intro f W hbW hdp
     have zn:=(Blk.via hbW KN8.out).cell 0
     have zl:=(Blk.via hbW KN8.out).lt
     simp only [fS,Nat.reduceAdd]
     go_wp2
     exact ⟨rfl,_,rfl,rfl,Below.refl _ _⟩
    ·intro f W hbW hdp
     have e12:f 12= .int .i64 0:=hdp ⟨12,.data⟩ (mfl (by simp) rfl)
     simp only [fS,Nat.reduceAdd,e12]
     go_wp2
     exact ⟨rfl,_,rfl,rfl,Below.refl _ _⟩
    ·intro f W hbW hdp
     have e13:f 13= .int .i64 1:=hdp ⟨13,.data⟩ (mfl (by simp) rfl)
     simp only [fS,Nat.reduceAdd,e13]
     go_wp2_with (go_at_call 67;refine (HTX.out _).mono ?_;rintro e w' ⟨p,mt,rfl,kt,hb'⟩)
     exact ⟨rfl,_,rfl,⟨p,mt,rfl,kt.more (Nat.le_trans HT8.out.size hbW.size)⟩,hb'⟩
    ·intro f W hbW hdp
     have e0:f 0= .pointer (some ⟨d,0,none⟩):=hdp ⟨0,.data⟩ (mfl (by simp) rfl)
     have e1:f 1= .agg #[.int .i64 x.b,.int .i64 x.p,.int .i64 x.f,.int .i64 x.c,.int .i64 x.l]:=hdp ⟨1,.data⟩ (mfl (by simp) rfl)
     have e2:f 2= .pointer (some ⟨l,0,none⟩):=hdp ⟨2,.data⟩ (mfl (by simp) rfl)
     have e8:∃p:Nat,(f 8)= .pointer (some ⟨p,0,none⟩)∧Blk W p 174 (poolC d l x.f (.slice none 0 0))∧w.heap.size≤p:=hdp ⟨8,.data⟩ (mfl (by simp) rfl)
     have e9:∃p:Nat,(f 9)= .pointer (some ⟨p,0,none⟩):=hdp ⟨9,.data⟩ (mfl (by simp) rfl)
     have e10:∃p:Nat,(f 10)= .pointer (some ⟨p,0,none⟩):=hdp ⟨10,.data⟩ (mfl (by simp) rfl)
     have e11:∃p:Nat,(f 11)= .pointer (some ⟨p,0,none⟩):=hdp ⟨11,.data⟩ (mfl (by simp) rfl)
     have e14:∃p mt:Nat,(f 14)= .pointer (some ⟨p,0,none⟩)∧TxF w.heap.size 1 p mt W:=hdp ⟨14,.data⟩ (mfl (by simp) rfl)
     obtain ⟨p,h8,kp,hpN⟩:=e8
     obtain ⟨k1,h9⟩:=e9
     obtain ⟨k2,h10⟩:=e10
     obtain ⟨k3,h11⟩:=e11
     obtain ⟨t,mt,h14,kt⟩:=e14
     simp only [fS,Nat.reduceAdd,e0,e1,e2]
     simp only [h8,h9,h10,h11,h14]
     clear h8 h9 h10 h11 h14
     go_wp2
     exact ⟨rfl,_,rfl,Exists.intro p ⟨k1,k2,k3,t,mt,rfl,kp,kt,hpN⟩,Below.refl _ _⟩
    ·intro f W hbW hdp
     have e15:PartsV w.heap.size d l x (f 15) W:=hdp ⟨15,.data⟩ (mfl (by simp) rfl)
     obtain ⟨p,k1,k2,k3,t,mt,h15,kp,kt,hpN⟩:=e15
     simp only [fS,Nat.reduceAdd]
     simp only [h15]
     clear h15
     go_wp2
     exact ⟨rfl,_,rfl,Exists.intro _ ⟨p,k1,k2,k3,t,mt,rfl,Blk.new _ _ _,kp.alloc _,kt.alloc _,hpN,Nat.le_trans HT8.out.size hbW.size⟩,(Below.refl _ _).alloc (Nat.le_refl _) _⟩
    ·intro f W hbW hdp
     have e16:BaseV w.heap.size d l x (f 16) W:=hdp ⟨16,.data⟩ (mfl (by simp) rfl)
     obtain ⟨b,p,k1,k2,k3,t,mt,h16,kb,kp,kt,hpN⟩:=e16
     simp only [fS,Nat.reduceAdd]
     simp only [h16]
     clear h16
     go_wp2
     exact ⟨rfl,_,rfl,Exists.intro b ⟨p,k1,k2,k3,t,mt,rfl,kb,kp,kt,hpN⟩,Below.refl _ _⟩
    ·intro f W hbW hdp
     simp only [fS,Nat.reduceAdd]
     go_wp2
     exact ⟨rfl,_,rfl,rfl,Below.refl _ _⟩
   case fin=>
    intro f W hbW hA
    have a17:BaseV w.heap.size d l x (f 17) W:=hA 17 (by simp)
    have e18:f 18= .int .i64 0:=hA 18 (by simp)
    show wpList Tryz.prog #[] (Exit.then _ _) [] _ _
    simp only [fS,Nat.reduceAdd,e18]
    clear hA e18
    obtain ⟨b,p,k1,k2,k3,t,mt,h17,kb,kp,kt,hpN,hbN⟩:=a17
    simp only [h17]
    have KB9:=hide kb
    have KP9:=hide kp
    have KT9:=hide kt
    have HB9:=hide hbW
    clear h17 kb kp kt hbW
    go_wp2_with fail
    have hDk:W.heap[D]?=some (.deferred (some [])):=(HB9.out.block D hDl).trans HKK.out
    have hg6:=grownBy_putObj' W D (.deferred none)
    have o1:∀{q:Nat} {t:TypeId} {c:Array Value},Blk W q t c→Blk (W.putObj D (.deferred none)) q t c:=fun k=>(World.putObj_heap_other (blk_ne_mark k hDk)).trans k
    have tD:Turn (fun q=>q=D) W (W.putObj D (.deferred none)):=⟨hg6.os,hg6.tape,hg6.output,hg6.size,fun q hq hn=>hg6.block q hq (fun e=>by injection e with e;exact hn e)⟩
    have hsz7:=HB7.out.size
    have TXE:TxF w.heap.size 1 t mt (W.putObj D (.deferred none)):=KT9.out.keep (World.putObj_heap_other (blk_ne_mark KT9.out.k hDk)) (World.putObj_heap_other (fun e=>by obtain ⟨D',⟨es,clock,h1,_⟩,_⟩:=KT9.out.m;rw [e,hDk] at h1;cases h1))
    refine leave_mark (v:= .tuple #[.pointer (some ⟨b,0,none⟩),.int .i64 0]) hDk (by simp [results,Tryz.results31,go_sem]) ⟨b,l,ml,p,t,rfl,⟨⟨k1,k2,k3,o1 KB9.out⟩,o1 (Blk.via HB9.out KL8.out),(HM8.out.kept (HB9.out.block _ HM8.out.lt)).kept (World.putObj_heap_other (by omega)),o1 KP9.out,mt,TXE.more (Nat.zero_le _)⟩,(HS8.out.via HB9.out).keep tD (fun q hq e=>by have:=HDL.out q hq;omega),?_,hpN,⟨mt,TXE⟩,hbN⟩
    have hT:=HT8.out.trans (Turn.of_below HB9.out)
    have hlw:=HS.out.lt
    exact ⟨tD.os.trans hT.os,tD.tape.trans hT.tape,tD.output.trans hT.output,Nat.le_trans hT.size tD.size,fun q hq hn=>(tD.block q (Nat.lt_of_lt_of_le hq hT.size) (fun e=>by have:=HT6.out.size;omega)).trans (hT.block q hq hn)⟩
end Go.Proofs.YtnkjkgmohmcobaaGreatDoor
namespace Go.Proofs.YtnkjkgmohmcobaaGreatDoor
open Go.RowKit Go.Shelf Go.Maps
def zPg:List UInt8:=List.replicate 512 0
theorem zPg_zero:(zPg.map byteV).toArray=Tryz.zeroCells116:=by rfl
end Go.Proofs.YtnkjkgmohmcobaaGreatDoor
namespace Go.Proofs.YtnkjkgmohmcobaaGreatDoor
open Go.RowKit Go.Shelf Go.Maps
theorem flat_rep (n:Nat):(List.replicate n zPg).flatMap (fun p=>p.map byteV)=List.replicate (n*512) (byteV 0):=by
 induction n with
 |zero=>simp
 |succ n ih=>
  rw [List.replicate_succ,List.flatMap_cons,ih,zPg,List.map_replicate,List.replicate_append_replicate]
  congr 1
  omega
theorem zPg_length:zPg.length=512:=List.length_replicate
theorem pagesZ_eq (n:Nat):pagesZ n=((List.replicate n zPg).flatMap (fun p=>p.map byteV)).toArray:=by
 rw [flat_rep]
 have hz:(Value.agg Tryz.zeroCells116).cells=(zPg.map byteV).toArray:=zPg_zero.symm
 unfold pagesZ
 rw [hz]
 unfold madeCells
 apply Array.ext'
 rw [Array.toList_map]
 refine List.eq_replicate_iff.2 ⟨by simp,?_⟩
 intro v hv
 obtain ⟨i,hi,rfl⟩:=List.mem_map.1 hv
 have hs:((zPg.map byteV).toArray).size=512:=by rw [List.size_toArray,List.length_map,zPg_length]
 rw [hs]
 have hlt:i%512<((zPg.map byteV).toArray).size:=by rw [hs];exact Nat.mod_lt _ (by omega)
 rw [getElem!_pos (zPg.map byteV).toArray (i%512) hlt]
 rw [List.getElem_toArray,List.getElem_map]
 congr 1
 exact List.getElem_replicate _
theorem DevS.fresh {w:World} {d g m n:Nat} (kd:Blk w d 113 (devC (.slice (some ⟨g,0,none⟩) n n) (.map (some m)) (.slice none 0 0) 0 0 0 0 0)) (kg:Blk w g 116 (pagesZ n)) (hm:MapF w m 0 (fun _=>none)):
  DevS w d g m n false 0 (.slice none 0 0) 0 0 0 (List.replicate n zPg) 0 (fun _=>none) (fun _=>[]):=
 ⟨⟨0,kd⟩,by rw [← pagesZ_eq];exact kg,by simp,fun p hp=>(by rw [List.eq_of_mem_replicate hp];exact zPg_length),hm,fun _ p hp=>(by cases hp),
  fun _=>World.ownsRow_nil _ _ _ _,fun _ h=>(by cases h),fun _ _ _ _ h=>(by cases h)⟩
end Go.Proofs.YtnkjkgmohmcobaaGreatDoor
namespace Go.Proofs.YtnkjkgmohmcobaaGreatDoor
open Go.RowKit Go.Maps
def ptrV (a:Nat):Value:= .pointer (some ⟨a,0,none⟩)
def RowF (b:Nat) (W:World) (v:Value) (l:List Nat):Prop:=W.ownsRow b 167 1 v l.length (l.map ptrV)
end Go.Proofs.YtnkjkgmohmcobaaGreatDoor
namespace Go.Proofs.YtnkjkgmohmcobaaGreatDoor
open Go.RowKit Go.Maps
def wo (l:List Nat) (x:Nat):List Nat:=l.filter (fun a=>a != x)
end Go.Proofs.YtnkjkgmohmcobaaGreatDoor
namespace Go.Proofs.YtnkjkgmohmcobaaGreatDoor
open Go.RowKit Go.Maps
structure FrD where
 no:Nat
 ad:Nat
 bs:List UInt8
 dirty:Bool
 pins:Nat
def frC (x:FrD):Array Value:=(.int .i64 x.no::(x.bs.map byteV++[.bool x.dirty,.int .i64 x.pins])).toArray
structure PoolF (W:World) (p d l:Nat) (f:Int) (fs:List FrD):Prop where
 kp:∃v,Blk W p 174 (poolC d l f v)∧RowF p W v (fs.map FrD.ad)
 fb:∀x∈fs,Blk W x.ad 240 (frC x)∧x.bs.length=512
end Go.Proofs.YtnkjkgmohmcobaaGreatDoor
namespace Go.Proofs.YtnkjkgmohmcobaaGreatDoor
open Go.RowKit Go.Maps
structure PoolC (W:World) (p d l:Nat) (f:Int) (n:Nat) (pg:Nat→List UInt8) (fs:List FrD):Prop where
 pf:PoolF W p d l f fs
 ln:(fs.length:Int)≤f
 cl:∀y∈fs,y.bs=pg y.no∧y.dirty=false∧y.pins=0∧y.no<n∧rightP y.bs y.no=true
end Go.Proofs.YtnkjkgmohmcobaaGreatDoor
namespace Go.Proofs.YtnkjkgmohmcobaaGreatDoor
open Go.RowKit Go.Maps
def baseC (d l p:Nat) (x:ConfD) (k1 k2 k3 t:Nat):Array Value:=#[.pointer (some ⟨d,0,none⟩),.int .i64 x.b,.int .i64 x.p,.int .i64 x.f,.int .i64 x.c,.int .i64 x.l,.pointer (some ⟨l,0,none⟩),.pointer (some ⟨p,0,none⟩),.pointer (some ⟨k1,0,none⟩),.pointer (some ⟨k2,0,none⟩),.pointer (some ⟨k3,0,none⟩),.pointer (some ⟨t,0,none⟩)]
structure StN where
 b:Nat
 d:Nat
 g:Nat
 m:Nat
 n:Nat
 p:Nat
 l:Nat
 x:ConfD
 stale:Int
 safe:List (List UInt8)
 k:Nat
 mf:Int→Option Value
 wr:Nat→List (List UInt8)
def StN.pg (s:StN):Nat→List UInt8:=pgOf s.safe s.wr
structure StoreI (s:StN) (W:World):Prop where
 dev:DevS W s.d s.g s.m s.n false 0 nilS s.stale 0 0 s.safe s.k s.mf s.wr
 pool:∃fs,PoolC W s.p s.d s.l s.x.f s.n s.pg fs
 base:∃k1 k2 k3 t,Blk W s.b 85 (baseC s.d s.l s.p s.x k1 k2 k3 t)
 log:∃limit kept forced m pv,Blk W s.l 165 (logC s.d limit kept forced m pv)
structure StB_ (s:StN):Prop where
 n:s.n≤1024
 p:s.x.p≤s.n
 f1:1≤s.x.f
 f2:s.x.f≤64
 w:∀no,(s.wr no).length≤1000000
end Go.Proofs.YtnkjkgmohmcobaaGreatDoor
namespace Go.Proofs.YtnkjkgmohmcobaaGreatDoor
open Go.RowKit Go.Maps
theorem called_no (k g q:Nat) (no:Int) (x:OpD) (dv:Value) (hx:x.act≠6) (w:World) (hc:CalQ w g q (calS no 1 0 x dv)):
  Calls Tryz.prog 34 #[.pointer (some ⟨k,0,none⟩),.pointer (some ⟨g,q,none⟩)] w fun e w'=>e= .returned (.tuple #[.bool true,.int .i64 0])∧CalQ w' g q (calT no 0 11)∧Turn (fun q=>q=g) w w':=by
 have HT:=hide (show Calls Tryz.prog 69 #[.pointer (some ⟨g,q,none⟩),.agg #[.int .i64 11,.int .i64 0,.slice none 0 0,.int .i64 0,.int .i64 0,.int .i64 0]] w _ from tell_any g q no 1 0 11 x dv w hc)
 have c2:=hc.cell 2 rfl
 have c3:=hc.cell 3 rfl
 have cl:=hc.lt
 have x6:(x.act==6)=false:=beq_eq_false_iff_ne.2 hx
 clear hc
 go_enter Tryz.func34,Tryz.ntmps34
 go_wp2_with (go_at_call 69;refine HT.out.mono ?_;rintro e w' ⟨⟨v,rfl⟩,hc',ht'⟩)
 go_ret2
 exact ⟨rfl,hc',ht'⟩
theorem called_begin (k b g n q t mt kq:Nat) (no:Int) (x:OpD) (dv:Value) (hx:x.act=6) (fm:Int→Option Value) (cs:Array Value) (w:World) (kk:Blk w k 73 (bankC b g n (.slice none 0 0))) (hc:CalQ w g q (calS no 1 0 x dv))
  (kb:Blk w b 85 cs) (hb11:cs[11]?=some (.pointer (some ⟨t,0,none⟩))) (kt:Blk w t 142 #[.int .i64 1,.map (some mt)]) (hm:MapF w mt kq fm) (hkq:kq≤1000000):
  Calls Tryz.prog 34 #[.pointer (some ⟨k,0,none⟩),.pointer (some ⟨g,q,none⟩)] w fun e w'=>e= .returned (.tuple #[.bool true,.int .i64 0])∧CalQ w' g q (calT no 1 0)∧(∃ev,Blk w' k 73 (bankC b g n ev)∧w'.ownsRow w.heap.size 76 15 ev 1 (evC 0 no 1))∧Turn (fun q=>q=g∨q=k∨q=t∨q=mt) w w':=by
 have HB:=hide (begin_any t mt kq 1 fm w (by omega) (by omega) kt hm hkq)
 have HC:=hide hc
 have HK:=hide kk
 have c2:=hc.cell 2 rfl
 have c3:=hc.cell 3 rfl
 have cl:=hc.lt
 have k0:w.cell? ⟨k,0,none⟩=some (.pointer (some ⟨b,0,none⟩)):=kk.cell 0
 have kl:=kk.lt
 have b11:w.cell? ⟨b,11,none⟩=some (.pointer (some ⟨t,0,none⟩)):=by rw [kb.cell];exact hb11
 have bl:=kb.lt
 have HGT:=hide (show g≠t from by obtain ⟨cur,kc,_⟩:=hc;exact kc.ne_ kt (by decide))
 have HGM:=hide (show g≠mt from by obtain ⟨cur,kc,_⟩:=hc;exact hm.ne kc)
 have HGK:=hide (show g≠k from by obtain ⟨cur,kc,_⟩:=hc;exact kc.ne_ kk (by decide))
 have HKT:=hide (kk.ne_ kt (by decide))
 have HKM:=hide (hm.ne kk)
 clear hc kk kb hb11 kt hm
 obtain ⟨xa,xk,xd,xl,xh,xn⟩:=x
 dsimp only at hx
 subst hx
 go_enter Tryz.func34,Tryz.ntmps34
 go_wp2_with fail
 refine HB.out.mono ?_
 rintro e W1 ⟨rfl, -, -,ht1⟩
 have hc1:=HC.out.keep (ht1.block g HC.out.lt (fun e=>e.elim HGT.out HGM.out))
 have hk1:=ht1.blk HK.out (fun e=>e.elim HKT.out HKM.out)
 have d2:=hc1.cell 2 rfl
 have f2:=hc1.frozen (q+2)
 have dl:=hc1.lt
 have HC2:=hide (show CalQ (W1.setCell ⟨g,q+2,none⟩ (.int .i64 1)) g q (calS no 1 1 ⟨6,xk,xd,xl,xh,xn⟩ dv) from hc1.set1 (j:=2) (by omega) _)
 have HK2:=hide (hk1.far (p:=⟨g,q+2,none⟩) (fun e=>HGK.out e.symm) (.int .i64 1))
 have HT1:=hide ht1
 have HZ2:=hide (show w.heap.size≤(W1.setCell ⟨g,q+2,none⟩ (.int .i64 1)).heap.size∧g<(W1.setCell ⟨g,q+2,none⟩ (.int .i64 1)).heap.size from ⟨Nat.le_trans ht1.size (by simp [World.setCell]),HC2.out.lt⟩)
 have HN:=hide (note_any k b g n q no 1 1 ⟨6,xk,xd,xl,xh,xn⟩ dv _ HK2.out HC2.out)
 clear hc1 hk1 ht1 c2 c3 cl k0 kl b11 bl
 go_wp2_with fail
 refine Calls.mono (show Calls Tryz.prog 70 #[.pointer (some ⟨k,0,none⟩),.agg #[.int .i64 0,.int .i64 0,.int .i64 0,.int .i64 0,.string .empty,.slice none 0 0,.int .i64 0,.int .i64 0,.int .i64 0,.int .i64 0,.int .i64 0,.slice none 0 0,.int .i64 0,.int .i64 0,.int .i64 0],.pointer (some ⟨g,q,none⟩)] _ _ from HN.out) ?_
 rintro e W3 ⟨⟨v,rfl⟩,ev,hk3,ho3,ht3⟩
 have hc3:=HC2.out.keep (ht3.block g HC2.out.lt HGK.out)
 have HTL:=hide (show Calls Tryz.prog 69 #[.pointer (some ⟨g,q,none⟩),.agg #[.int .i64 0,.int .i64 0,.slice none 0 0,.int .i64 0,.int .i64 0,.int .i64 0]] W3 _ from tell_any g q no 1 1 0 _ dv W3 hc3)
 have HK3:=hide hk3
 have HO3:=hide ho3
 have HT3:=hide ht3
 clear hc3 hk3 ho3 ht3 d2 f2 dl
 go_wp2_with fail
 refine HTL.out.mono ?_
 rintro e W4 ⟨⟨v4,rfl⟩,hc4,ht4⟩
 have HC4:=hide hc4
 have HT4:=hide ht4
 clear hc4 ht4
 go_wp2
 go_ret2
 refine ⟨rfl,HC4.out,⟨ev,HT4.out.blk HK3.out (fun e=>HGK.out e.symm),?_⟩,?_⟩
 ·have h1:=own_low' HO3.out HZ2.out.1
  refine row_keep h1 (fun r hr=>HT4.out.block r (World.ownsRow.lt h1 r hr).2 (fun e=>?_))
  have h2:=(World.ownsRow.lt HO3.out r hr).1
  have h3:=HZ2.out.2
  omega
 ·have t1:Turn (fun q=>q=g∨q=k∨q=t∨q=mt) w W1:=HT1.out.mono (fun q _ e=> .inr (.inr e))
  have t2:=Turn.set t1 (p:=⟨g,q+2,none⟩) (.inl (.inl rfl)) (.int .i64 1)
  exact (t2.trans (HT3.out.mono (fun q _ e=> .inr (.inl e)))).trans (HT4.out.mono (fun q _ e=> .inl e))
end Go.Proofs.YtnkjkgmohmcobaaGreatDoor
namespace Go.Proofs.YtnkjkgmohmcobaaGreatDoor
open Go.RowKit Go.Maps
def deedC (k:Nat):Array Value:=#[.int .i64 1,.func (.func 34) #[.pointer (some ⟨k,0,none⟩)] #[],.int .i64 3,.func (.func 35) #[.pointer (some ⟨k,0,none⟩)] #[],.int .i64 4,.func (.func 36) #[.pointer (some ⟨k,0,none⟩)] #[],.int .i64 5,.func (.func 37) #[.pointer (some ⟨k,0,none⟩)] #[],.int .i64 6,.func (.func 38) #[.pointer (some ⟨k,0,none⟩)] #[]]
theorem deeds_any (k:Nat) (w:World):Calls Tryz.prog 25 #[.pointer (some ⟨k,0,none⟩)] w fun e w'=>∃gd,e= .returned (.slice (some ⟨gd,0,none⟩) 5 5)∧Blk w' gd 70 (deedC k)∧Below w.heap.size w w':=by
 go_enter Tryz.func25,Tryz.ntmps25
 go_wp2
 go_ret
 exact ⟨w.heap.size,rfl,Blk.new _ _ _,(Below.refl _ _).alloc (Nat.le_refl _) _⟩
theorem step_no (k b g n i:Nat) (ev:Value) (hi:i<n) (x:OpD) (dv:Value) (hx:x.act≠6) (w:World) (kk:Blk w k 73 (bankC b g n ev)) (hc:CalQ w g (i*20) (calS i 1 0 x dv)):
  Calls Tryz.prog 10 #[.pointer (some ⟨k,0,none⟩),.int .i64 (i:Nat)] w fun e w'=>e= .returned (.tuple #[.bool true,.int .i64 0])∧CalQ w' g (i*20) (calT i 0 11)∧Turn (fun q=>q=g) w w':=by
 have HCD:=hide (fun W hc=>called_no k g (i*20) i x dv hx W hc)
 have HR:=hide (fun W (hb:Below w.heap.size w W)=>ready_in k b g n i ev hi W (Blk.via hb kk))
 have HCL:=hide (fun W (hb:Below w.heap.size w W)=>client_in k b g n i ev hi W (Blk.via hb kk))
 have HD:=hide (fun W=>deeds_any k W)
 have HR0:=hide (HR.out w (Below.refl _ _))
 have HC0:=hide (HCL.out w (Below.refl _ _))
 have HC:=hide hc
 clear HR HCL hc hi
 go_enter Tryz.func10,Tryz.ntmps10
 go_wp2_with (first
  |(go_at_call 22;refine HR0.out.mono ?_;rintro e w' ⟨rfl,hw'⟩;obtain rfl:=hw'.symm)
  |(go_at_call 23;refine HC0.out.mono ?_;rintro e w' ⟨rfl,hw'⟩;obtain rfl:=hw'.symm))
 refine (HD.out w).mono ?_
 rintro e W1 ⟨gd,rfl,kd,hb1⟩
 have HKD:=hide kd
 have HB1:=hide hb1
 clear kd hb1
 go_wp2
 go_loopw [24] (fun iv wr=>iv= .int .i64 0∧wr=W1) (fun _ _=>0)
 case atStart=>exact ⟨rfl,rfl⟩
 case round=>
  obtain ⟨rfl,rfl⟩:=hrel
  have d0:wr.cell? ⟨gd,0,none⟩=some (.int .i64 1):=HKD.out.cell 0
  have d1:wr.cell? ⟨gd,1,none⟩=some (.func (.func 34) #[.pointer (some ⟨k,0,none⟩)] #[]):=HKD.out.cell 1
  have dl:=HKD.out.lt
  go_upto_region 8 with (fail)
  refine gen1 (R:=fun W=>Code.wp _ _ _ _ W) (fun W2 kd2 hb2 hz2=>?_)
  obtain ⟨gx,hgx⟩:∃g,g=wr.heap.size:=⟨_,rfl⟩
  rw [← hgx] at kd2 ⊢
  have HB2:=hide (HB1.out.trans (hb2.mono HB1.out.size))
  have hc2:=CalQ.via HB2.out HC.out
  have y0:W2.cell? ⟨gx,0,none⟩=some (.int .i64 1):=kd2.cell 0
  have y1:W2.cell? ⟨gx,1,none⟩=some (.func (.func 34) #[.pointer (some ⟨k,0,none⟩)] #[]):=kd2.cell 1
  have yl:=kd2.lt
  have x1:=hc2.cell 1 rfl
  have xl:=hc2.lt
  have HC2:=hide hc2
  clear d0 d1 dl hc2 kd2 hb2 hgx
  go_quiet (fail)
  have HCW:=hide (fun nq=>HCD.out (W2.drewN nq) HC2.out)
  go_wp2_with fail
  refine (HCW.out _).mono ?_
  rintro e W3 ⟨rfl,hc3,ht3⟩
  have HC3:=hide hc3
  have HT3:=hide ht3
  clear hc3 ht3 y0 y1 yl x1 xl
  go_wp2
  go_ret2
  exact ⟨rfl,HC3.out,(Turn.of_below (below_drewN HB2.out _)).trans HT3.out⟩
theorem step_begin (k b g n i t mt kq:Nat) (hi:i<n) (x:OpD) (dv:Value) (hx:x.act=6) (fm:Int→Option Value) (cs:Array Value) (w:World) (kk:Blk w k 73 (bankC b g n (.slice none 0 0))) (hc:CalQ w g (i*20) (calS i 1 0 x dv))
  (kb:Blk w b 85 cs) (hb11:cs[11]?=some (.pointer (some ⟨t,0,none⟩))) (kt:Blk w t 142 #[.int .i64 1,.map (some mt)]) (hm:MapF w mt kq fm) (hkq:kq≤1000000):
  Calls Tryz.prog 10 #[.pointer (some ⟨k,0,none⟩),.int .i64 (i:Nat)] w fun e w'=>e= .returned (.tuple #[.bool true,.int .i64 0])∧CalQ w' g (i*20) (calT i 1 0)∧(∃ev,Blk w' k 73 (bankC b g n ev)∧w'.ownsRow w.heap.size 76 15 ev 1 (evC 0 i 1))∧Turn (fun q=>q=g∨q=k∨q=t∨q=mt) w w':=by
 have HCD:=hide (fun W (hb:Below w.heap.size w W) (hc':CalQ W g (i*20) (calS i 1 0 x dv))=>called_begin k b g n (i*20) t mt kq i x dv hx fm cs W (Blk.via hb kk) hc' (Blk.via hb kb) hb11 (Blk.via hb kt) (World.ownsMap.kept' hm hb) hkq)
 clear kb hb11 kt hm hkq
 obtain ⟨ev,hev⟩:∃ev:Value,ev= .slice none 0 0:=⟨_,rfl⟩
 rw [← hev] at kk
 clear hev
 have HR:=hide (fun W (hb:Below w.heap.size w W)=>ready_in k b g n i ev hi W (Blk.via hb kk))
 have HCL:=hide (fun W (hb:Below w.heap.size w W)=>client_in k b g n i ev hi W (Blk.via hb kk))
 have HD:=hide (fun W=>deeds_any k W)
 have HR0:=hide (HR.out w (Below.refl _ _))
 have HC0:=hide (HCL.out w (Below.refl _ _))
 have HC:=hide hc
 clear HR HCL hc hi
 go_enter Tryz.func10,Tryz.ntmps10
 go_wp2_with (first
  |(go_at_call 22;refine HR0.out.mono ?_;rintro e w' ⟨rfl,hw'⟩;obtain rfl:=hw'.symm)
  |(go_at_call 23;refine HC0.out.mono ?_;rintro e w' ⟨rfl,hw'⟩;obtain rfl:=hw'.symm))
 refine (HD.out w).mono ?_
 rintro e W1 ⟨gd,rfl,kd,hb1⟩
 have HKD:=hide kd
 have HB1:=hide hb1
 clear kd hb1
 go_wp2
 go_loopw [24] (fun iv wr=>iv= .int .i64 0∧wr=W1) (fun _ _=>0)
 case atStart=>exact ⟨rfl,rfl⟩
 case round=>
  obtain ⟨rfl,rfl⟩:=hrel
  have d0:wr.cell? ⟨gd,0,none⟩=some (.int .i64 1):=HKD.out.cell 0
  have d1:wr.cell? ⟨gd,1,none⟩=some (.func (.func 34) #[.pointer (some ⟨k,0,none⟩)] #[]):=HKD.out.cell 1
  have dl:=HKD.out.lt
  go_upto_region 8 with (fail)
  refine gen1 (R:=fun W=>Code.wp _ _ _ _ W) (fun W2 kd2 hb2 hz2=>?_)
  obtain ⟨gx,hgx⟩:∃g,g=wr.heap.size:=⟨_,rfl⟩
  rw [← hgx] at kd2 ⊢
  have HB2:=hide (HB1.out.trans (hb2.mono HB1.out.size))
  have hc2:=CalQ.via HB2.out HC.out
  have y0:W2.cell? ⟨gx,0,none⟩=some (.int .i64 1):=kd2.cell 0
  have y1:W2.cell? ⟨gx,1,none⟩=some (.func (.func 34) #[.pointer (some ⟨k,0,none⟩)] #[]):=kd2.cell 1
  have yl:=kd2.lt
  have x1:=hc2.cell 1 rfl
  have xl:=hc2.lt
  have HC2:=hide hc2
  clear d0 d1 dl hc2 kd2 hb2 hgx
  go_quiet (fail)
  have HCW:=hide (fun nq=>HCD.out (W2.drewN nq) (below_drewN HB2.out nq) HC2.out)
  go_wp2_with fail
  refine (HCW.out _).mono ?_
  rintro e W3 ⟨rfl,hc3,⟨ev3,hk3,ho3⟩,ht3⟩
  have HC3:=hide hc3
  have HT3:=hide ht3
  have HK3:=hide hk3
  have HO3:=hide ho3
  have HZ2:=hide (show w.heap.size≤W2.heap.size from HB2.out.size)
  clear hc3 ht3 hk3 ho3 y0 y1 yl x1 xl
  go_wp2
  go_ret2
  exact ⟨rfl,HC3.out,⟨ev3,HK3.out,own_low' HO3.out HZ2.out⟩,(Turn.of_below (below_drewN HB2.out _)).trans HT3.out⟩
theorem step_out (k b g n:Nat) (i:Int) (ev:Value) (hi:¬(0≤i∧i<n)) (w:World) (kk:Blk w k 73 (bankC b g n ev)):Calls Tryz.prog 10 #[.pointer (some ⟨k,0,none⟩),.int .i64 i] w fun e w'=>e= .returned (.tuple #[.bool false,.int .i64 2])∧w'=w:=by
 have HR:=hide (ready_out k b g n i ev hi w kk)
 clear kk hi
 go_enter Tryz.func10,Tryz.ntmps10
 go_wp2_with (go_at_call 22;refine HR.out.mono ?_;rintro e w' ⟨rfl,hw'⟩;obtain rfl:=hw'.symm)
 go_ret2
 exact ⟨rfl,rfl⟩
theorem step_nil (i:Int) (w:World):Calls Tryz.prog 10 #[.pointer none,.int .i64 i] w fun e w'=>e= .returned (.tuple #[.bool false,.int .i64 4])∧w'=w:=by
 have HR:=hide (fun W=>ready_nil i W)
 go_enter Tryz.func10,Tryz.ntmps10
 go_wp2_with (go_at_call 22;refine (HR.out _).mono ?_;rintro e w' ⟨rfl,hw'⟩;obtain rfl:=hw'.symm)
 go_ret2
 exact ⟨rfl,rfl⟩
end Go.Proofs.YtnkjkgmohmcobaaGreatDoor
namespace Go.Proofs.YtnkjkgmohmcobaaGreatDoor
open Go.RowKit Go.Maps
structure TalD where
 a:Int
 b:Int
 c:Int
 d:Int
 e:Int
structure StK (s:StN) (u:Nat):Prop where
 b:StB_ s
 r0:rightP (s.pg 0) 0=true
 m0:metaG (s.pg 0)=some (s.x,(u:Int))
 ul:(u:Int)≤s.x.p
 b1:1≤s.x.b
 bu:s.x.b<u
 p0:0<s.x.p
end Go.Proofs.YtnkjkgmohmcobaaGreatDoor
namespace Go.Proofs.YtnkjkgmohmcobaaGreatDoor
open Go.RowKit Go.Maps Go.Shelf
theorem results_cell_tmp {fn:Func} {p q:Tmp} {ty:TypeId} (h:fn.results= #[.cell p ty,.tmp q]) (tmps:Array Value) (w:World) (g:Nat) (cs:Array Value) (x:Value)
  (hp:tmps.getD p undef= .pointer (some ⟨g,0,none⟩)) (hq:tmps.getD q undef=x) (hl:(loadVar ty ⟨g,0,none⟩).run Tryz.prog w= .ok (.agg cs) w):
  (results fn tmps).run Tryz.prog w= .ok (.tuple #[.agg cs,x]) w:=by
 have hp':tmps[p]?.getD undef= .pointer (some ⟨g,0,none⟩):=by simpa using hp
 have hq':tmps[q]?.getD undef=x:=by simpa using hq
 simp [results,h,hp',hq',asAddr,hl]
end Go.Proofs.YtnkjkgmohmcobaaGreatDoor
namespace Go.Proofs.YtnkjkgmohmcobaaGreatDoor
open Go.RowKit Go.Maps
theorem nil_bytes (B:Nat) (w:World):BytesAt w B (.slice none 0 0) []:=⟨none,0,0,rfl,Nat.le_refl _,Nat.zero_le _,rfl,fun _=>rfl,rfl,fun h=>absurd h (by omega)⟩
theorem answer_any (k b g n i:Nat) (ev:Value) (txn er:Int) (hi:i<n) (w:World) (kk:Blk w k 73 (bankC b g n ev)) (hc:CalQ w g (i*20) (calT i txn er)):
  Calls Tryz.prog 11 #[.pointer (some ⟨k,0,none⟩),.int .i64 (i:Nat)] w fun e w'=>∃(A:Option Addr) (m c:Nat),e= .returned (.tuple #[ansVv er 0 0 0 0 (.slice A m c),.bool true])∧Below w.heap.size w w':=by
 have HCL:=hide (fun W (hb:Below w.heap.size w W)=>client_in k b g n i ev hi W (Blk.via hb kk))
 have HAO:=hide (fun W=>(show Calls Tryz.prog 26 #[.agg #[.int .i64 er,.int .i64 0,.slice none 0 0,.int .i64 0,.int .i64 0,.int .i64 0]] W _ from answerOf_any er 0 0 0 0 _ [] 0 W (Nat.zero_le _) (nil_bytes _ W) (by simp)))
 have HC:=hide hc
 clear kk hc hi
 go_enter Tryz.func11,Tryz.ntmps11
 go_upto_region 1 with (fail)
 refine gen1 (R:=fun W=>Code.wp _ _ _ _ W) (fun W1 kr hb1 hz1=>?_)
 obtain ⟨p,hp⟩:∃p,p=w.heap.size:=⟨_,rfl⟩
 have HPN:=hide hp
 rw [← hp] at kr ⊢
 have KR:=hide kr
 have HB1:=hide hb1
 have HC1:=hide (HCL.out W1 hb1)
 have hc1:=CalQ.via hb1 HC.out
 have c1:=hc1.cell 1 rfl
 have c13:=hc1.cell 13 rfl
 have c14:=hc1.cell 14 rfl
 have c15:=hc1.cell 15 rfl
 have c16:=hc1.cell 16 rfl
 have c17:=hc1.cell 17 rfl
 have c18:=hc1.cell 18 rfl
 have c19:=hc1.cell 19 rfl
 have cl:=hc1.lt
 clear kr hb1 hc1 hp HCL HC
 go_wp2_with (go_at_call 23;refine HC1.out.mono ?_;rintro e w' ⟨rfl,hw'⟩;obtain rfl:=hw'.symm)
 refine (HAO.out W1).mono ?_
 rintro e W2 ⟨A',n',c',rfl,hb2⟩
 unfold ansVv
 obtain ⟨X,hX⟩:∃X:Array Value,X= #[.int .i64 er,.int .i64 0,.slice A' n' c',.int .i64 0,.int .i64 0,.int .i64 0]:=⟨_,rfl⟩
 have HII:=hide (show (Tryz.prog.info? 43).map (·.size)=some X.size by rw [hX];kernel_rfl)
 have H1C:=hide (show X.all (·.oneCell')=true by rw [hX];simp [Value.oneCell'])
 obtain ⟨z,hz⟩:∃z:Array Value,z= #[.int .i64 0,.int .i64 0,.slice none 0 0,.int .i64 0,.int .i64 0,.int .i64 0]:=⟨_,rfl⟩
 have HZX:=hide (show z.size=X.size by rw [hz,hX];rfl)
 have KR3:=hide (show Blk W2 p 43 z by rw [hz];exact Blk.via hb2 KR.out)
 have HK:=hide (show Blk (W2.setRow p X) p 43 X from setRow_heap W2 p _ _ _ _ KR3.out)
 have HB:=hide (show Below w.heap.size w (W2.setRow p X) from (touch_setRow W2 p X).below (below_via HB1.out hb2 HB1.out.size) (by rw [HPN.out];exact Nat.le_refl _))
 have HX:=hide hX
 rw [← hX]
 clear hX hz hb2 c1 c13 c14 c15 c16 c17 c18 c19 cl HC1 HAO
 go_wp2_with (refine wpList_store_row rfl 43 (.tmp 4) _ rfl p X rfl rfl 43 z KR3.out HII.out HZX.out H1C.out ?_)
 refine bodyPost_ret (results_cell_tmp Tryz.results11 _ _ p X _ rfl rfl (run_loadVar_row _ _ _ _ X (0,0) _ HK.out Tryz.underlying43 rfl HII.out)) rfl ?_
 exact ⟨A',n',c',by rw [HX.out];rfl,HB.out⟩
end Go.Proofs.YtnkjkgmohmcobaaGreatDoor
namespace Go.Proofs.YtnkjkgmohmcobaaGreatDoor
open Go.RowKit Go.Maps
theorem events_nil (w:World):Calls Tryz.prog 12 #[.pointer none] w fun e w'=>e= .returned (.slice none 0 0)∧w'=w:=by
 go_enter Tryz.func12,Tryz.ntmps12
 go_wp2
 go_ret
 exact ⟨rfl,rfl⟩
theorem map_nil (w:World):Calls Tryz.prog 15 #[.pointer none] w fun e w'=>e= .returned (.tuple #[.slice none 0 0,.int .i64 4])∧w'=w:=by
 go_enter Tryz.func15,Tryz.ntmps15
 go_wp2
 go_ret2
 exact ⟨rfl,rfl⟩
theorem check_nil (w:World):Calls Tryz.prog 16 #[.pointer none] w fun e w'=>e= .returned (.int .i64 4)∧w'=w:=by
 have HD:=hide (dead_nil w)
 go_enter Tryz.func16,Tryz.ntmps16
 go_wp2_with (go_at_call 17;refine HD.out.mono ?_;rintro e w' ⟨rfl,hw'⟩;obtain rfl:=hw'.symm)
 go_ret
 exact ⟨rfl,rfl⟩
theorem events_none (k b g n:Nat) (w:World) (kk:Blk w k 73 (bankC b g n (.slice none 0 0))):
  Calls Tryz.prog 12 #[.pointer (some ⟨k,0,none⟩)] w fun e w'=>(∃A c,e= .returned (.slice A 0 c))∧Below w.heap.size w w':=by
 have c2:w.cell? ⟨k,2,none⟩=some (.slice none 0 0):=kk.cell 2
 have kl:=kk.lt
 obtain ⟨i0,hi,hz0,hz1,hz2⟩:=info_parts info_event
 have hmk0:=fun W=>run_make_rowN (P:=Tryz.prog) 46 76 i0 (.agg (evC 0 0 0).toArray) Tryz.underlying46 hi hz0 .i64 .i64 0 0 (Nat.le_refl _) (by rw [hz2];omega) (by omega) W
 rw [hz1] at hmk0
 obtain ⟨Y,hY⟩:∃Y,Y=madeCells (Value.agg (evC 0 0 0).toArray).cells (0*15):=⟨_,rfl⟩
 rw [← hY] at hmk0
 have hmk:∀W:World,(Instr.makeSlice 46 (.int .i64 0) (.int .i64 0)).run Tryz.prog W= .ok (.slice (some ⟨W.heap.size,0,none⟩) 0 0) (W.alloc (.cells Y 76)):=hmk0
 have HYS:=hide (show Y.size=0*15 by rw [hY];exact size_madeCells _ _)
 clear hY hmk0 hi hz0 hz1 hz2
 have HB:=hide ((Below.refl w.heap.size w).alloc (Nat.le_refl _) (.cells Y 76))
 have HK:=hide (kk.alloc (.cells Y 76))
 have d2:(w.alloc (.cells Y 76)).cell? ⟨k,2,none⟩=some (.slice none 0 0):=HK.out.cell 2
 have dl:=HK.out.lt
 clear kk
 go_enter Tryz.func12,Tryz.ntmps12
 go_wp2
 go_loopw [19] (fun iv wr=>iv= .int .i64 0∧wr=w.alloc (.cells Y 76)) (fun _ _=>0)
 case atStart=>exact ⟨rfl,rfl⟩
 case round=>
  obtain ⟨rfl,rfl⟩:=hrel
  go_wp2
  go_ret
  exact ⟨⟨_,_,rfl⟩,HB.out⟩
end Go.Proofs.YtnkjkgmohmcobaaGreatDoor
namespace Go.Proofs.YtnkjkgmohmcobaaGreatDoor
open Go.RowKit Go.Maps
theorem blk_setCells {W:World} {g:Nat} {t:TypeId} {cs:Array Value} (k:Blk W g t cs) (o:Nat) (vs:List Value):Blk (W.setCells g o vs) g t (setL cs o vs):=by
 rw [calPutL]
 exact putL_blk vs o k
theorem turnB {S:Nat→Prop} {a w w':World} {B:Nat} (h:Turn S w w') (hb:Below B a w) (hS:∀q,S q→B≤q) (hB:B≤w.heap.size):Below B a w':=
 ⟨h.os.trans hb.os,h.tape.trans hb.tape,h.output.trans hb.output,Nat.le_trans hb.size h.size,fun k hk=>(h.block k (Nat.lt_of_lt_of_le hk hB) (fun hs=>by have:=hS k hs;omega)).trans (hb.block k hk)⟩
theorem blk_there {W:World} {g:Nat} {t:TypeId} {cs:Array Value} (k:Blk W g t cs) (o n:Nat) (h:o+n≤cs.size):W.there g o n:=by
 intro j hj
 refine ⟨?_,k.frozen _⟩
 rw [k.cell,Array.getElem?_eq_getElem (by omega)]
 rfl
theorem events_one (k b g n L:Nat) (no txn:Int) (ev:Value) (w:World) (kk:Blk w k 73 (bankC b g n ev)) (ho:w.ownsRow L 76 15 ev 1 (evC 0 no txn)):
  Calls Tryz.prog 12 #[.pointer (some ⟨k,0,none⟩)] w fun e w'=>(∃A c,e= .returned (.slice A 1 c))∧Below w.heap.size w w':=by
 have HOO:=hide (fun W=>(show Calls Tryz.prog 24 #[.agg #[.int .i64 0,.string .empty,.slice none 0 0,.int .i64 0,.int .i64 0,.int .i64 0]] W _ from opOf_any ⟨0,.empty,[],0,0,0⟩ _ 0 W (Nat.zero_le _) (nil_bytes _ W) (by simp)))
 have HAO:=hide (fun W=>(show Calls Tryz.prog 26 #[.agg #[.int .i64 0,.int .i64 0,.slice none 0 0,.int .i64 0,.int .i64 0,.int .i64 0]] W _ from answerOf_any 0 0 0 0 0 _ [] 0 W (Nat.zero_le _) (nil_bytes _ W) (by simp)))
 obtain ⟨ge,cap,rfl⟩:∃ge cap,ev= .slice (some ⟨ge,0,none⟩) 1 cap:=by
  obtain ⟨h1,⟨rfl,h2⟩|⟨g',cap,cur,rfl,_⟩⟩:=ho
  ·rw [h2] at h1;cases h1
  ·exact ⟨g',cap,rfl⟩
 have c2:w.cell? ⟨k,2,none⟩=some (.slice (some ⟨ge,0,none⟩) 1 cap):=kk.cell 2
 have kl:=kk.lt
 obtain ⟨i0,hi,hz0,hz1,hz2⟩:=info_parts info_event
 have hmk0:=fun W=>run_make_rowN (P:=Tryz.prog) 46 76 i0 (.agg (evC 0 0 0).toArray) Tryz.underlying46 hi hz0 .i64 .i64 1 1 (Nat.le_refl _) (by rw [hz2];omega) (by omega) W
 rw [hz1] at hmk0
 obtain ⟨Y,hY⟩:∃Y,Y=madeCells (Value.agg (evC 0 0 0).toArray).cells (1*15):=⟨_,rfl⟩
 rw [← hY] at hmk0
 have hmk:∀W:World,(Instr.makeSlice 46 (.int .i64 1) (.int .i64 1)).run Tryz.prog W= .ok (.slice (some ⟨W.heap.size,0,none⟩) 1 1) (W.alloc (.cells Y 76)):=hmk0
 have HYS:=hide (show Y.size=1*15 by rw [hY];exact size_madeCells _ _)
 clear hY hmk0 hi hz0 hz1 hz2
 have HB:=hide ((Below.refl w.heap.size w).alloc (Nat.le_refl _) (.cells Y 76))
 obtain ⟨gl,hgl⟩:∃g,g=w.heap.size:=⟨_,rfl⟩
 have HGL:=hide hgl
 have HK:=hide (kk.alloc (.cells Y 76))
 have HY:=hide (show Blk (w.alloc (.cells Y 76)) gl 76 Y by rw [hgl];exact Blk.new _ _ _)
 have ho1:=own_via ho HB.out
 have HO:=hide ho1
 have d2:(w.alloc (.cells Y 76)).cell? ⟨k,2,none⟩=some (.slice (some ⟨ge,0,none⟩) 1 cap):=HK.out.cell 2
 have dl:=HK.out.lt
 clear kk ho ho1 hgl
 go_enter Tryz.func12,Tryz.ntmps12
 go_wp2
 rw [← HGL.out]
 generalize w.alloc (.cells Y 76)=W0 at*
 clear d2 dl c2 kl hmk
 go_loopw [19] (fun iv wr=>(iv= .int .i64 0∧wr=W0)∨(iv= .int .i64 1∧Hid (Below w.heap.size w wr))) (fun iv _=>1-(intOf iv).toNat)
 case atStart=>exact .inl ⟨rfl,rfl⟩
 case round=>
  rcases hrel with ⟨rfl,rfl⟩|⟨rfl,hBe⟩
  ·have el:=(own_cell HO.out 0 (by omega)).2.2
   have e0:wr.cell? ⟨ge,0,none⟩=some (.int .i64 0):=(own_cell HO.out 0 (by omega)).1
   have e1:wr.cell? ⟨ge,1,none⟩=some (.int .i64 no):=(own_cell HO.out 1 (by omega)).1
   have e2:wr.cell? ⟨ge,2,none⟩=some (.int .i64 txn):=(own_cell HO.out 2 (by omega)).1
   have e3:wr.cell? ⟨ge,3,none⟩=some (.int .i64 0):=(own_cell HO.out 3 (by omega)).1
   have e4:wr.cell? ⟨ge,4,none⟩=some (.string .empty):=(own_cell HO.out 4 (by omega)).1
   have e5:wr.cell? ⟨ge,5,none⟩=some (.slice none 0 0):=(own_cell HO.out 5 (by omega)).1
   have e6:wr.cell? ⟨ge,6,none⟩=some (.int .i64 0):=(own_cell HO.out 6 (by omega)).1
   have e7:wr.cell? ⟨ge,7,none⟩=some (.int .i64 0):=(own_cell HO.out 7 (by omega)).1
   have e8:wr.cell? ⟨ge,8,none⟩=some (.int .i64 0):=(own_cell HO.out 8 (by omega)).1
   have e9:wr.cell? ⟨ge,9,none⟩=some (.int .i64 0):=(own_cell HO.out 9 (by omega)).1
   have e10:wr.cell? ⟨ge,10,none⟩=some (.int .i64 0):=(own_cell HO.out 10 (by omega)).1
   have e11:wr.cell? ⟨ge,11,none⟩=some (.slice none 0 0):=(own_cell HO.out 11 (by omega)).1
   have e12:wr.cell? ⟨ge,12,none⟩=some (.int .i64 0):=(own_cell HO.out 12 (by omega)).1
   have e13:wr.cell? ⟨ge,13,none⟩=some (.int .i64 0):=(own_cell HO.out 13 (by omega)).1
   have e14:wr.cell? ⟨ge,14,none⟩=some (.int .i64 0):=(own_cell HO.out 14 (by omega)).1
   go_upto_region 7 with (fail)
   refine gen1 (R:=fun W=>Code.wp _ _ _ _ W) (fun W2 kx hb2 hz2=>?_)
   obtain ⟨gx,hgx⟩:∃g,g=wr.heap.size:=⟨_,rfl⟩
   rw [← hgx] at kx ⊢
   have HB2:=hide (below_via HB.out hb2 HB.out.size)
   have HY2:=hide (Blk.via hb2 HY.out)
   have HGX:=hide hgx
   have HKX:=hide kx
   have xl:=kx.lt
   have x3:W2.cell? ⟨gx,3,none⟩=some (.int .i64 0):=kx.cell 3
   have x4:W2.cell? ⟨gx,4,none⟩=some (.string .empty):=kx.cell 4
   have x5:W2.cell? ⟨gx,5,none⟩=some (.slice none 0 0):=kx.cell 5
   have x6:W2.cell? ⟨gx,6,none⟩=some (.int .i64 0):=kx.cell 6
   have x7:W2.cell? ⟨gx,7,none⟩=some (.int .i64 0):=kx.cell 7
   have x8:W2.cell? ⟨gx,8,none⟩=some (.int .i64 0):=kx.cell 8
   clear el e0 e1 e2 e3 e4 e5 e6 e7 e8 e9 e10 e11 e12 e13 e14 kx hb2 hgx
   go_wp2_with fail
   refine (HOO.out W2).mono ?_
   rintro e W3 ⟨A1,n1,c1,rfl,hb3⟩
   have HKX3:=hide (Blk.via hb3 HKX.out)
   have HY3:=hide (Blk.via hb3 HY2.out)
   have HB3:=hide (below_via HB2.out hb3 HB2.out.size)
   clear xl x3 x4 x5 x6 x7 x8 hb3 HKX HY2 HB2
   go_upto_region 8 with (refine wpList_store_mid rfl 26 (.tmp 27) (.tmp 26) rfl gx 3 #[.int .i64 0,.string .empty,.slice A1 n1 c1,.int .i64 0,.int .i64 0,.int .i64 0] rfl rfl (blk_there HKX3.out 3 6 (by simp)) (by kernel_rfl) (by simp [Value.oneCell']) ?_)
   have HNE:=hide (show gl≠gx from fun e=>by
    have h1:=HY.out.lt
    have h2:=HGX.out
    omega)
   have HLG:=hide (show w.heap.size≤gx from by rw [HGX.out];exact HB.out.size)
   have kx4:Blk (W3.setCells gx 3 [.int .i64 0,.string .empty,.slice A1 n1 c1,.int .i64 0,.int .i64 0,.int .i64 0]) gx 76 #[.int .i64 0,.int .i64 no,.int .i64 txn,.int .i64 0,.string .empty,.slice A1 n1 c1,.int .i64 0,.int .i64 0,.int .i64 0,.int .i64 0,.int .i64 0,.slice none 0 0,.int .i64 0,.int .i64 0,.int .i64 0]:=blk_setCells HKX3.out 3 [.int .i64 0,.string .empty,.slice A1 n1 c1,.int .i64 0,.int .i64 0,.int .i64 0]
   have hy4:=(calTurn gx [.int .i64 0,.string .empty,.slice A1 n1 c1,.int .i64 0,.int .i64 0,.int .i64 0] 3 W3).block gl HY3.out.lt HNE.out
   have hb4:=turnB (calTurn gx [.int .i64 0,.string .empty,.slice A1 n1 c1,.int .i64 0,.int .i64 0,.int .i64 0] 3 W3) HB3.out (fun q e=>by rw [e];exact HLG.out) HB3.out.size
   generalize W3.setCells gx 3 [.int .i64 0,.string .empty,.slice A1 n1 c1,.int .i64 0,.int .i64 0,.int .i64 0]=W4 at*
   have HY4:=hide (show Blk W4 gl 76 Y from hy4.trans HY3.out)
   have HB4:=hide hb4
   have HKX4:=hide kx4
   have xl:=kx4.lt
   have x9:W4.cell? ⟨gx,9,none⟩=some (.int .i64 0):=kx4.cell 9
   have x10:W4.cell? ⟨gx,10,none⟩=some (.int .i64 0):=kx4.cell 10
   have x11:W4.cell? ⟨gx,11,none⟩=some (.slice none 0 0):=kx4.cell 11
   have x12:W4.cell? ⟨gx,12,none⟩=some (.int .i64 0):=kx4.cell 12
   have x13:W4.cell? ⟨gx,13,none⟩=some (.int .i64 0):=kx4.cell 13
   have x14:W4.cell? ⟨gx,14,none⟩=some (.int .i64 0):=kx4.cell 14
   clear kx4 hy4 hb4 HY3 HB3 HKX3 HOO
   go_wp2_with fail
   refine (HAO.out W4).mono ?_
   rintro e W5 ⟨A2,n2,c2,rfl,hb5⟩
   have HKX5:=hide (Blk.via hb5 HKX4.out)
   have HY5:=hide (Blk.via hb5 HY4.out)
   have HB5:=hide (below_via HB4.out hb5 HB4.out.size)
   clear xl x9 x10 x11 x12 x13 x14 hb5 HKX4 HY4 HB4
   go_upto_region 9 with (refine wpList_store_mid rfl 43 (.tmp 31) (.tmp 30) rfl gx 9 #[.int .i64 0,.int .i64 0,.slice A2 n2 c2,.int .i64 0,.int .i64 0,.int .i64 0] rfl rfl (blk_there HKX5.out 9 6 (by simp)) (by kernel_rfl) (by simp [Value.oneCell']) ?_)
   have kx6:Blk (W5.setCells gx 9 [.int .i64 0,.int .i64 0,.slice A2 n2 c2,.int .i64 0,.int .i64 0,.int .i64 0]) gx 76 #[.int .i64 0,.int .i64 no,.int .i64 txn,.int .i64 0,.string .empty,.slice A1 n1 c1,.int .i64 0,.int .i64 0,.int .i64 0,.int .i64 0,.int .i64 0,.slice A2 n2 c2,.int .i64 0,.int .i64 0,.int .i64 0]:=blk_setCells HKX5.out 9 [.int .i64 0,.int .i64 0,.slice A2 n2 c2,.int .i64 0,.int .i64 0,.int .i64 0]
   have hy6:=(calTurn gx [.int .i64 0,.int .i64 0,.slice A2 n2 c2,.int .i64 0,.int .i64 0,.int .i64 0] 9 W5).block gl HY5.out.lt HNE.out
   have hb6:=turnB (calTurn gx [.int .i64 0,.int .i64 0,.slice A2 n2 c2,.int .i64 0,.int .i64 0,.int .i64 0] 9 W5) HB5.out (fun q e=>by rw [e];exact HLG.out) HB5.out.size
   generalize W5.setCells gx 9 [.int .i64 0,.int .i64 0,.slice A2 n2 c2,.int .i64 0,.int .i64 0,.int .i64 0]=W6 at*
   have HY6:=hide (show Blk W6 gl 76 Y from hy6.trans HY5.out)
   obtain ⟨X,hX⟩:∃X:Array Value,X= #[.int .i64 0,.int .i64 no,.int .i64 txn,.int .i64 0,.string .empty,.slice A1 n1 c1,.int .i64 0,.int .i64 0,.int .i64 0,.int .i64 0,.int .i64 0,.slice A2 n2 c2,.int .i64 0,.int .i64 0,.int .i64 0]:=⟨_,rfl⟩
   have HKX6:=hide (show Blk W6 gx 76 X by rw [hX];exact kx6)
   have HII:=hide (show (Tryz.prog.info? 76).map (·.size)=some X.size by rw [hX];kernel_rfl)
   have H1C:=hide (show X.all (·.oneCell')=true by rw [hX];simp [Value.oneCell'])
   have HZX:=hide (show Y.size=X.size by rw [HYS.out,hX];rfl)
   have HB7:=hide (show Below w.heap.size w (W6.setRow gl X) from (touch_setRow W6 gl X).below hb6 (by rw [HGL.out];exact Nat.le_refl _))
   clear kx6 hy6 hb6 HY5 HB5 HKX5 HAO hX
   go_wp2_with (first
    |(refine wpList_load_row rfl 76 (.tmp 5) rfl gx rfl 76 X (0,0) _ HKX6.out Tryz.underlying76 rfl HII.out ?_)
    |(refine wpList_store_row rfl 76 _ _ rfl gl X rfl rfl 76 Y HY6.out HII.out HZX.out H1C.out ?_))
   go_roundw
   case rel=>exact .inr ⟨by go_num,HB7⟩
   case measure=>simp [intOf]
  ·go_wp2
   go_ret
   exact ⟨⟨_,_,rfl⟩,hBe.out⟩
end Go.Proofs.YtnkjkgmohmcobaaGreatDoor
namespace Go.Proofs.YtnkjkgmohmcobaaGreatDoor
open Go.RowKit
def bigOp (x:OpD):Bool:=decide (300<x.key.size) || decide (300<x.data.length)
theorem Much_one (g:Nat) (x:OpD) (A:Option Addr) (n c:Nat) (w:World) (k:Blk w g 26 #[.int .i64 x.act,.string x.key,.slice A n c,.int .i64 x.lo,.int .i64 x.hi,.int .i64 x.n]) (hn:n=x.data.length):
  Calls Tryz.prog 5 #[.slice (some ⟨g,0,none⟩) 1 1] w fun e w'=>e= .returned (.bool (bigOp x))∧w'=w:=by
 have q:=k.cell
 by_cases h1:300<x.key.size
 ·have HB:=hide (show bigOp x=true by unfold bigOp;rw [decide_eq_true h1];rfl)
  clear hn
  go_enter Tryz.func5,Tryz.ntmps5
  go_wp2
  go_loop [3] (fun i=>∃k:Nat,k≤0∧i= .int .i64 k) (fun i=>1-(intOf i).toNat)
  case atStart=>exact ⟨0,Nat.zero_le _,rfl⟩
  case round=>
   obtain ⟨j,hj,rfl⟩:=hrel
   obtain rfl:j=0:=by omega
   go_wp2
   go_ret
   exact ⟨ret_bool HB.out.symm,rfl⟩
 ·by_cases h2:300<n
  ·have HB:=hide (show bigOp x=true by unfold bigOp;rw [decide_eq_true (show 300<x.data.length by omega)];simp)
   clear hn
   go_enter Tryz.func5,Tryz.ntmps5
   go_wp2
   go_loop [3] (fun i=>∃k:Nat,k≤0∧i= .int .i64 k) (fun i=>1-(intOf i).toNat)
   case atStart=>exact ⟨0,Nat.zero_le _,rfl⟩
   case round=>
    obtain ⟨j,hj,rfl⟩:=hrel
    obtain rfl:j=0:=by omega
    go_wp2
    go_ret
    exact ⟨ret_bool HB.out.symm,rfl⟩
  ·have HB:=hide (show bigOp x=false by unfold bigOp;rw [decide_eq_false h1,decide_eq_false (show ¬300<x.data.length by omega)];rfl)
   clear hn
   go_enter Tryz.func5,Tryz.ntmps5
   go_wp2
   go_loop [3] (fun i=>∃k:Nat,k≤1∧i= .int .i64 k) (fun i=>1-(intOf i).toNat)
   case atStart=>exact ⟨0,Nat.zero_le _,rfl⟩
   case round=>
    obtain ⟨j,hj,rfl⟩:=hrel
    rcases (show j=0∨j=1 by omega) with rfl|rfl
    ·go_wp2
     go_round
     case rel=>exact ⟨1,Nat.le_refl _,rfl⟩
     case measure=>simp [intOf]
    ·go_wp2
     go_ret
     exact ⟨ret_bool HB.out.symm,rfl⟩
def smallC (x:ConfD):Bool:=confOk x&&(decide (x.p≤30)&&decide (x.l≤64))
theorem small_any (x:ConfD) (w:World):Calls Tryz.prog 4 #[confV x] w fun e w'=>e= .returned (.bool (smallC x))∧Below w.heap.size w w':=by
 have HR:=hide (fun W=>rightConf_any x W)
 obtain ⟨b,p,f,c,l⟩:=x
 unfold confV at*
 dsimp only at*
 cases hr:confOk ⟨b,p,f,c,l⟩ with
 |false=>
  have HD:=hide (show smallC ⟨b,p,f,c,l⟩=false by unfold smallC;rw [hr];rfl)
  rw [hr] at HR
  clear hr
  go_enter Tryz.func4,Tryz.ntmps4
  go_upto_region 1 with (fail)
  refine gen1 (R:=fun W=>Code.wp _ _ _ _ W) (fun W1 kb hb1 hz1=>?_)
  have q0:=kb.cell 0
  have q1:=kb.cell 1
  have q2:=kb.cell 2
  have q3:=kb.cell 3
  have q4:=kb.cell 4
  have ql:=kb.lt
  have KB:=hide kb
  have HB1:=hide hb1
  clear kb hb1
  go_wp2_with fail
  refine (HR.out W1).mono ?_
  rintro e W2 ⟨rfl,hb2⟩
  have HB2:=hide (below_via HB1.out hb2 HB1.out.size)
  have kb2:=Blk.via hb2 KB.out
  clear q0 q1 q2 q3 q4 ql hb2 KB HB1
  have q1:=kb2.cell 1
  have q4:=kb2.cell 4
  have ql:=kb2.lt
  clear kb2
  go_wp2
  go_ret
  exact ⟨by first|exact ret_bool HD.out.symm|(rw [HD.out];simp [h2])|(rw [HD.out];simp [h1]),HB2.out⟩
 |true=>
  by_cases h1:p≤30
  ·by_cases h2:l≤64
   ·have HD:=hide (show smallC ⟨b,p,f,c,l⟩=true by unfold smallC;rw [hr];simp [h1,h2])
    rw [hr] at HR
    clear hr
    go_enter Tryz.func4,Tryz.ntmps4
    go_upto_region 1 with (fail)
    refine gen1 (R:=fun W=>Code.wp _ _ _ _ W) (fun W1 kb hb1 hz1=>?_)
    have q0:=kb.cell 0
    have q1:=kb.cell 1
    have q2:=kb.cell 2
    have q3:=kb.cell 3
    have q4:=kb.cell 4
    have ql:=kb.lt
    have KB:=hide kb
    have HB1:=hide hb1
    clear kb hb1
    go_wp2_with fail
    refine (HR.out W1).mono ?_
    rintro e W2 ⟨rfl,hb2⟩
    have HB2:=hide (below_via HB1.out hb2 HB1.out.size)
    have kb2:=Blk.via hb2 KB.out
    clear q0 q1 q2 q3 q4 ql hb2 KB HB1
    have q1:=kb2.cell 1
    have q4:=kb2.cell 4
    have ql:=kb2.lt
    clear kb2
    go_wp2
    go_ret
    exact ⟨by first|exact ret_bool HD.out.symm|(rw [HD.out];simp [h2])|(rw [HD.out];simp [h1]),HB2.out⟩
   ·have HD:=hide (show smallC ⟨b,p,f,c,l⟩=false by unfold smallC;rw [hr];simp [h2])
    rw [hr] at HR
    clear hr
    go_enter Tryz.func4,Tryz.ntmps4
    go_upto_region 1 with (fail)
    refine gen1 (R:=fun W=>Code.wp _ _ _ _ W) (fun W1 kb hb1 hz1=>?_)
    have q0:=kb.cell 0
    have q1:=kb.cell 1
    have q2:=kb.cell 2
    have q3:=kb.cell 3
    have q4:=kb.cell 4
    have ql:=kb.lt
    have KB:=hide kb
    have HB1:=hide hb1
    clear kb hb1
    go_wp2_with fail
    refine (HR.out W1).mono ?_
    rintro e W2 ⟨rfl,hb2⟩
    have HB2:=hide (below_via HB1.out hb2 HB1.out.size)
    have kb2:=Blk.via hb2 KB.out
    clear q0 q1 q2 q3 q4 ql hb2 KB HB1
    have q1:=kb2.cell 1
    have q4:=kb2.cell 4
    have ql:=kb2.lt
    clear kb2
    go_wp2
    go_ret
    exact ⟨by first|exact ret_bool HD.out.symm|(rw [HD.out];simp [h2])|(rw [HD.out];simp [h1]),HB2.out⟩
  ·have HD:=hide (show smallC ⟨b,p,f,c,l⟩=false by unfold smallC;rw [hr];simp [h1])
   rw [hr] at HR
   clear hr
   go_enter Tryz.func4,Tryz.ntmps4
   go_upto_region 1 with (fail)
   refine gen1 (R:=fun W=>Code.wp _ _ _ _ W) (fun W1 kb hb1 hz1=>?_)
   have q0:=kb.cell 0
   have q1:=kb.cell 1
   have q2:=kb.cell 2
   have q3:=kb.cell 3
   have q4:=kb.cell 4
   have ql:=kb.lt
   have KB:=hide kb
   have HB1:=hide hb1
   clear kb hb1
   go_wp2_with fail
   refine (HR.out W1).mono ?_
   rintro e W2 ⟨rfl,hb2⟩
   have HB2:=hide (below_via HB1.out hb2 HB1.out.size)
   have kb2:=Blk.via hb2 KB.out
   clear q0 q1 q2 q3 q4 ql hb2 KB HB1
   have q1:=kb2.cell 1
   have q4:=kb2.cell 4
   have ql:=kb2.lt
   clear kb2
   go_wp2
   go_ret
   exact ⟨by first|exact ret_bool HD.out.symm|(rw [HD.out];simp [h2])|(rw [HD.out];simp [h1]),HB2.out⟩
end Go.Proofs.YtnkjkgmohmcobaaGreatDoor
