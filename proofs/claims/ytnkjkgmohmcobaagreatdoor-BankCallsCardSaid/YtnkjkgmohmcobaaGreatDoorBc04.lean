/-
  Texts of this claim, joined: KB, KC, RZ, RZg, RZh, LA, KD, KG, KH, KI, KJ, JD, JE, KK, KL, KM.
-/
import Derived.Maps.RangeWalk
import Derived.Deep.MidRow
import Derived.ChangeKeysEq
import Derived.Test.YtnkjkgmohmcobaaGreatDoorBc03
set_option maxHeartbeats 6400000
set_option maxRecDepth 100000
namespace Go.Proofs.YtnkjkgmohmcobaaGreatDoor
open Go.RowKit
def numB (bs:List UInt8):Nat:=bs.foldl (fun u b=>256*u+b.toNat) 0
theorem numB_snoc (bs:List UInt8) (b:UInt8):numB (bs++[b])=256*numB bs+b.toNat:=by simp [numB]
theorem numB_lt (bs:List UInt8):numB bs<256^bs.length:=by
 have h:∀(l:List UInt8) (u:Nat),l.foldl (fun u b=>256*u+b.toNat) u<(u+1)*256^l.length:=by
  intro l
  induction l with
  |nil=>intro u;simp
  |cons b l ih=>
   intro u
   refine Nat.lt_of_lt_of_le (ih _) ?_
   have hb:=b.toNat_lt
   rw [List.length_cons,Nat.pow_succ,Nat.mul_comm (256^l.length) 256, ← Nat.mul_assoc]
   exact Nat.mul_le_mul_right _ (by show 256*u+b.toNat+1≤(u+1)*256;omega)
 simpa [numB] using h bs 0
def cutB (bs:List UInt8) (at_ width:Nat):List UInt8:=(bs.drop at_).take width
def numI (bs:List UInt8):Int:=wrap64 (numB bs:Nat)
theorem numB_lt64 (bs:List UInt8) (h:bs.length≤8):numB bs<18446744073709551616:=
 Nat.lt_of_lt_of_le (numB_lt bs) (Nat.le_trans (Nat.pow_le_pow_right (by decide) h) (by decide))
theorem cutB_succ {bs:List UInt8} {at_ k:Nat} {x:UInt8} (h:bs[at_+k]?=some x):cutB bs at_ (k+1)=cutB bs at_ k++[x]:=by
 unfold cutB
 have h1:(bs.drop at_)[k]?=some x:=by rw [List.getElem?_drop];exact h
 obtain ⟨hk,e⟩:=List.getElem?_eq_some_iff.1 h1
 rw [List.take_succ_eq_append_getElem hk,e]
theorem bits_or_256 (u y:Nat) (hu:u<72057594037927936) (hy:y<256):bits .or .u64 ((256*u:Nat):Int) (y:Int)=((256*u+y:Nat):Int):=by
 have h1:(BitVec.ofInt 64 ((256*u:Nat):Int)).toNat=256*u:=by
  rw [BitVec.ofInt_natCast,BitVec.toNat_ofNat];exact Nat.mod_eq_of_lt (by omega)
 have h2:(BitVec.ofInt 64 (y:Int)).toNat=y:=by
  rw [BitVec.ofInt_natCast,BitVec.toNat_ofNat];exact Nat.mod_eq_of_lt (by omega)
 have h3:256*u |||y=256*u+y:=by
  have:=Nat.two_pow_add_eq_or_of_lt (i:=8) (b:=y) hy u
  rw [show (2:Nat)^8=256 from rfl] at this
  exact this.symm
 show IntKind.u64.wrap ((BitVec.ofInt 64 ((256*u:Nat):Int) |||BitVec.ofInt 64 (y:Int)).toNat:Int)=_
 rw [BitVec.toNat_or,h1,h2,h3,IntKind.wrap_u64]
 omega
theorem num_any (A:Option Addr) (n c:Nat) (bs:List UInt8) (at_ width:Nat) (B:Nat) (w:World) (hm:n≤100000000) (hnc:n≤c) (hn:n=bs.length) (hr:Reads w B 1 A n (bs.map byteV)) (h1:1≤width) (h8:width≤8) (hin:at_+width≤n):
  Calls Tryz.prog 98 #[.slice A n c,.int .i64 (at_:Nat),.int .i64 (width:Nat)] w fun e w'=>e= .returned (.tuple #[.int .i64 (numI (cutB bs at_ width)),.bool true])∧w'=w:=by
 obtain ⟨b,o,rfl,hbB,hcell⟩:=hr.plain (by omega) (by omega)
 have HC:=hide hcell
 have HN:=hide hn
 have HW:=hide (wide_any (width:Nat) true (by simp;omega) w)
 have a1:(at_:Int)≤n:=by omega
 have a2:(0:Int)≤at_:=by omega
 have a3:(width:Int)≤(n:Int)-at_:=by omega
 have a4:(1:Int)≤width:=by omega
 have a5:(width:Int)≤8:=by omega
 have a6:(at_:Int)+width≤n:=by omega
 have a7:(at_:Int)+width≤c:=by omega
 clear hr hn hcell
 go_enter Tryz.func98,Tryz.ntmps98
 go_upto_region 5 with (go_at_call 162;refine HW.out.mono ?_;rintro e w' ⟨rfl,hw'⟩;obtain rfl:=hw'.symm)
 have hww:at_+width-at_=width:=by omega
 rw [hww]
 go_loopw [8,42] (fun uv iv wr=>wr=w∧∃k:Nat,k≤width∧iv= .int .i64 k∧uv= .int .u64 (numB (cutB bs at_ k):Nat)) (fun _ iv _=>width-(intOf iv).toNat)
 case atStart=>exact ⟨rfl,0,Nat.zero_le _,rfl,rfl⟩
 case round=>
  obtain ⟨rfl,k,hk,rfl,rfl⟩:=hrel
  clear hww
  by_cases hlt:(k:Int)<width
  ·have hkb:at_+k<bs.length:=by have:=HN.out;omega
   obtain ⟨x,hx⟩:∃x,bs[at_+k]?=some x:=⟨_,List.getElem?_eq_getElem hkb⟩
   have hc:wr.cell? ⟨b,o+at_+k,none⟩=some (.int .u8 ((x.toNat:Nat):Int)):=by
    rw [Nat.add_assoc]
    exact HC.out (at_+k) (byteV x) (by rw [List.getElem?_map,hx];rfl)
   have hxl:=x.toNat_lt
   have HS:=hide (show numB (cutB bs at_ (k+1))=256*numB (cutB bs at_ k)+x.toNat by rw [cutB_succ hx,numB_snoc])
   have hu:numB (cutB bs at_ k)<256^7:=Nat.lt_of_lt_of_le (numB_lt _) (Nat.pow_le_pow_right (by decide) (by unfold cutB;rw [List.length_take];omega))
   have hu2:numB (cutB bs at_ k)<72057594037927936:=hu
   generalize numB (cutB bs at_ k)=u at*
   generalize x.toNat=y at*
   have e1:bits BinOp.or IntKind.u64 ((u:Int)*256) (y:Int)=((256*u+y:Nat):Int):=by
    have h9:=bits_or_256 u y hu2 hxl
    rw [show ((256*u:Nat):Int)=(u:Int)*256 by omega] at h9
    exact h9
   have t2:(0:Int)≤k:=by omega
   clear hu hx hkb
   go_wp2
   go_roundw
   case rel=>exact ⟨by trivial,k+1,by omega,by go_num,by rw [HS.out];go_num⟩
   case measure=>simp [intOf];omega
  ·obtain rfl:k=width:=by omega
   have hu:=numB_lt64 (cutB bs at_ k) (by unfold cutB;rw [List.length_take];omega)
   have HV:=hide (show numI (cutB bs at_ k)=wrap64 ((numB (cutB bs at_ k):Nat):Int) from rfl)
   generalize numB (cutB bs at_ k)=u at*
   go_wp2
   go_ret2
   refine ⟨?_,rfl⟩
   rw [HV.out]
   simp
end Go.Proofs.YtnkjkgmohmcobaaGreatDoor
namespace Go.Proofs.YtnkjkgmohmcobaaGreatDoor
open Go.RowKit
def pgV (bs:List UInt8):Value:= .agg (bs.map byteV).toArray
theorem info_pg:(Tryz.prog.info? 116).map (·.size)=some 512:=by kernel_rfl
theorem pg_size (bs:List UInt8) (h:bs.length=512):((bs.map byteV).toArray).size=512:=by simp [h]
theorem pg_reads {W:World} {g:Nat} {t:TypeId} {bs:List UInt8} (k:Blk W g t (bs.map byteV).toArray) (hl:bs.length=512):Reads W (g+1) 1 (some ⟨g,0,none⟩) 512 (bs.map byteV):=by
 have h:=Reads.of_blk (n:=512) (size:=1) k (by simp [hl])
 simpa using h
theorem pnum_any (bs:List UInt8) (hl:bs.length=512) (at_ width:Nat) (w:World) (h1:1≤width) (h8:width≤8) (hin:at_+width≤512):
  Calls Tryz.prog 112 #[pgV bs,.int .i64 (at_:Nat),.int .i64 (width:Nat)] w fun e w'=>e= .returned (.int .i64 (numI (cutB bs at_ width)))∧Below w.heap.size w w':=by
 have HN:=hide (fun W (k:Blk W w.heap.size 116 (bs.map byteV).toArray)=>num_any (some ⟨w.heap.size,0,none⟩) 512 512 bs at_ width _ W (by omega) (by omega) hl.symm (pg_reads k hl) h1 h8 hin)
 unfold pgV
 generalize hX:(bs.map byteV).toArray=X at*
 clear hX
 go_enter Tryz.func112,Tryz.ntmps112
 go_wp2_with (go_at_call 98;refine (HN.out _ (Blk.new _ _ _)).mono ?_;rintro e w' ⟨rfl,hw'⟩;obtain rfl:=hw'.symm)
 go_ret
 exact ⟨rfl,(Below.refl _ _).alloc (Nat.le_refl _) _⟩
theorem pNo_any (bs:List UInt8) (hl:bs.length=512) (w:World):Calls Tryz.prog 110 #[pgV bs] w fun e w'=>e= .returned (.int .i64 (numI (cutB bs 12 2)))∧Below w.heap.size w w':=by
 have HN:=hide (fun W=>pnum_any bs hl 12 2 W (by omega) (by omega) (by omega))
 have hsz:=pg_size bs hl
 have HII:=hide (show (Tryz.prog.info? 116).map (·.size)=some ((bs.map byteV).toArray).size by rw [hsz];exact info_pg)
 unfold pgV at*
 generalize hX:(bs.map byteV).toArray=X at*
 clear hX hsz
 have HB:=hide (Blk.new w 116 X)
 have hb1:Below w.heap.size w (w.alloc (.cells X 116)):=(Below.refl _ _).alloc (Nat.le_refl _) _
 go_enter Tryz.func110,Tryz.ntmps110
 go_wp2_with (first
  |(refine wpList_load_row rfl 116 (.tmp 1) rfl w.heap.size rfl 116 X (0,0) _ HB.out Tryz.underlying116 rfl HII.out ?_)
  |(go_at_call 112;refine (HN.out _).mono ?_;rintro e w2 ⟨rfl,hb2⟩))
 go_ret
 exact ⟨rfl,below_via hb1 hb2 hb1.size⟩
theorem pLSN_any (bs:List UInt8) (hl:bs.length=512) (w:World):Calls Tryz.prog 159 #[pgV bs] w fun e w'=>e= .returned (.int .i64 (numI (cutB bs 4 8)))∧Below w.heap.size w w':=by
 have HN:=hide (fun W=>pnum_any bs hl 4 8 W (by omega) (by omega) (by omega))
 have hsz:=pg_size bs hl
 have HII:=hide (show (Tryz.prog.info? 116).map (·.size)=some ((bs.map byteV).toArray).size by rw [hsz];exact info_pg)
 unfold pgV at*
 generalize hX:(bs.map byteV).toArray=X at*
 clear hX hsz
 have HB:=hide (Blk.new w 116 X)
 have hb1:Below w.heap.size w (w.alloc (.cells X 116)):=(Below.refl _ _).alloc (Nat.le_refl _) _
 go_enter Tryz.func159,Tryz.ntmps159
 go_wp2_with (first
  |(refine wpList_load_row rfl 116 (.tmp 1) rfl w.heap.size rfl 116 X (0,0) _ HB.out Tryz.underlying116 rfl HII.out ?_)
  |(go_at_call 112;refine (HN.out _).mono ?_;rintro e w2 ⟨rfl,hb2⟩))
 go_ret
 exact ⟨rfl,below_via hb1 hb2 hb1.size⟩
theorem pNext_any (bs:List UInt8) (hl:bs.length=512) (w:World):Calls Tryz.prog 111 #[pgV bs] w fun e w'=>e= .returned (.int .i64 (numI (cutB bs 14 2)))∧Below w.heap.size w w':=by
 have HN:=hide (fun W=>pnum_any bs hl 14 2 W (by omega) (by omega) (by omega))
 have hsz:=pg_size bs hl
 have HII:=hide (show (Tryz.prog.info? 116).map (·.size)=some ((bs.map byteV).toArray).size by rw [hsz];exact info_pg)
 unfold pgV at*
 generalize hX:(bs.map byteV).toArray=X at*
 clear hX hsz
 have HB:=hide (Blk.new w 116 X)
 have hb1:Below w.heap.size w (w.alloc (.cells X 116)):=(Below.refl _ _).alloc (Nat.le_refl _) _
 go_enter Tryz.func111,Tryz.ntmps111
 go_wp2_with (first
  |(refine wpList_load_row rfl 116 (.tmp 1) rfl w.heap.size rfl 116 X (0,0) _ HB.out Tryz.underlying116 rfl HII.out ?_)
  |(go_at_call 112;refine (HN.out _).mono ?_;rintro e w2 ⟨rfl,hb2⟩))
 go_ret
 exact ⟨rfl,below_via hb1 hb2 hb1.size⟩
theorem pNote_any (bs:List UInt8) (hl:bs.length=512) (w:World):Calls Tryz.prog 108 #[pgV bs] w fun e w'=>e= .returned (.int .i64 (numI (cutB bs 16 8)))∧Below w.heap.size w w':=by
 have HN:=hide (fun W=>pnum_any bs hl 16 8 W (by omega) (by omega) (by omega))
 have hsz:=pg_size bs hl
 have HII:=hide (show (Tryz.prog.info? 116).map (·.size)=some ((bs.map byteV).toArray).size by rw [hsz];exact info_pg)
 unfold pgV at*
 generalize hX:(bs.map byteV).toArray=X at*
 clear hX hsz
 have HB:=hide (Blk.new w 116 X)
 have hb1:Below w.heap.size w (w.alloc (.cells X 116)):=(Below.refl _ _).alloc (Nat.le_refl _) _
 go_enter Tryz.func108,Tryz.ntmps108
 go_wp2_with (first
  |(refine wpList_load_row rfl 116 (.tmp 1) rfl w.heap.size rfl 116 X (0,0) _ HB.out Tryz.underlying116 rfl HII.out ?_)
  |(go_at_call 112;refine (HN.out _).mono ?_;rintro e w2 ⟨rfl,hb2⟩))
 go_ret
 exact ⟨rfl,below_via hb1 hb2 hb1.size⟩
theorem psum_any (bs:List UInt8) (hl:bs.length=512) (w:World):Calls Tryz.prog 104 #[pgV bs] w fun e w'=>e= .returned (.int .i64 ((moreD 0 (bs.drop 4):Nat):Int))∧Below w.heap.size w w':=by
 have HS:=hide (fun W (k:Blk W w.heap.size 116 (bs.map byteV).toArray)=>sum_any (some ⟨w.heap.size,4,none⟩) 508 508 (bs.drop 4) _ W (Nat.le_refl _) (by omega) (by simp [hl]) (by
  have h:=((pg_reads k hl).more k.lt).cut (k:=4) (cap:=512) (by omega) (Nat.le_refl _)
  rw [if_neg (by omega),Option.map_some,add_plain] at h
  simpa using h))
 have hlt:moreD 0 (bs.drop 4)<4294967296:=by unfold moreD;omega
 unfold pgV
 generalize hX:(bs.map byteV).toArray=X at*
 generalize moreD 0 (bs.drop 4)=v at*
 clear hX
 have hb1:Below w.heap.size w (w.alloc (.cells X 116)):=(Below.refl _ _).alloc (Nat.le_refl _) _
 go_enter Tryz.func104,Tryz.ntmps104
 go_wp2_with (go_at_call 166;refine (HS.out _ (Blk.new _ _ _)).mono ?_;rintro e w2 ⟨rfl,hb2⟩)
 go_ret
 exact ⟨rfl,below_via hb1 hb2 hb1.size⟩
theorem none_any (A:Option Addr) (n c:Nat) (bs:List UInt8) (B:Nat) (w:World) (hm:n≤100000000) (hn:n=bs.length) (hr:Reads w B 1 A n (bs.map byteV)):
  Calls Tryz.prog 113 #[.slice A n c] w fun e w'=>e= .returned (.bool (bs.all (·==0)))∧w'=w:=by
 have HR:=hide hr
 have HN:=hide hn
 clear hr hn
 go_enter Tryz.func113,Tryz.ntmps113
 go_wp2
 go_loopw [7] (fun iv wr=>wr=w∧∃k:Nat,k≤n∧iv= .int .i64 k∧Hid ((bs.take k).all (·==0)=true)) (fun iv _=>n-(intOf iv).toNat)
 case atStart=>exact ⟨rfl,0,Nat.zero_le _,rfl,hide (by simp)⟩
 case round=>
  obtain ⟨rfl,k,hk,rfl,hT⟩:=hrel
  by_cases hlt:(k:Int)<n
  ·obtain ⟨b,o,rfl,hbB,hcell⟩:=HR.out.plain (by omega) (by omega)
   have hkb:k<bs.length:=by have:=HN.out;omega
   obtain ⟨x,hx⟩:∃x,bs[k]?=some x:=⟨_,List.getElem?_eq_getElem hkb⟩
   have hc:wr.cell? ⟨b,o+k,none⟩=some (.int .u8 ((x.toNat:Nat):Int)):=hcell k (byteV x) (by rw [List.getElem?_map,hx];rfl)
   have u0:(0:Int)≤k:=by omega
   have HX:=hide hx
   have hxl:=x.toNat_lt
   clear hcell hx
   cases h0:(((x.toNat:Nat):Int) != 0)
   ·have HS:=hide (show (bs.take (k+1)).all (·==0)=true by
     obtain ⟨l1,e1⟩:=List.getElem?_eq_some_iff.1 HX.out
     have h9:x.toNat=0:=by have:=h0;simp at this;omega
     have hx0:x=0:=UInt8.toNat_inj.1 (by rw [h9];rfl)
     rw [List.take_succ_eq_append_getElem l1,e1,List.all_append,hT.out,hx0]
     rfl)
    generalize x.toNat=y at*
    clear hkb
    go_wp2
    go_roundw
    case rel=>exact ⟨by trivial,k+1,by omega,by go_num,HS⟩
    case measure=>simp [intOf];omega
   ·have HS:=hide (show bs.all (·==0)=false by
     rw [List.all_eq_false]
     refine ⟨x,List.mem_of_getElem? HX.out,?_⟩
     intro h9
     rw [beq_iff_eq] at h9
     subst h9
     simp at h0)
    generalize x.toNat=y at*
    clear hkb
    go_wp2
    go_ret
    exact ⟨ret_bool HS.out.symm,rfl⟩
  ·have HS:=hide (show bs.all (·==0)=true by have h9:=hT.out;rw [List.take_of_length_le (by have:=HN.out;omega)] at h9;exact h9)
   go_wp2
   go_ret
   exact ⟨ret_bool HS.out.symm,rfl⟩
end Go.Proofs.YtnkjkgmohmcobaaGreatDoor
namespace Go.Proofs.YtnkjkgmohmcobaaGreatDoor
open Go.RowKit
theorem info_page:(Tryz.prog.info? 116).map (fun i=>(i.zero,i.size,i.bytes))=some (some (.agg Tryz.zeroCells116),512,512):=by kernel_rfl
end Go.Proofs.YtnkjkgmohmcobaaGreatDoor
namespace Go.Proofs.YtnkjkgmohmcobaaGreatDoor
open Go.RowKit
def logC (d:Nat) (limit kept forced:Int) (m:Nat) (pv:Value):Array Value:=#[.pointer (some ⟨d,0,none⟩),.int .i64 limit,.int .i64 kept,.int .i64 forced,.map (some m),pv]
end Go.Proofs.YtnkjkgmohmcobaaGreatDoor
namespace Go.Proofs.YtnkjkgmohmcobaaGreatDoor
open Go.RowKit Go.Maps
def heldV (v:Value):Option (DataW Value × List MemPlace):=some (.held v,[])
theorem keyInt:Keyed Tryz.prog 3:=int_keyed Tryz.underlying3
theorem key_of {p:Int} (h:(Lit.int .i64 p).wf=true):keyOf Tryz.prog 3 (.int .i64 p)=some (.int .i64 p):=keyOf_int_mk Tryz.underlying3 h
def MapF (W:World) (m k:Nat) (f:Int→Option Value):Prop:=∃D:DataW Value,W.ownsMap Tryz.prog 3 heldV m k D∧∀p:Int,Maps.has D (.int .i64 p)=(f p).isSome∧∀v,f p=some v→∀z,D.atKey (.int .i64 p) z= .held v
theorem MapF.ne {W:World} {m k g:Nat} {f:Int→Option Value} {cs:Array Value} {t:TypeId} (h:MapF W m k f) (kb:W.heap[g]?=some (Obj.cells cs t (0,0))):g≠m:=by
 obtain ⟨D,⟨es,clock,hb,_⟩,_⟩:=h
 rintro rfl
 rw [hb] at kb
 cases kb
theorem MapF.start (w:World):MapF (w.alloc (.map #[] 0)) w.heap.size 0 (fun _=>none):=⟨.map [],World.ownsMap_made _ _ _ _,fun _=>⟨rfl,fun _ h=>by cases h⟩⟩
theorem MapF.put {W':World} {m k:Nat} {f:Int→Option Value} {D:DataW Value} {p:Int} {v:Value} (hD:∀p:Int,Maps.has D (.int .i64 p)=(f p).isSome∧∀v,f p=some v→∀z,D.atKey (.int .i64 p) z= .held v) (hm:Maps.IsMap D) (h:W'.ownsMap Tryz.prog 3 heldV m k (D.put (.int .i64 p) (.held v))):MapF W' m k (fun q=>if q=p then some v else f q):=by
 refine ⟨_,h,fun q=>?_⟩
 by_cases hq:q=p
 ·subst hq
  simp only [if_true]
  exact ⟨has_put_same hm (show WideAt.IsKeyLit (.int .i64 q) by simp [WideAt.IsKeyLit]) _,fun u hu z=>by injection hu with hu;subst hu;exact atKey_put_same hm (show WideAt.IsKeyLit (.int .i64 q) by simp [WideAt.IsKeyLit]) _ _⟩
 ·have hne:(Lit.int .i64 q)≠(Lit.int .i64 p):=fun e=>hq (by injection e)
  simp only [if_neg hq]
  exact ⟨(has_put_other hne _).trans (hD q).1,fun u hu z=>(atKey_put_other hne _ _).trans ((hD q).2 u hu z)⟩
theorem MapF.kept {W W':World} {m k:Nat} {f:Int→Option Value} (h:MapF W m k f) (hk:W'.heap[m]?=W.heap[m]?):MapF W' m k f:=by
 obtain ⟨D,⟨es,clock,hb,r⟩,hD⟩:=h
 exact ⟨D,⟨es,clock,hk.trans hb,r⟩,hD⟩
theorem MapF.lt {W:World} {m k:Nat} {f:Int→Option Value} (h:MapF W m k f):m<W.heap.size:=by
 obtain ⟨D,hD,_⟩:=h
 exact hD.lt
theorem World.ownsMap.kept' {W W':World} {m k:Nat} {f:Int→Option Value} (h:MapF W m k f) (hb:Below W.heap.size W W'):MapF W' m k f:=h.kept (hb.block m h.lt)
end Go.Proofs.YtnkjkgmohmcobaaGreatDoor
namespace Go.Proofs.YtnkjkgmohmcobaaGreatDoor
open Go.RowKit
theorem numNil_any (A:Option Addr) (c:Nat) (w:World):Calls Tryz.prog 98 #[.slice A 0 c,.int .i64 0,.int .i64 2] w fun e w'=>e= .returned (.tuple #[.int .i64 0,.bool false])∧w'=w:=by
 have HW:=hide (wide_any 2 true (by decide) w)
 go_enter Tryz.func98,Tryz.ntmps98
 go_wp2_with (go_at_call 162;refine HW.out.mono ?_;rintro e w' ⟨rfl,hw'⟩;obtain rfl:=hw'.symm)
 go_ret2
 exact ⟨rfl,rfl⟩
theorem results_row_2 {fn:Func} {p t2 t3:Tmp} {ty:TypeId} (h:fn.results= #[.cell p ty,.tmp t2,.tmp t3]) (tmps:Array Value) (w:World) (g:Nat) (cs:Array Value)
  (hp:tmps.getD p undef= .pointer (some ⟨g,0,none⟩)) (hl:(loadVar ty ⟨g,0,none⟩).run Tryz.prog w= .ok (.agg cs) w):
  (results fn tmps).run Tryz.prog w= .ok (.tuple #[.agg cs,tmps.getD t2 undef,tmps.getD t3 undef]) w:=by
 have hp':tmps[p]?.getD undef= .pointer (some ⟨g,0,none⟩):=by simpa using hp
 simp [results,h,hp',asAddr,hl]
def recZ:Array Value:=#[.int .i64 0,.int .i64 0,.int .i64 0,.int .i64 0,.slice none 0 0,.int .i64 0,.string ⟨#[]⟩,.int .i64 0,.string ⟨#[]⟩,.int .i64 0,.slice none 0 0,.int .i64 0,.int .i64 0,.int .i64 0,.int .i64 0]
theorem getNil_any (A:Option Addr) (c:Nat) (w:World):Calls Tryz.prog 171 #[.slice A 0 c] w fun e w'=>e= .returned (.tuple #[.agg recZ,.int .i64 0,.int .i64 13])∧Below w.heap.size w w':=by
 have HN:=hide (fun W=>numNil_any A c W)
 go_enter Tryz.func171,Tryz.ntmps171
 go_upto_region 1 with (fail)
 refine gen1 (R:=fun W=>Code.wp _ _ _ _ W) (fun W1 kb hb1 hz1=>?_)
 have HB1:=hide hb1
 have HKB:=hide kb
 clear kb hb1
 go_upto_region 3 with (go_at_call 98;refine (HN.out _).mono ?_;rintro e w' ⟨rfl,hw'⟩;obtain rfl:=hw'.symm)
 have hX:recZ= #[.int .i64 0,.int .i64 0,.int .i64 0,.int .i64 0,.slice none 0 0,.int .i64 0,.string ⟨#[]⟩,.int .i64 0,.string ⟨#[]⟩,.int .i64 0,.slice none 0 0,.int .i64 0,.int .i64 0,.int .i64 0,.int .i64 0]:=rfl
 have HX:=hide hX
 clear hX
 have HII:=hide (show (Tryz.prog.info? 134).map (·.size)=some recZ.size by rw [HX.out];kernel_rfl)
 have H1C:=hide (show recZ.all (·.oneCell')=true by rw [HX.out];simp [Value.oneCell'])
 have HZX:=hide (show (15:Nat)=recZ.size by rw [HX.out];rfl)
 have hK4:Blk (W1.setRow w.heap.size recZ) w.heap.size 134 recZ:=setRow_heap W1 w.heap.size _ _ _ _ HKB.out
 have HK4:=hide hK4
 clear hK4
 have HB4:=hide ((touch_setRow W1 w.heap.size recZ).below HB1.out (Nat.le_refl _))
 go_wp2_with (refine wpList_store_row rfl 134 (.tmp 2) (.tmp 23) rfl w.heap.size recZ rfl (by rw [HX.out];rfl) 134 _ HKB.out HII.out HZX.out H1C.out ?_)
 refine bodyPost_ret (results_row_2 Tryz.results171 _ _ w.heap.size recZ rfl (run_loadVar_row _ _ _ _ recZ (0,0) _ HK4.out Tryz.underlying134 rfl HII.out)) rfl ?_
 exact ⟨rfl,HB4.out⟩
end Go.Proofs.YtnkjkgmohmcobaaGreatDoor
namespace Go.Proofs.YtnkjkgmohmcobaaGreatDoor
open Go.RowKit
theorem numI_one (bs:List UInt8) (i:Nat) (x:UInt8) (h:bs[i]?=some x):numI (cutB bs i 1)=(x.toNat:Nat):=by
 have h1:cutB bs i 1=[x]:=by
  have:=cutB_succ (bs:=bs) (at_:=i) (k:=0) (by simpa using h)
  rw [this]
  simp [cutB]
 have hx:=x.toNat_lt
 rw [h1]
 unfold numI
 rw [show numB [x]=x.toNat by simp [numB]]
 unfold wrap64
 omega
def cellG (bs:List UInt8):Option CellD:=
 if (bs.getD 0 0).toNat=1 then (if (bs.getD 1 0).toNat≤32 then some ⟨1,cutB bs 2 (bs.getD 1 0).toNat,0,0,0⟩ else none)
 else if (bs.getD 0 0).toNat=2 then (if numI (cutB bs 1 8)≤numI (cutB bs 17 8)∧numI (cutB bs 17 8)≤numI (cutB bs 9 8) then some ⟨2,[],numI (cutB bs 1 8),numI (cutB bs 9 8),numI (cutB bs 17 8)⟩ else none)
 else none
def CellGP (w:World) (o:Option CellD) (e:Ending) (w':World):Prop:=
 ((o=none∧∃sz er,e= .returned (.tuple #[.agg #[.int .i64 0,.slice none 0 0,.int .i64 0,.int .i64 0,.int .i64 0],.int .i64 sz,.int .i64 er])∧er≠0)∨(∃d A n c sz,o=some d∧e= .returned (.tuple #[.agg #[.int .i64 d.kind,.slice A n c,.int .i64 d.lo,.int .i64 d.hi,.int .i64 d.val],.int .i64 sz,.int .i64 0])∧BytesAt w' w'.heap.size (.slice A n c) d.data))∧Below w.heap.size w w'
theorem info_cellK:(Tryz.prog.info? 41).map (·.size)=some 5:=by kernel_rfl
theorem cellGet_any (A:Option Addr) (n c:Nat) (bs:List UInt8) (B:Nat) (w:World) (hB:B≤w.heap.size) (hm:46≤n) (hm2:n≤64) (hnc:n≤c) (hn:n=bs.length) (hr:Reads w B 1 A n (bs.map byteV)):
  Calls Tryz.prog 230 #[.slice A n c] w (CellGP w (cellG bs)):=by
 have HNUM:=hide (fun (at_ width:Nat) (W:World) (h1:1≤width) (h8:width≤8) (hin:at_+width≤n) (hb:Below w.heap.size w W)=>num_any A n c bs at_ width B W (by omega) hnc hn (hr.below hb hB) h1 h8 hin)
 have HRD:=hide (fun (W:World) (hb:Below w.heap.size w W)=>hr.below hb hB)
 have HN:=hide hn
 obtain ⟨b,o,rfl,hbB,_⟩:=hr.plain (by omega) (by omega)
 clear hr
 obtain ⟨x0,hx0⟩:∃x,bs[0]?=some x:=⟨_,List.getElem?_eq_getElem (by omega)⟩
 obtain ⟨x1,hx1⟩:∃x,bs[1]?=some x:=⟨_,List.getElem?_eq_getElem (by omega)⟩
 have H0:=hide (numI_one bs 0 x0 hx0)
 have H1:=hide (numI_one bs 1 x1 hx1)
 have HG:=hide (show cellG bs=(if x0.toNat=1 then (if x1.toNat≤32 then some ⟨1,cutB bs 2 x1.toNat,0,0,0⟩ else none)
  else if x0.toNat=2 then (if numI (cutB bs 1 8)≤numI (cutB bs 17 8)∧numI (cutB bs 17 8)≤numI (cutB bs 9 8) then some ⟨2,[],numI (cutB bs 1 8),numI (cutB bs 9 8),numI (cutB bs 17 8)⟩ else none) else none) by
  unfold cellG
  rw [show bs.getD 0 0=x0 by rw [List.getD_eq_getElem?_getD,hx0];rfl,show bs.getD 1 0=x1 by rw [List.getD_eq_getElem?_getD,hx1];rfl])
 have hxl0:=x0.toNat_lt
 have hxl1:=x1.toNat_lt
 generalize x0.toNat=k0 at*
 generalize x1.toNat=k1 at*
 clear hn hx0 hx1
 go_enter Tryz.func230,Tryz.ntmps230
 go_upto_region 1 with (fail)
 refine gen1 (R:=fun W=>Code.wp _ _ _ _ W) (fun W1 kb hb1 hz1=>?_)
 have HB1:=hide hb1
 have HKB:=hide kb
 clear kb hb1
 have HC0:=hide (HNUM.out 0 1 W1 (by omega) (by omega) (by omega) HB1.out)
 rw [H0.out] at HC0
 go_upto_region 5 with (go_at_call 98;refine HC0.out.mono ?_;rintro e w' ⟨rfl,hw'⟩;obtain rfl:=hw'.symm)
 refine gen1 (R:=fun W=>Code.wp _ _ _ _ W) (fun W2 kc hb2 hz2=>?_)
 have HL2:=hide (HB1.out.trans (hb2.mono HB1.out.size))
 have HKB2:=hide (Blk.via hb2 HKB.out)
 have HKC:=hide kc
 have hzz:=HB1.out.size
 clear kc hb2
 by_cases hk1:k0=1
 ·subst hk1
  have HC1:=hide (HNUM.out 1 1 W2 (by omega) (by omega) (by omega) HL2.out)
  rw [H1.out] at HC1
  by_cases hsz:(n:Int)<2+(k1:Int)
  ·have HNO:=hide (show cellG bs=none by rw [HG.out,if_pos rfl,if_neg (by omega)])
   have c20:=(HKB2.out).cell 0
   have c21:=(HKB2.out).cell 1
   have c22:=(HKB2.out).cell 2
   have c23:=(HKB2.out).cell 3
   have c24:=(HKB2.out).cell 4
   have f20:=(HKB2.out).frozen 0
   have f21:=(HKB2.out).frozen 1
   have f22:=(HKB2.out).frozen 2
   have f23:=(HKB2.out).frozen 3
   have f24:=(HKB2.out).frozen 4
   have l20:=(HKB2.out).lt
   go_wp2_with (go_at_call 98;refine HC1.out.mono ?_;rintro e w' ⟨rfl,hw'⟩;obtain rfl:=hw'.symm)
   refine bodyPost_ret (results_row_2 Tryz.results230 _ _ w.heap.size #[.int .i64 0,.slice none 0 0,.int .i64 0,.int .i64 0,.int .i64 0] rfl (run_loadVar_row _ _ _ _ #[.int .i64 0,.slice none 0 0,.int .i64 0,.int .i64 0,.int .i64 0] (0,0) _ (((((Blk.set_ HKB2.out 0 _).set_ 1 _).set_ 2 _).set_ 3 _).set_ 4 _) Tryz.underlying41 rfl info_cellK)) rfl ⟨?_,(((((Below.setCell HL2.out (p:=⟨w.heap.size,0,none⟩) (Nat.le_refl _) _).setCell (p:=⟨w.heap.size,1,none⟩) (Nat.le_refl _) _).setCell (p:=⟨w.heap.size,2,none⟩) (Nat.le_refl _) _).setCell (p:=⟨w.heap.size,3,none⟩) (Nat.le_refl _) _).setCell (p:=⟨w.heap.size,4,none⟩) (Nat.le_refl _) _)⟩
   exact .inl ⟨HNO.out,_,_,rfl,by omega⟩
  ·have hszn:2+k1≤n:=by omega
   go_upto_region 12 with (go_at_call 98;refine HC1.out.mono ?_;rintro e w' ⟨rfl,hw'⟩;obtain rfl:=hw'.symm)
   obtain ⟨i0,hi,hz0,hz1',hz2'⟩:=info_parts info_u8R
   have hcut:((bs.map byteV).drop (2*1)).take (k1*1)=(cutB bs 2 k1).map byteV:=by
    unfold cutB
    rw [Nat.mul_one,Nat.mul_one,List.map_take,List.map_drop]
   have hclen:(cutB bs 2 k1).length=k1:=by
    unfold cutB
    rw [List.length_take,List.length_drop, ← HN.out]
    omega
   have hrd:Reads W2 B 1 (some ⟨b,o+2,none⟩) k1 ((cutB bs 2 k1).map byteV):=by
    have h:=((HRD.out W2 HL2.out).cut (k:=2) (cap:=c) (by omega) hnc).take (k:=k1) (by omega)
    rw [if_neg (by omega),Option.map_some,add_plain,hcut] at h
    exact h
   have g1:(2:Int)+k1≤c:=by omega
   have g2:(2:Int)≤2+k1:=by omega
   have g3:¬(c=2):=by omega
   have HRDX:=hide hrd
   have HCLEN:=hide hclen
   clear hrd hcut hclen
   go_wp2_with (at_builtin;refine heldG ?_)
   refine unheldG ?_
   at_builtin
   rw [show 2+k1-2=k1 by omega]
   refine wpList_append_any _ rfl _ _ _ rfl W2.heap.size 5 i0 _ 1 1 Tryz.underlying24 hi hz0 hz1' hz2' rfl (by omega) (.slice none 0 0) 0 [] rfl (World.ownsRow_nil _ _ _ _) B (some ⟨b,o+2,none⟩) k1 (c-2) ((cutB bs 2 k1).map byteV) rfl HRDX.out (bytes_one _) (by unfold maxLen;omega) (by omega) (Nat.le_refl _) ?_
   intro v3 w3 hown hg _
   simp only [Nat.zero_add,List.nil_append] at hown
   obtain ⟨A3,c3,rfl,hnc3,hcm3,hnil3,_⟩:=own_slice hown
   have hb3:Below W2.heap.size W2 w3:=(Below.refl _ _).grown hg (Nat.le_refl _) (fun q hq=>by cases hq)
   have kc3:=Blk.via hb3 HKC.out
   have e1:=kc3.cell 1
   have f1:=kc3.frozen 1
   have l1:=kc3.lt
   have HKC3:=hide kc3
   have HB3:=hide hb3
   have HOW:=hide hown
   clear hown hg hb3 kc3
   go_upto_region 20 with (fail)
   refine nameW (w:=World.setCell _ _ _) (R:=fun W=>Code.wp _ _ _ _ W) (fun W4 hW4=>?_)
   have kc4:Blk W4 W1.heap.size 41 #[.int .i64 1,.slice A3 k1 c3,.int .i64 0,.int .i64 0,.int .i64 0]:=hW4▸HKC3.out.set_ 1 _
   have kb4:Blk W4 w.heap.size 41 #[.int .i64 0,.slice none 0 0,.int .i64 0,.int .i64 0,.int .i64 0]:=hW4▸(Blk.via HB3.out HKB2.out).far (by simp;omega) _
   have hl3:Below w.heap.size w w3:=HL2.out.trans (HB3.out.mono HL2.out.size)
   have hl4:Below w.heap.size w W4:=hW4▸hl3.setCell (p:=⟨W1.heap.size,1,none⟩) (by simp;omega) _
   have ho4:W4.ownsRow W2.heap.size 5 1 (.slice A3 k1 c3) k1 ((cutB bs 2 k1).map byteV):=hW4▸row_keep HOW.out (fun q hq=>Below.heap_setCell _ _ _ _ (by
    have:=(World.ownsRow.lt HOW.out q hq).1
    have:=HKC.out.lt
    simp;omega))
   have hz24:w.heap.size<W2.heap.size:=by omega
   have HKC4:=hide kc4
   have HKB4:=hide kb4
   have HL4:=hide hl4
   have HO4:=hide ho4
   clear hW4 kc4 kb4 hl3 hl4 ho4 e1 f1 l1
   have HCK:=hide (cellCheck_any ⟨1,cutB bs 2 k1,0,0,0⟩ A3 k1 c3 W4 HCLEN.out.symm)
   have z0:=HKC4.out.cell 0
   have z1:=HKC4.out.cell 1
   have z2:=HKC4.out.cell 2
   have z3:=HKC4.out.cell 3
   have z4:=HKC4.out.cell 4
   by_cases hok:k1≤32
   ·have HE:=hide (show cellE ⟨1,cutB bs 2 k1,0,0,0⟩=0 from by unfold cellE rightC;rw [if_pos (by simp [HCLEN.out];omega)])
    have HGG:=hide (show cellG bs=some ⟨1,cutB bs 2 k1,0,0,0⟩ from by rw [HG.out,if_pos (by trivial),if_pos hok])
    rw [HE.out] at HCK
    clear hok
    go_upto_region 22 with (go_at_call 296;refine HCK.out.mono ?_;rintro e W5 ⟨rfl,hb5⟩;have HB5:=hide hb5;clear hb5)
    have kc5:=Blk.via HB5.out HKC4.out
    have kb5:=Blk.via HB5.out HKB4.out
    have y0:=kc5.cell 0
    have y1:=kc5.cell 1
    have y2:=kc5.cell 2
    have y3:=kc5.cell 3
    have y4:=kc5.cell 4
    have HKB5:=hide kb5
    have hl5:Below w.heap.size w W5:=HL4.out.trans (HB5.out.mono HL4.out.size)
    have HL5:=hide hl5
    clear kc5 kb5 hl5
    have c20:=(HKB5.out).cell 0
    have c21:=(HKB5.out).cell 1
    have c22:=(HKB5.out).cell 2
    have c23:=(HKB5.out).cell 3
    have c24:=(HKB5.out).cell 4
    have f20:=(HKB5.out).frozen 0
    have f21:=(HKB5.out).frozen 1
    have f22:=(HKB5.out).frozen 2
    have f23:=(HKB5.out).frozen 3
    have f24:=(HKB5.out).frozen 4
    have l20:=(HKB5.out).lt
    go_wp2_with fail
    refine bodyPost_ret (results_row_2 Tryz.results230 _ _ w.heap.size #[.int .i64 (⟨1,cutB bs 2 k1,0,0,0⟩:CellD).kind,.slice A3 k1 c3,.int .i64 (⟨1,cutB bs 2 k1,0,0,0⟩:CellD).lo,.int .i64 (⟨1,cutB bs 2 k1,0,0,0⟩:CellD).hi,.int .i64 (⟨1,cutB bs 2 k1,0,0,0⟩:CellD).val] rfl (run_loadVar_row _ _ _ _ #[.int .i64 (⟨1,cutB bs 2 k1,0,0,0⟩:CellD).kind,.slice A3 k1 c3,.int .i64 (⟨1,cutB bs 2 k1,0,0,0⟩:CellD).lo,.int .i64 (⟨1,cutB bs 2 k1,0,0,0⟩:CellD).hi,.int .i64 (⟨1,cutB bs 2 k1,0,0,0⟩:CellD).val] (0,0) _ (((((Blk.set_ HKB5.out 0 _).set_ 1 _).set_ 2 _).set_ 3 _).set_ 4 _) Tryz.underlying41 rfl info_cellK)) rfl ⟨?_,(((((Below.setCell HL5.out (p:=⟨w.heap.size,0,none⟩) (Nat.le_refl _) _).setCell (p:=⟨w.heap.size,1,none⟩) (Nat.le_refl _) _).setCell (p:=⟨w.heap.size,2,none⟩) (Nat.le_refl _) _).setCell (p:=⟨w.heap.size,3,none⟩) (Nat.le_refl _) _).setCell (p:=⟨w.heap.size,4,none⟩) (Nat.le_refl _) _)⟩
    refine .inr ⟨_,A3,k1,c3,_,HGG.out,rfl,?_⟩
    have ho5:=own_via HO4.out HB5.out
    have hne5:∀q,(Value.slice A3 k1 c3).ownBlock=some q→q≠w.heap.size:=fun q hq=>by have:=(World.ownsRow.lt HO4.out q hq).1;omega
    exact BytesAt.of_own (own_far (p:=⟨w.heap.size,4,none⟩) (own_far (p:=⟨w.heap.size,3,none⟩) (own_far (p:=⟨w.heap.size,2,none⟩) (own_far (p:=⟨w.heap.size,1,none⟩) (own_far (p:=⟨w.heap.size,0,none⟩) ho5 hne5 _) hne5 _) hne5 _) hne5 _) hne5 _)
   ·have HE:=hide (show cellE ⟨1,cutB bs 2 k1,0,0,0⟩=1 from by unfold cellE rightC;rw [if_neg (by simp [HCLEN.out];omega)])
    have HGG:=hide (show cellG bs=none from by rw [HG.out,if_pos (by trivial),if_neg hok])
    rw [HE.out] at HCK
    clear hok
    go_upto_region 21 with (go_at_call 296;refine HCK.out.mono ?_;rintro e W5 ⟨rfl,hb5⟩;have HB5:=hide hb5;clear hb5)
    have kb5:=Blk.via HB5.out HKB4.out
    have HKB5:=hide kb5
    have hl5:Below w.heap.size w W5:=HL4.out.trans (HB5.out.mono HL4.out.size)
    have HL5:=hide hl5
    clear kb5 hl5
    have c20:=(HKB5.out).cell 0
    have c21:=(HKB5.out).cell 1
    have c22:=(HKB5.out).cell 2
    have c23:=(HKB5.out).cell 3
    have c24:=(HKB5.out).cell 4
    have f20:=(HKB5.out).frozen 0
    have f21:=(HKB5.out).frozen 1
    have f22:=(HKB5.out).frozen 2
    have f23:=(HKB5.out).frozen 3
    have f24:=(HKB5.out).frozen 4
    have l20:=(HKB5.out).lt
    go_wp2_with fail
    refine bodyPost_ret (results_row_2 Tryz.results230 _ _ w.heap.size #[.int .i64 0,.slice none 0 0,.int .i64 0,.int .i64 0,.int .i64 0] rfl (run_loadVar_row _ _ _ _ #[.int .i64 0,.slice none 0 0,.int .i64 0,.int .i64 0,.int .i64 0] (0,0) _ (((((Blk.set_ HKB5.out 0 _).set_ 1 _).set_ 2 _).set_ 3 _).set_ 4 _) Tryz.underlying41 rfl info_cellK)) rfl ⟨?_,(((((Below.setCell HL5.out (p:=⟨w.heap.size,0,none⟩) (Nat.le_refl _) _).setCell (p:=⟨w.heap.size,1,none⟩) (Nat.le_refl _) _).setCell (p:=⟨w.heap.size,2,none⟩) (Nat.le_refl _) _).setCell (p:=⟨w.heap.size,3,none⟩) (Nat.le_refl _) _).setCell (p:=⟨w.heap.size,4,none⟩) (Nat.le_refl _) _)⟩
    exact .inl ⟨HGG.out,_,_,rfl,by omega⟩
 ·by_cases hk2:k0=2
  ·subst hk2
   obtain ⟨lo,hlo⟩:∃lo,lo=numI (cutB bs 1 8):=⟨_,rfl⟩
   obtain ⟨hi,hhi⟩:∃hi,hi=numI (cutB bs 9 8):=⟨_,rfl⟩
   obtain ⟨va,hva⟩:∃va,va=numI (cutB bs 17 8):=⟨_,rfl⟩
   have HG2:=HG.out
   rw [← hlo, ← hhi, ← hva] at HG2
   have HG:=hide HG2
   have hz1c:=HKC.out.lt
   have n1:=fun (W:World) (hb:Below w.heap.size w W)=>HNUM.out 1 8 W (by omega) (by omega) (by omega) hb
   have n2:=fun (W:World) (hb:Below w.heap.size w W)=>HNUM.out 9 8 W (by omega) (by omega) (by omega) hb
   have n3:=fun (W:World) (hb:Below w.heap.size w W)=>HNUM.out 17 8 W (by omega) (by omega) (by omega) hb
   rw [← hlo] at n1
   rw [← hhi] at n2
   rw [← hva] at n3
   have HN1:=hide n1
   have HN2:=hide n2
   have HN3:=hide n3
   clear HG2 n1 n2 n3 hlo hhi hva
   have hw1:w.heap.size≤W1.heap.size:=hzz
   have y2:=HKC.out.cell 2
   have y3:=HKC.out.cell 3
   have y4:=HKC.out.cell 4
   have p2:=HKC.out.frozen 2
   have p3:=HKC.out.frozen 3
   have p4:=HKC.out.frozen 4
   go_upto_region 18 with (go_at_call 98;refine (HN1.out _ HL2.out).mono ?_;rintro e w' ⟨rfl,hw'⟩;obtain rfl:=hw'.symm)
   go_upto_region 19 with (go_at_call 98;refine (HN2.out _ (HL2.out.setCell (p:=⟨W1.heap.size,2,none⟩) hw1 _)).mono ?_;rintro e w' ⟨rfl,hw'⟩;obtain rfl:=hw'.symm)
   go_upto_region 20 with (go_at_call 98;refine (HN3.out _ ((HL2.out.setCell (p:=⟨W1.heap.size,2,none⟩) hw1 _).setCell (p:=⟨W1.heap.size,3,none⟩) hw1 _)).mono ?_;rintro e w' ⟨rfl,hw'⟩;obtain rfl:=hw'.symm)
   refine nameW (w:=World.setCell _ _ _) (R:=fun W=>Code.wp _ _ _ _ W) (fun W4 hW4=>?_)
   have kc4:Blk W4 W1.heap.size 41 #[.int .i64 2,.slice none 0 0,.int .i64 lo,.int .i64 hi,.int .i64 va]:=hW4▸(((HKC.out.set_ 2 _).set_ 3 _).set_ 4 _)
   have kb4:Blk W4 w.heap.size 41 #[.int .i64 0,.slice none 0 0,.int .i64 0,.int .i64 0,.int .i64 0]:=hW4▸(((HKB2.out.far (by simp;omega) _).far (by simp;omega) _).far (by simp;omega) _)
   have hl4:Below w.heap.size w W4:=hW4▸(((HL2.out.setCell (p:=⟨W1.heap.size,2,none⟩) hw1 _).setCell (p:=⟨W1.heap.size,3,none⟩) hw1 _).setCell (p:=⟨W1.heap.size,4,none⟩) hw1 _)
   have ho4:W4.ownsRow W2.heap.size 5 1 (.slice none 0 0) 0 (([]:List UInt8).map byteV):=World.ownsRow_nil _ _ _ _
   have hz24:w.heap.size<W2.heap.size:=by omega
   have HKC4:=hide kc4
   have HKB4:=hide kb4
   have HL4:=hide hl4
   have HO4:=hide ho4
   clear hW4 kc4 kb4 hl4 ho4 y2 y3 y4 p2 p3 p4
   have HCK:=hide (cellCheck_any ⟨2,[],lo,hi,va⟩ none 0 0 W4 rfl)
   have z0:=HKC4.out.cell 0
   have z1:=HKC4.out.cell 1
   have z2:=HKC4.out.cell 2
   have z3:=HKC4.out.cell 3
   have z4:=HKC4.out.cell 4
   by_cases hok:lo≤va∧va≤hi
   ·have HE:=hide (show cellE ⟨2,[],lo,hi,va⟩=0 from by unfold cellE rightC;rw [if_pos (by simpa using hok)])
    have HGG:=hide (show cellG bs=some ⟨2,[],lo,hi,va⟩ from by rw [HG.out,if_neg (by decide),if_pos (by trivial),if_pos hok])
    rw [HE.out] at HCK
    clear hok
    go_upto_region 22 with (go_at_call 296;refine HCK.out.mono ?_;rintro e W5 ⟨rfl,hb5⟩;have HB5:=hide hb5;clear hb5)
    have kc5:=Blk.via HB5.out HKC4.out
    have kb5:=Blk.via HB5.out HKB4.out
    have y0:=kc5.cell 0
    have y1:=kc5.cell 1
    have y2:=kc5.cell 2
    have y3:=kc5.cell 3
    have y4:=kc5.cell 4
    have HKB5:=hide kb5
    have hl5:Below w.heap.size w W5:=HL4.out.trans (HB5.out.mono HL4.out.size)
    have HL5:=hide hl5
    clear kc5 kb5 hl5
    have c20:=(HKB5.out).cell 0
    have c21:=(HKB5.out).cell 1
    have c22:=(HKB5.out).cell 2
    have c23:=(HKB5.out).cell 3
    have c24:=(HKB5.out).cell 4
    have f20:=(HKB5.out).frozen 0
    have f21:=(HKB5.out).frozen 1
    have f22:=(HKB5.out).frozen 2
    have f23:=(HKB5.out).frozen 3
    have f24:=(HKB5.out).frozen 4
    have l20:=(HKB5.out).lt
    go_wp2_with fail
    refine bodyPost_ret (results_row_2 Tryz.results230 _ _ w.heap.size #[.int .i64 (⟨2,[],lo,hi,va⟩:CellD).kind,.slice none 0 0,.int .i64 (⟨2,[],lo,hi,va⟩:CellD).lo,.int .i64 (⟨2,[],lo,hi,va⟩:CellD).hi,.int .i64 (⟨2,[],lo,hi,va⟩:CellD).val] rfl (run_loadVar_row _ _ _ _ #[.int .i64 (⟨2,[],lo,hi,va⟩:CellD).kind,.slice none 0 0,.int .i64 (⟨2,[],lo,hi,va⟩:CellD).lo,.int .i64 (⟨2,[],lo,hi,va⟩:CellD).hi,.int .i64 (⟨2,[],lo,hi,va⟩:CellD).val] (0,0) _ (((((Blk.set_ HKB5.out 0 _).set_ 1 _).set_ 2 _).set_ 3 _).set_ 4 _) Tryz.underlying41 rfl info_cellK)) rfl ⟨?_,(((((Below.setCell HL5.out (p:=⟨w.heap.size,0,none⟩) (Nat.le_refl _) _).setCell (p:=⟨w.heap.size,1,none⟩) (Nat.le_refl _) _).setCell (p:=⟨w.heap.size,2,none⟩) (Nat.le_refl _) _).setCell (p:=⟨w.heap.size,3,none⟩) (Nat.le_refl _) _).setCell (p:=⟨w.heap.size,4,none⟩) (Nat.le_refl _) _)⟩
    refine .inr ⟨_,none,0,0,_,HGG.out,rfl,?_⟩
    have ho5:=own_via HO4.out HB5.out
    have hne5:∀q,(Value.slice none 0 0).ownBlock=some q→q≠w.heap.size:=fun q hq=>by have:=(World.ownsRow.lt HO4.out q hq).1;omega
    exact BytesAt.of_own (own_far (p:=⟨w.heap.size,4,none⟩) (own_far (p:=⟨w.heap.size,3,none⟩) (own_far (p:=⟨w.heap.size,2,none⟩) (own_far (p:=⟨w.heap.size,1,none⟩) (own_far (p:=⟨w.heap.size,0,none⟩) ho5 hne5 _) hne5 _) hne5 _) hne5 _) hne5 _)
   ·have HE:=hide (show cellE ⟨2,[],lo,hi,va⟩=1 from by unfold cellE rightC;rw [if_neg (by simpa using hok)])
    have HGG:=hide (show cellG bs=none from by rw [HG.out,if_neg (by decide),if_pos (by trivial),if_neg hok])
    rw [HE.out] at HCK
    clear hok
    go_upto_region 21 with (go_at_call 296;refine HCK.out.mono ?_;rintro e W5 ⟨rfl,hb5⟩;have HB5:=hide hb5;clear hb5)
    have kb5:=Blk.via HB5.out HKB4.out
    have HKB5:=hide kb5
    have hl5:Below w.heap.size w W5:=HL4.out.trans (HB5.out.mono HL4.out.size)
    have HL5:=hide hl5
    clear kb5 hl5
    have c20:=(HKB5.out).cell 0
    have c21:=(HKB5.out).cell 1
    have c22:=(HKB5.out).cell 2
    have c23:=(HKB5.out).cell 3
    have c24:=(HKB5.out).cell 4
    have f20:=(HKB5.out).frozen 0
    have f21:=(HKB5.out).frozen 1
    have f22:=(HKB5.out).frozen 2
    have f23:=(HKB5.out).frozen 3
    have f24:=(HKB5.out).frozen 4
    have l20:=(HKB5.out).lt
    go_wp2_with fail
    refine bodyPost_ret (results_row_2 Tryz.results230 _ _ w.heap.size #[.int .i64 0,.slice none 0 0,.int .i64 0,.int .i64 0,.int .i64 0] rfl (run_loadVar_row _ _ _ _ #[.int .i64 0,.slice none 0 0,.int .i64 0,.int .i64 0,.int .i64 0] (0,0) _ (((((Blk.set_ HKB5.out 0 _).set_ 1 _).set_ 2 _).set_ 3 _).set_ 4 _) Tryz.underlying41 rfl info_cellK)) rfl ⟨?_,(((((Below.setCell HL5.out (p:=⟨w.heap.size,0,none⟩) (Nat.le_refl _) _).setCell (p:=⟨w.heap.size,1,none⟩) (Nat.le_refl _) _).setCell (p:=⟨w.heap.size,2,none⟩) (Nat.le_refl _) _).setCell (p:=⟨w.heap.size,3,none⟩) (Nat.le_refl _) _).setCell (p:=⟨w.heap.size,4,none⟩) (Nat.le_refl _) _)⟩
    exact .inl ⟨HGG.out,_,_,rfl,by omega⟩
  ·have b1:(((k0:Nat):Int)==1)=false:=by rw [beq_eq_false_iff_ne];omega
   have b2:(((k0:Nat):Int)==2)=false:=by rw [beq_eq_false_iff_ne];omega
   have HRC:=hide (show rightC ⟨(k0:Nat),[],0,0,0⟩=false by
    unfold rightC
    rw [if_neg (by simp;omega)]
    simp
    omega)
   have HNN:=hide (show cellG bs=none by rw [HG.out,if_neg hk1,if_neg hk2])
   have HKC4:=HKC
   have HKB4:=HKB2
   have HL4:=HL2
   have HCK:=hide (cellCheck_any ⟨(k0:Nat),[],0,0,0⟩ none 0 0 W2 rfl)
   clear hk1 hk2
   go_upto_region 20 with (fail)
   have z0:=HKC4.out.cell 0
   have z1:=HKC4.out.cell 1
   have z2:=HKC4.out.cell 2
   have z3:=HKC4.out.cell 3
   have z4:=HKC4.out.cell 4
   have HE:=hide (show cellE ⟨(k0:Nat),[],0,0,0⟩=1 from by unfold cellE;rw [HRC.out];rfl)
   have HGG:=hide (show cellG bs=none from HNN.out)
   rw [HE.out] at HCK
   go_upto_region 21 with (go_at_call 296;refine HCK.out.mono ?_;rintro e W5 ⟨rfl,hb5⟩;have HB5:=hide hb5;clear hb5)
   have kb5:=Blk.via HB5.out HKB4.out
   have HKB5:=hide kb5
   have hl5:Below w.heap.size w W5:=HL4.out.trans (HB5.out.mono HL4.out.size)
   have HL5:=hide hl5
   clear kb5 hl5
   have c20:=(HKB5.out).cell 0
   have c21:=(HKB5.out).cell 1
   have c22:=(HKB5.out).cell 2
   have c23:=(HKB5.out).cell 3
   have c24:=(HKB5.out).cell 4
   have f20:=(HKB5.out).frozen 0
   have f21:=(HKB5.out).frozen 1
   have f22:=(HKB5.out).frozen 2
   have f23:=(HKB5.out).frozen 3
   have f24:=(HKB5.out).frozen 4
   have l20:=(HKB5.out).lt
   go_wp2_with fail
   refine bodyPost_ret (results_row_2 Tryz.results230 _ _ w.heap.size #[.int .i64 0,.slice none 0 0,.int .i64 0,.int .i64 0,.int .i64 0] rfl (run_loadVar_row _ _ _ _ #[.int .i64 0,.slice none 0 0,.int .i64 0,.int .i64 0,.int .i64 0] (0,0) _ (((((Blk.set_ HKB5.out 0 _).set_ 1 _).set_ 2 _).set_ 3 _).set_ 4 _) Tryz.underlying41 rfl info_cellK)) rfl ⟨?_,(((((Below.setCell HL5.out (p:=⟨w.heap.size,0,none⟩) (Nat.le_refl _) _).setCell (p:=⟨w.heap.size,1,none⟩) (Nat.le_refl _) _).setCell (p:=⟨w.heap.size,2,none⟩) (Nat.le_refl _) _).setCell (p:=⟨w.heap.size,3,none⟩) (Nat.le_refl _) _).setCell (p:=⟨w.heap.size,4,none⟩) (Nat.le_refl _) _)⟩
   exact .inl ⟨HGG.out,_,_,rfl,by omega⟩
end Go.Proofs.YtnkjkgmohmcobaaGreatDoor
namespace Go.Proofs.YtnkjkgmohmcobaaGreatDoor
open Go.RowKit
theorem beB_succ (k:Nat) (n:Int):beB (k+1) n=byteS n (8*k)::beB k n:=by
 unfold beB
 rw [List.range_succ_eq_map,List.map_cons,List.map_map]
 congr 1
 apply List.map_congr_left
 intro i hi
 have:=List.mem_range.1 hi
 show byteS n (8*(k+1-1-(i+1)))=byteS n (8*(k-1-i))
 congr 1
 omega
theorem byteS_val (n:Int) (k U:Nat) (hU:IntKind.u64.wrap n=(U:Nat)):byteV (byteS n (8*k))= .int .u8 ((U/256^k%256:Nat):Int):=by
 unfold byteV
 rw [byteS_int,hU]
 have h1:((2:Int)^(8*k))=((256^k:Nat):Int):=by
  rw [show (256:Nat)^k=2^(8*k) by rw [Nat.pow_mul],Int.natCast_pow]
  rfl
 rw [h1, ← Int.natCast_ediv]
 rfl
end Go.Proofs.YtnkjkgmohmcobaaGreatDoor
namespace Go.Proofs.YtnkjkgmohmcobaaGreatDoor
open Go.RowKit
noncomputable def pagesZ (n:Nat):Array Value:=madeCells (Value.agg Tryz.zeroCells116).cells (n*512)
theorem devNewN_any (n:Nat) (h1:1≤n) (h2:n≤1024) (w:World):Calls Tryz.prog 29 #[.int .i64 (n:Nat)] w fun e w'=>∃d g m,e= .returned (.pointer (some ⟨d,0,none⟩))∧Blk w' d 113 (devC (.slice (some ⟨g,0,none⟩) n n) (.map (some m)) (.slice none 0 0) 0 0 0 0 0)∧Blk w' g 116 (pagesZ n)∧MapF w' m 0 (fun _=>none)∧w.heap.size≤d∧w.heap.size≤g∧w.heap.size≤m∧Below w.heap.size w w':=by
 obtain ⟨i0,hi,hz0,hz1,hz2⟩:=info_parts info_page
 have hmk0:=fun W=>run_make_rowN (P:=Tryz.prog) 110 116 i0 (.agg Tryz.zeroCells116) Tryz.underlying110 hi hz0 .i64 .i64 n n (Nat.le_refl _) (by rw [hz2];omega) (by omega) W
 rw [hz1] at hmk0
 obtain ⟨X,hX⟩:∃X,X=pagesZ n:=⟨_,rfl⟩
 unfold pagesZ at hX ⊢
 rw [← hX] at hmk0 ⊢
 have hmk:∀W:World,(Instr.makeSlice 110 (.int .i64 (n:Nat)) (.int .i64 (n:Nat))).run Tryz.prog W= .ok (.slice (some ⟨W.heap.size,0,none⟩) n n) (W.alloc (.cells X 116)):=hmk0
 clear hX hmk0 hi hz0 hz1 hz2
 have hmm:=@run_makeMap Tryz.prog
 have a1:max (n:Int) 1=n:=by omega
 have a2:min (n:Int) 1024=n:=by omega
 go_enter Tryz.func29,Tryz.ntmps29
 go_wp2
 go_ret
 have hs:((w.alloc (.cells X 116)).alloc (.map #[] 0)).heap.size=w.heap.size+1+1:=by simp
 have kn:=Blk.new ((w.alloc (.cells X 116)).alloc (.map #[] 0)) 113 (devC (.slice (some ⟨w.heap.size,0,none⟩) n n) (.map (some (w.heap.size+1))) (.slice none 0 0) 0 0 0 0 0)
 rw [hs] at kn
 have hmf:=MapF.start (w.alloc (.cells X 116))
 have hsz1:(w.alloc (.cells X 116)).heap.size=w.heap.size+1:=by simp
 rw [hsz1] at hmf
 exact ⟨_,_,_,rfl,kn,((Blk.new w _ _).alloc _).alloc _,hmf.kept (Below.heap_alloc _ _ _ (by simp)),by omega,by omega,by omega,(below2 w _ _).alloc (by simp;omega) _⟩
end Go.Proofs.YtnkjkgmohmcobaaGreatDoor
namespace Go.Proofs.YtnkjkgmohmcobaaGreatDoor
open Go.RowKit
structure ConfD where
 b:Int
 p:Int
 f:Int
 c:Int
 l:Int
def confV (x:ConfD):Value:= .agg #[.int .i64 x.b,.int .i64 x.p,.int .i64 x.f,.int .i64 x.c,.int .i64 x.l]
def confOk (x:ConfD):Bool:=decide (1≤x.b∧x.b≤16∧x.b<x.p∧x.p≤1024∧4≤x.f∧x.f≤64∧1≤x.c∧x.c≤16∧4≤x.l∧x.l≤1024)
def confE (x:ConfD):Int:=if confOk x=true then 0 else 1
def withinB (n a b:Int):Bool:=decide (a≤n∧n≤b)
theorem metaWithin_any (n a b:Int) (w:World):Calls Tryz.prog 95 #[.int .i64 n,.int .i64 a,.int .i64 b] w fun e w'=>e= .returned (.bool (withinB n a b))∧w'=w:=by
 by_cases h1:a≤n
 ·by_cases h2:n≤b
  ·have HD:=hide (show withinB n a b=true by simp [withinB];omega)
   go_enter Tryz.func95,Tryz.ntmps95
   go_wp2
   go_ret
   exact ⟨ret_bool HD.out.symm,rfl⟩
  ·have HD:=hide (show withinB n a b=false by simp [withinB];omega)
   go_enter Tryz.func95,Tryz.ntmps95
   go_wp2
   go_ret
   exact ⟨ret_bool HD.out.symm,rfl⟩
 ·have HD:=hide (show withinB n a b=false by simp [withinB];omega)
  go_enter Tryz.func95,Tryz.ntmps95
  go_wp2
  go_ret
  exact ⟨ret_bool HD.out.symm,rfl⟩
theorem rightConf_any (x:ConfD) (w:World):Calls Tryz.prog 19 #[confV x] w fun e w'=>e= .returned (.bool (confOk x))∧Below w.heap.size w w':=by
 obtain ⟨b,p,f,c,l⟩:=x
 unfold confV
 dsimp only
 go_enter Tryz.func19,Tryz.ntmps19
 by_cases h1:b<1
 ·have HD:=hide (show confOk ⟨b,p,f,c,l⟩=false by simp [confOk];omega)
  go_wp2
  go_ret
  exact ⟨ret_bool HD.out.symm,(Below.refl _ _).alloc (Nat.le_refl _) _⟩
 by_cases h2:16<b
 ·have HD:=hide (show confOk ⟨b,p,f,c,l⟩=false by simp [confOk];omega)
  go_wp2
  go_ret
  exact ⟨ret_bool HD.out.symm,(Below.refl _ _).alloc (Nat.le_refl _) _⟩
 by_cases h3:p≤b
 ·have HD:=hide (show confOk ⟨b,p,f,c,l⟩=false by simp [confOk];omega)
  go_wp2
  go_ret
  exact ⟨ret_bool HD.out.symm,(Below.refl _ _).alloc (Nat.le_refl _) _⟩
 by_cases h4:1024<p
 ·have HD:=hide (show confOk ⟨b,p,f,c,l⟩=false by simp [confOk];omega)
  go_wp2
  go_ret
  exact ⟨ret_bool HD.out.symm,(Below.refl _ _).alloc (Nat.le_refl _) _⟩
 by_cases h5:4≤f
 rotate_left
 ·have HD:=hide (show confOk ⟨b,p,f,c,l⟩=false by simp [confOk];omega)
  go_wp2
  go_ret
  exact ⟨ret_bool HD.out.symm,(Below.refl _ _).alloc (Nat.le_refl _) _⟩
 by_cases h6:f≤64
 rotate_left
 ·have HD:=hide (show confOk ⟨b,p,f,c,l⟩=false by simp [confOk];omega)
  go_wp2
  go_ret
  exact ⟨ret_bool HD.out.symm,(Below.refl _ _).alloc (Nat.le_refl _) _⟩
 by_cases h7:1≤c
 rotate_left
 ·have HD:=hide (show confOk ⟨b,p,f,c,l⟩=false by simp [confOk];omega)
  go_wp2
  go_ret
  exact ⟨ret_bool HD.out.symm,(Below.refl _ _).alloc (Nat.le_refl _) _⟩
 by_cases h8:c≤16
 rotate_left
 ·have HD:=hide (show confOk ⟨b,p,f,c,l⟩=false by simp [confOk];omega)
  go_wp2
  go_ret
  exact ⟨ret_bool HD.out.symm,(Below.refl _ _).alloc (Nat.le_refl _) _⟩
 by_cases h9:4≤l
 rotate_left
 ·have HD:=hide (show confOk ⟨b,p,f,c,l⟩=false by simp [confOk];omega)
  go_wp2
  go_ret
  exact ⟨ret_bool HD.out.symm,(Below.refl _ _).alloc (Nat.le_refl _) _⟩
 by_cases h10:l≤1024
 rotate_left
 ·have HD:=hide (show confOk ⟨b,p,f,c,l⟩=false by simp [confOk];omega)
  go_wp2
  go_ret
  exact ⟨ret_bool HD.out.symm,(Below.refl _ _).alloc (Nat.le_refl _) _⟩
 have HD:=hide (show confOk ⟨b,p,f,c,l⟩=true by simp [confOk];omega)
 go_wp2
 go_ret
 exact ⟨ret_bool HD.out.symm,(Below.refl _ _).alloc (Nat.le_refl _) _⟩
theorem metaCheck_any (x:ConfD) (w:World):Calls Tryz.prog 51 #[confV x] w fun e w'=>e= .returned (.int .i64 (confE x))∧Below w.heap.size w w':=by
 obtain ⟨b,p,f,c,l⟩:=x
 unfold confV
 dsimp only
 have HW:=hide (fun n a b W=>metaWithin_any n a b W)
 go_enter Tryz.func51,Tryz.ntmps51
 cases h1:withinB b 1 16
 ·have HD:=hide (show confE ⟨b,p,f,c,l⟩=1 by rw [confE,if_neg];simp [confOk];simp [withinB] at*;omega)
  go_wp2_with (go_at_call 95;refine (HW.out _ _ _ _).mono ?_;rintro e w' ⟨rfl,hw'⟩;obtain rfl:=hw'.symm)
  go_ret
  exact ⟨by rw [HD.out];rfl,(Below.refl _ _).alloc (Nat.le_refl _) _⟩
 have hb:1≤b∧b≤16:=by simpa [withinB] using h1
 obtain ⟨hb1,hb2⟩:=hb
 cases h2:withinB p (b+1) 1024
 ·have HD:=hide (show confE ⟨b,p,f,c,l⟩=1 by rw [confE,if_neg];simp [confOk];simp [withinB] at*;omega)
  go_wp2_with (go_at_call 95;refine (HW.out _ _ _ _).mono ?_;rintro e w' ⟨rfl,hw'⟩;obtain rfl:=hw'.symm)
  go_ret
  exact ⟨by rw [HD.out];rfl,(Below.refl _ _).alloc (Nat.le_refl _) _⟩
 cases h3:withinB f 4 64
 ·have HD:=hide (show confE ⟨b,p,f,c,l⟩=1 by rw [confE,if_neg];simp [confOk];simp [withinB] at*;omega)
  go_wp2_with (go_at_call 95;refine (HW.out _ _ _ _).mono ?_;rintro e w' ⟨rfl,hw'⟩;obtain rfl:=hw'.symm)
  go_ret
  exact ⟨by rw [HD.out];rfl,(Below.refl _ _).alloc (Nat.le_refl _) _⟩
 cases h4:withinB c 1 16
 ·have HD:=hide (show confE ⟨b,p,f,c,l⟩=1 by rw [confE,if_neg];simp [confOk];simp [withinB] at*;omega)
  go_wp2_with (go_at_call 95;refine (HW.out _ _ _ _).mono ?_;rintro e w' ⟨rfl,hw'⟩;obtain rfl:=hw'.symm)
  go_ret
  exact ⟨by rw [HD.out];rfl,(Below.refl _ _).alloc (Nat.le_refl _) _⟩
 cases h5:withinB l 4 1024
 ·have HD:=hide (show confE ⟨b,p,f,c,l⟩=1 by rw [confE,if_neg];simp [confOk];simp [withinB] at*;omega)
  go_wp2_with (go_at_call 95;refine (HW.out _ _ _ _).mono ?_;rintro e w' ⟨rfl,hw'⟩;obtain rfl:=hw'.symm)
  go_ret
  exact ⟨by rw [HD.out];rfl,(Below.refl _ _).alloc (Nat.le_refl _) _⟩
 have HD:=hide (show confE ⟨b,p,f,c,l⟩=0 by rw [confE,if_pos];simp [confOk];simp [withinB] at*;omega)
 go_wp2_with (go_at_call 95;refine (HW.out _ _ _ _).mono ?_;rintro e w' ⟨rfl,hw'⟩;obtain rfl:=hw'.symm)
 go_ret
 exact ⟨by rw [HD.out];rfl,(Below.refl _ _).alloc (Nat.le_refl _) _⟩
theorem devPages_any (d:Nat) (A:Option Addr) (n c:Nat) (mv lv:Value) (stale head sure fuse o:Int) (w:World) (k:Blk w d 113 (devC (.slice A n c) mv lv stale head sure fuse o)):
  Calls Tryz.prog 52 #[.pointer (some ⟨d,0,none⟩)] w fun e w'=>e= .returned (.int .i64 (n:Nat))∧w'=w:=by
 have c0:w.cell? ⟨d,0,none⟩=some (.slice A n c):=k.cell 0
 have ld:=k.lt
 clear k
 go_enter Tryz.func52,Tryz.ntmps52
 go_wp2
 go_ret
 exact ⟨rfl,rfl⟩
end Go.Proofs.YtnkjkgmohmcobaaGreatDoor
namespace Go.Proofs.YtnkjkgmohmcobaaGreatDoor
open Go.RowKit
def NewP (w:World) (e:Ending) (w':World):Prop:=(∃p,e= .returned (.pointer (some ⟨p,0,none⟩))∧w.heap.size≤p)∧Below w.heap.size w w'
theorem locksNew_any (w:World):Calls Tryz.prog 64 #[] w (NewP w):=by
 have hmm:=@run_makeMap Tryz.prog
 have hb0:Below w.heap.size w w:=Below.refl _ _
 have hb1:=hb0.alloc hb0.size (.map #[] 0)
 have hb2:=hb1.alloc hb1.size (.map #[] 0)
 have hb3:=hb2.alloc hb2.size (.map #[] 0)
 have hb4:=hb3.alloc hb3.size (.map #[] 0)
 go_enter Tryz.func64,Tryz.ntmps64
 go_wp2
 go_ret
 exact ⟨⟨_,rfl,by first|exact hb4.size|(have:=hb4.size;simp at*;omega)⟩,hb4.alloc hb4.size _⟩
theorem latchNew_any (w:World):Calls Tryz.prog 65 #[] w (NewP w):=by
 have hmm:=@run_makeMap Tryz.prog
 have hb0:Below w.heap.size w w:=Below.refl _ _
 have hb1:=hb0.alloc hb0.size (.map #[] 0)
 have hb2:=hb1.alloc hb1.size (.map #[] 0)
 go_enter Tryz.func65,Tryz.ntmps65
 go_wp2
 go_ret
 exact ⟨⟨_,rfl,by first|exact hb2.size|(have:=hb2.size;simp at*;omega)⟩,hb2.alloc hb2.size _⟩
theorem escrowNew_any (w:World):Calls Tryz.prog 66 #[] w (NewP w):=by
 have hmm:=@run_makeMap Tryz.prog
 have hb0:Below w.heap.size w w:=Below.refl _ _
 have hb1:=hb0.alloc hb0.size (.map #[] 0)
 have hb2:=hb1.alloc hb1.size (.map #[] 0)
 go_enter Tryz.func66,Tryz.ntmps66
 go_wp2
 go_ret
 exact ⟨⟨_,rfl,by first|exact hb2.size|(have:=hb2.size;simp at*;omega)⟩,hb2.alloc hb2.size _⟩
structure TxF (N:Nat) (n:Int) (t mt:Nat) (W:World):Prop where
 k:Blk W t 142 #[.int .i64 n,.map (some mt)]
 m:MapF W mt 0 (fun _=>none)
 tN:N≤t
 mN:N≤mt
theorem TxF.keep {N:Nat} {n:Int} {t mt:Nat} {W W':World} (h:TxF N n t mt W) (h1:W'.heap[t]?=W.heap[t]?) (h2:W'.heap[mt]?=W.heap[mt]?):TxF N n t mt W':=⟨h1.trans h.k,h.m.kept h2,h.tN,h.mN⟩
theorem TxF.via {N:Nat} {n:Int} {t mt:Nat} {W W':World} (hb:Below W.heap.size W W') (h:TxF N n t mt W):TxF N n t mt W':=h.keep (hb.block _ h.k.lt) (hb.block _ h.m.lt)
theorem TxF.alloc {N:Nat} {n:Int} {t mt:Nat} {W:World} (h:TxF N n t mt W) (o:Obj):TxF N n t mt (W.alloc o):=h.via ((Below.refl _ _).alloc (Nat.le_refl _) o)
theorem TxF.more {N M:Nat} {n:Int} {t mt:Nat} {W:World} (h:TxF N n t mt W) (hM:M≤N):TxF M n t mt W:=⟨h.k,h.m,Nat.le_trans hM h.tN,Nat.le_trans hM h.mN⟩
theorem txnsNew_any (n:Int) (h1:1≤n) (h2:n≤281474976710656) (w:World):Calls Tryz.prog 67 #[.int .i64 n] w fun e w'=>∃p m,e= .returned (.pointer (some ⟨p,0,none⟩))∧TxF w.heap.size n p m w'∧Below w.heap.size w w':=by
 have hmm:=@run_makeMap Tryz.prog
 have a1:max n 1=n:=by omega
 have a2:min n 281474976710656=n:=by omega
 have hb0:Below w.heap.size w w:=Below.refl _ _
 have hb1:=hb0.alloc hb0.size (.map #[] 0)
 go_enter Tryz.func67,Tryz.ntmps67
 go_wp2
 go_ret
 have hs:(w.alloc (.map #[] 0)).heap.size=w.heap.size+1:=by simp
 have kn:=Blk.new (w.alloc (.map #[] 0)) 142 #[.int .i64 n,.map (some w.heap.size)]
 rw [hs] at kn
 exact ⟨_,_,rfl,⟨kn,(MapF.start w).kept (((Below.refl _ _).alloc (Nat.le_refl _) _).block _ (MapF.start w).lt),by omega,Nat.le_refl _⟩,hb1.alloc hb1.size _⟩
end Go.Proofs.YtnkjkgmohmcobaaGreatDoor
namespace Go.Proofs.YtnkjkgmohmcobaaGreatDoor
open Go.RowKit Go.Maps
theorem keep_any (t mt k:Nat) (n id a b c:Int) (fm:Int→Option Value) (w:World) (kt:Blk w t 142 #[.int .i64 n,.map (some mt)]) (hm:MapF w mt k fm) (hk:k≤1000000) (hp:(Lit.int .i64 id).wf=true):
  Calls Tryz.prog 68 #[.pointer (some ⟨t,0,none⟩),.agg #[.int .i64 id,.int .i64 a,.int .i64 b,.int .i64 c]] w fun e w'=>(∃v,e= .returned v)∧MapF w' mt (k+1) (fun q=>if q=id then some (.agg #[.int .i64 id,.int .i64 a,.int .i64 b,.int .i64 c]) else fm q)∧Turn (fun q=>q=mt) w w':=by
 have HP:=hide hp
 have HKT:=hide kt
 have HM:=hide hm
 clear kt hm hp
 go_enter Tryz.func68,Tryz.ntmps68
 go_upto_region 1 with (fail)
 refine gen1 (R:=fun W=>Code.wp _ _ _ _ W) (fun W1 kb hb1 hz1=>?_)
 have KB:=hide kb
 have HB1:=hide hb1
 have KT1:=hide (Blk.via hb1 HKT.out)
 have HM1:=hide (World.ownsMap.kept' HM.out hb1)
 have t1:W1.cell? ⟨t,1,none⟩=some (.map (some mt)):=KT1.out.cell 1
 have tl:=KT1.out.lt
 have hmn:∀W:World,(binOp BinOp.eql 140 (Value.map (some mt)) (Value.map none)).run Tryz.prog W= .ok (.bool false) W:=fun W=>run_eql_map_nil W 140 3 145 mt Tryz.underlying140
 clear kb hb1
 go_upto_region 3 with (fail)
 clear t1 tl hmn
 refine wp_region_inv_tail 7 [fun v _=>v= .pointer (some ⟨t,0,none⟩),fun v _=>v= .pointer (some ⟨t,0,none⟩),fun v _=>v= .pointer (some ⟨t,1,none⟩),fun v _=>v= .map (some mt),fun v _=>v= .pointer (some ⟨w.heap.size,0,none⟩),fun v _=>v= .int .i64 id,fun v _=>v= .agg #[.int .i64 id,.int .i64 a,.int .i64 b,.int .i64 c]] (by kernel_rfl) (by kernel_rfl) (by kernel_rfl) (by kernel_rfl) (by kernel_rfl) (by first|simp|decide) (by kernel_rfl) ?st ?steps ?fin
 case st=>
  intro i v W W' hWW h
  match i with
  |0|1|2|3|4|5|6=>exact h
  |(i+7)=>exact h
 case steps=>
  simp only [stepsT,List.take_succ_cons,List.take_zero]
  refine ⟨?_,?_,?_,?_,?_,?_,?_,trivial⟩
  ·intro f W hbW hdp
   simp only [fS,Nat.reduceAdd]
   go_wp2
   exact ⟨rfl,_,rfl,rfl,Below.refl _ _⟩
  ·intro f W hbW hdp
   have e0:f 0= .pointer (some ⟨t,0,none⟩):=hdp ⟨0,.data⟩ (mfl (by simp) rfl)
   simp only [fS,Nat.reduceAdd,e0]
   go_wp2
   exact ⟨rfl,_,rfl,rfl,Below.refl _ _⟩
  ·intro f W hbW hdp
   have e1:f 1= .pointer (some ⟨t,0,none⟩):=hdp ⟨1,.data⟩ (mfl (by simp) rfl)
   simp only [fS,Nat.reduceAdd,e1]
   go_wp2
   exact ⟨rfl,_,rfl,rfl,Below.refl _ _⟩
  ·intro f W hbW hdp
   have e2:f 2= .pointer (some ⟨t,1,none⟩):=hdp ⟨2,.data⟩ (mfl (by simp) rfl)
   have z1:W.cell? ⟨t,1,none⟩=some (.map (some mt)):=(Blk.via hbW KT1.out).cell 1
   simp only [fS,Nat.reduceAdd,e2]
   go_wp2
   exact ⟨rfl,_,rfl,rfl,Below.refl _ _⟩
  ·intro f W hbW hdp
   simp only [fS,Nat.reduceAdd]
   go_wp2
   exact ⟨rfl,_,rfl,rfl,Below.refl _ _⟩
  ·intro f W hbW hdp
   have e4:f 4= .pointer (some ⟨w.heap.size,0,none⟩):=hdp ⟨4,.data⟩ (mfl (by simp) rfl)
   have q0:W.cell? ⟨w.heap.size,0,none⟩=some _:=(Blk.via hbW KB.out).cell 0
   simp only [fS,Nat.reduceAdd,e4]
   go_wp2
   exact ⟨rfl,_,rfl,rfl,Below.refl _ _⟩
  ·intro f W hbW hdp
   have kk:=Blk.via hbW KB.out
   have q0:W.cell? ⟨w.heap.size,0,none⟩=some _:=kk.cell 0
   have q1:W.cell? ⟨w.heap.size,1,none⟩=some _:=kk.cell 1
   have q2:W.cell? ⟨w.heap.size,2,none⟩=some _:=kk.cell 2
   have q3:W.cell? ⟨w.heap.size,3,none⟩=some _:=kk.cell 3
   simp only [fS,Nat.reduceAdd]
   go_wp2
   exact ⟨rfl,_,rfl,rfl,Below.refl _ _⟩
 case fin=>
  intro f W hbW hA
  have e3:f 3= .map (some mt):=hA 3 (by omega)
  have e5:f 5= .int .i64 id:=hA 5 (by omega)
  have e6:f 6= .agg #[.int .i64 id,.int .i64 a,.int .i64 b,.int .i64 c]:=hA 6 (by omega)
  simp only [List.drop_succ_cons,List.drop_zero,List.take_succ_cons,List.take_zero,fillF,Act.put,List.setIfInBounds_toArray,List.set_cons_succ,List.set_cons_zero,Nat.reduceAdd,e3,e5,e6]
  clear hA e3 e5 e6
  have hm2:=World.ownsMap.kept' HM1.out hbW
  obtain ⟨D,hown,hD⟩:=hm2
  refine wpList_mapUpdate_own _ rfl _ _ _ 140 rfl 3 145 keyInt Tryz.underlying140 heldV mt k D rfl hown (by unfold maxLen;omega) _ _ _ rfl rfl (key_of HP.out) _ [] rfl ?_
  intro W3 hown3 hg3
  have HM3:=hide (show MapF W3 mt (k+1) (fun q=>if q=id then some (.agg #[.int .i64 id,.int .i64 a,.int .i64 b,.int .i64 c]) else fm q) from MapF.put hD hown.isMap hown3)
  have HT3:=hide (show Turn (fun q=>q=mt) w W3 from ((Turn.of_below HB1.out).trans (Turn.of_below hbW)).trans (Turn.of_grown hg3 (fun q hq=>by injection hq)))
  clear hD hown hown3 hg3 hbW
  go_wp2
  go_end0
  exact ⟨⟨_,rfl⟩,HM3.out,HT3.out⟩
theorem begin_any (t mt k:Nat) (n:Int) (f:Int→Option Value) (w:World) (h1:1≤n) (h2:n≤1000000) (kt:Blk w t 142 #[.int .i64 n,.map (some mt)]) (hm:MapF w mt k f) (hk:k≤1000000):
  Calls Tryz.prog 32 #[.pointer (some ⟨t,0,none⟩)] w fun e w'=>e= .returned (.int .i64 n)∧Blk w' t 142 #[.int .i64 (n+1),.map (some mt)]∧MapF w' mt (k+1) (fun q=>if q=n then some (.agg #[.int .i64 n,.int .i64 0,.int .i64 0,.int .i64 0]) else f q)∧Turn (fun q=>q=t∨q=mt) w w':=by
 have hne:=hm.ne kt
 have KT2:Blk (w.setCell ⟨t,0,none⟩ (.int .i64 (n+1))) t 142 #[.int .i64 (n+1),.map (some mt)]:=kt.set_ 0 (.int .i64 (n+1))
 have HM2:MapF (w.setCell ⟨t,0,none⟩ (.int .i64 (n+1))) mt k f:=hm.kept (Below.heap_setCell w ⟨t,0,none⟩ _ mt (fun e=>hne e.symm))
 have HK:=hide (keep_any t mt k (n+1) n 0 0 0 f _ KT2 HM2 hk (by simp only [Lit.wf,Bool.and_eq_true,decide_eq_true_eq];exact ⟨show (-9223372036854775808:Int)≤n by omega,show n≤(9223372036854775807:Int) by omega⟩))
 have HKT:=hide KT2
 have HNE:=hide hne
 have t0:=kt.cell 0
 have f0:=kt.frozen 0
 have tl:=kt.lt
 have a1:IntKind.i64.wrap (n+1)=n+1:=IntWalk.i64_in (n+1) ⟨by omega,by omega⟩
 clear KT2 HM2 hm kt hne
 go_enter Tryz.func32,Tryz.ntmps32
 go_wp2_with fail
 refine HK.out.mono ?_
 rintro e W3 ⟨⟨v,rfl⟩,hm3,ht3⟩
 have HM3:=hide hm3
 have HT3:=hide ht3
 clear hm3 ht3
 go_wp2
 go_ret
 refine ⟨rfl,(HT3.out.block t HKT.out.lt (fun e=>HNE.out e)).trans HKT.out,HM3.out,?_⟩
 exact (Turn.set (S:=fun q=>q=t∨q=mt) (Turn.of_below (Below.refl _ _)) (.inl (.inl rfl)) _).trans (HT3.out.mono (fun q _ e=> .inr e))
end Go.Proofs.YtnkjkgmohmcobaaGreatDoor
namespace Go.Proofs.YtnkjkgmohmcobaaGreatDoor
open Go.RowKit Go.Maps
def calS (no st txn:Int) (x:OpD) (dv:Value):List Value:=[.int .i64 no,.int .i64 st,.int .i64 txn,.int .i64 x.act,.string x.key,dv,.int .i64 x.lo,.int .i64 x.hi,.int .i64 x.n,.pointer none,.pointer none,.int .i64 0,.int .i64 0,.bool false,.int .i64 0,.int .i64 0,.slice none 0 0,.int .i64 0,.int .i64 0,.int .i64 0]
def calT (no txn er:Int):List Value:=[.int .i64 no,.int .i64 0,.int .i64 txn,.int .i64 0,.string .empty,.slice none 0 0,.int .i64 0,.int .i64 0,.int .i64 0,.pointer none,.pointer none,.int .i64 0,.int .i64 0,.bool true,.int .i64 er,.int .i64 0,.slice none 0 0,.int .i64 0,.int .i64 0,.int .i64 0]
theorem calTurn (g:Nat):∀(vs:List Value) (o:Nat) (w:World),Turn (fun q=>q=g) w (w.setCells g o vs)
 |[],_,_=>Turn.of_below (Below.refl _ _)
 |v::r,o,_=>(Turn.set (S:=fun q=>q=g) (Turn.of_below (Below.refl _ _)) (p:=⟨g,o,none⟩) (.inl rfl) v).trans (calTurn g r (o+1) _)
theorem calPutL (g:Nat):∀(vs:List Value) (o:Nat) (w:World),w.setCells g o vs=putL w g o vs
 |[],_,_=>rfl
 |_::r,o,_=>calPutL g r (o+1) _
theorem CalQ.putAll {W:World} {g q:Nat} {cs vs:List Value} (h:CalQ W g q cs) (hv:vs.length=20):CalQ (W.setCells g q vs) g q vs:=by
 rw [calPutL]
 exact h.put hv
theorem CalQ.there {W:World} {g q:Nat} {cs:List Value} (h:CalQ W g q cs):W.there g q 20:=by
 obtain ⟨cur,k,h1,h2,h3⟩:=h
 intro j hj
 refine ⟨?_,k.frozen _⟩
 rw [k.cell,Array.getElem?_eq_getElem (by omega)]
 rfl
theorem tell_any (g q:Nat) (no st txn er:Int) (x:OpD) (dv:Value) (w:World) (hc:CalQ w g q (calS no st txn x dv)):
  Calls Tryz.prog 69 #[.pointer (some ⟨g,q,none⟩),ansVv er 0 0 0 0 (.slice none 0 0)] w fun e w'=>(∃v,e= .returned v)∧CalQ w' g q (calT no txn er)∧Turn (fun q=>q=g) w w':=by
 have HC:=hide hc
 unfold ansVv
 clear hc
 go_enter Tryz.func69,Tryz.ntmps69
 go_upto_region 1 with (fail)
 refine gen1 (R:=fun W=>Code.wp _ _ _ _ W) (fun W1 kb hb1 hz1=>?_)
 have KB:=hide kb
 have HB1:=hide hb1
 have HC1:=hide (CalQ.via hb1 HC.out)
 clear kb hb1
 refine wp_region_inv_tail 12 [fun v _=>v= .pointer (some ⟨g,q,none⟩),fun v _=>v= .pointer (some ⟨g,q,none⟩),fun v _=>v= .pointer (some ⟨g,q,none⟩),fun v _=>v= .pointer (some ⟨g,q,none⟩),fun v _=>v= .int .i64 no,fun v _=>v= .pointer (some ⟨g,q,none⟩),fun v _=>v= .pointer (some ⟨g,q,none⟩),fun v _=>v= .pointer (some ⟨g,q+2,none⟩),fun v _=>v= .int .i64 txn,fun v _=>v= .agg #[.int .i64 er,.int .i64 0,.slice none 0 0,.int .i64 0,.int .i64 0,.int .i64 0],fun v _=>v= .agg #[.int .i64 no,.int .i64 0,.int .i64 txn,.int .i64 0,.string .empty,.slice none 0 0,.int .i64 0,.int .i64 0,.int .i64 0,.pointer none,.pointer none,.int .i64 0,.int .i64 0,.bool true,.int .i64 er,.int .i64 0,.slice none 0 0,.int .i64 0,.int .i64 0,.int .i64 0],fun v _=>v= .pointer (some ⟨g,q,none⟩)] (by kernel_rfl) (by kernel_rfl) (by kernel_rfl) (by kernel_rfl) (by kernel_rfl) (by first|simp|decide) (by kernel_rfl) ?st ?steps ?fin
 case st=>
  intro i v W W' hWW h
  match i with
  |0|1|2|3|4|5|6|7|8|9|10|11=>exact h
  |(i+12)=>exact h
 case steps=>
  simp only [stepsT,List.take_succ_cons,List.take_zero]
  refine ⟨?_,?_,?_,?_,?_,?_,?_,?_,?_,?_,?_,?_,trivial⟩
  ·intro f W hbW hdp
   simp only [fS,Nat.reduceAdd]
   go_wp2
   exact ⟨rfl,_,rfl,rfl,Below.refl _ _⟩
  ·intro f W hbW hdp
   simp only [fS,Nat.reduceAdd]
   go_wp2
   exact ⟨rfl,_,rfl,rfl,Below.refl _ _⟩
  ·intro f W hbW hdp
   have e1:f 1= .pointer (some ⟨g,q,none⟩):=hdp ⟨1,.data⟩ (mfl (by simp) rfl)
   simp only [fS,Nat.reduceAdd,e1]
   go_wp2
   exact ⟨rfl,_,rfl,rfl,Below.refl _ _⟩
  ·intro f W hbW hdp
   have e2:f 2= .pointer (some ⟨g,q,none⟩):=hdp ⟨2,.data⟩ (mfl (by simp) rfl)
   simp only [fS,Nat.reduceAdd,e2]
   go_wp2
   exact ⟨rfl,_,rfl,rfl,Below.refl _ _⟩
  ·intro f W hbW hdp
   have e3:f 3= .pointer (some ⟨g,q,none⟩):=hdp ⟨3,.data⟩ (mfl (by simp) rfl)
   have z0:W.cell? ⟨g,q,none⟩=some (.int .i64 no):=(CalQ.via hbW HC1.out).cell 0 rfl
   simp only [fS,Nat.reduceAdd,e3]
   go_wp2
   exact ⟨rfl,_,rfl,rfl,Below.refl _ _⟩
  ·intro f W hbW hdp
   simp only [fS,Nat.reduceAdd]
   go_wp2
   exact ⟨rfl,_,rfl,rfl,Below.refl _ _⟩
  ·intro f W hbW hdp
   have e5:f 5= .pointer (some ⟨g,q,none⟩):=hdp ⟨5,.data⟩ (mfl (by simp) rfl)
   simp only [fS,Nat.reduceAdd,e5]
   go_wp2
   exact ⟨rfl,_,rfl,rfl,Below.refl _ _⟩
  ·intro f W hbW hdp
   have e6:f 6= .pointer (some ⟨g,q,none⟩):=hdp ⟨6,.data⟩ (mfl (by simp) rfl)
   simp only [fS,Nat.reduceAdd,e6]
   go_wp2
   exact ⟨rfl,_,rfl,rfl,Below.refl _ _⟩
  ·intro f W hbW hdp
   have e7:f 7= .pointer (some ⟨g,q+2,none⟩):=hdp ⟨7,.data⟩ (mfl (by simp) rfl)
   have z2:=(CalQ.via hbW HC1.out).cell 2 rfl
   simp only [fS,Nat.reduceAdd,e7]
   go_wp2
   exact ⟨rfl,_,rfl,rfl,Below.refl _ _⟩
  ·intro f W hbW hdp
   have kk:=Blk.via hbW KB.out
   have q0:W.cell? ⟨w.heap.size,0,none⟩=some _:=kk.cell 0
   have q1:W.cell? ⟨w.heap.size,1,none⟩=some _:=kk.cell 1
   have q2:W.cell? ⟨w.heap.size,2,none⟩=some _:=kk.cell 2
   have q3:W.cell? ⟨w.heap.size,3,none⟩=some _:=kk.cell 3
   have q4:W.cell? ⟨w.heap.size,4,none⟩=some _:=kk.cell 4
   have q5:W.cell? ⟨w.heap.size,5,none⟩=some _:=kk.cell 5
   simp only [fS,Nat.reduceAdd]
   go_wp2
   exact ⟨rfl,_,rfl,rfl,Below.refl _ _⟩
  ·intro f W hbW hdp
   have e4:f 4= .int .i64 no:=hdp ⟨4,.data⟩ (mfl (by simp) rfl)
   have e8:f 8= .int .i64 txn:=hdp ⟨8,.data⟩ (mfl (by simp) rfl)
   have e9:f 9= .agg #[.int .i64 er,.int .i64 0,.slice none 0 0,.int .i64 0,.int .i64 0,.int .i64 0]:=hdp ⟨9,.data⟩ (mfl (by simp) rfl)
   simp only [fS,Nat.reduceAdd,e4,e8,e9]
   go_wp2
   exact ⟨rfl,_,rfl,rfl,Below.refl _ _⟩
  ·intro f W hbW hdp
   have e0:f 0= .pointer (some ⟨g,q,none⟩):=hdp ⟨0,.data⟩ (mfl (by simp) rfl)
   simp only [fS,Nat.reduceAdd,e0]
   go_wp2
   exact ⟨rfl,_,rfl,rfl,Below.refl _ _⟩
 case fin=>
  intro f W hbW hA
  have e10:f 10= .agg #[.int .i64 no,.int .i64 0,.int .i64 txn,.int .i64 0,.string .empty,.slice none 0 0,.int .i64 0,.int .i64 0,.int .i64 0,.pointer none,.pointer none,.int .i64 0,.int .i64 0,.bool true,.int .i64 er,.int .i64 0,.slice none 0 0,.int .i64 0,.int .i64 0,.int .i64 0]:=hA 10 (by omega)
  have e11:f 11= .pointer (some ⟨g,q,none⟩):=hA 11 (by omega)
  simp only [List.drop_succ_cons,List.drop_zero,List.take_succ_cons,List.take_zero,fillF,Act.put,List.setIfInBounds_toArray,List.set_cons_succ,List.set_cons_zero,Nat.reduceAdd,e10,e11]
  clear hA e10 e11
  have hc2:=CalQ.via hbW HC1.out
  have HC2:=hide hc2
  have HB2:=hide (HB1.out.trans (hbW.mono HB1.out.size))
  have hth:W.there g q 20:=hc2.there
  clear hc2 hbW
  refine wpList_store_mid rfl 64 (.tmp 15) (.tmp 14) rfl g q (calT no txn er).toArray rfl rfl hth (by kernel_rfl) (by simp [calT,Value.oneCell']) ?_
  have HC3:=hide (show CalQ (W.setCells g q (calT no txn er)) g q (calT no txn er) from HC2.out.putAll rfl)
  have HT3:=hide (show Turn (fun q=>q=g) w (W.setCells g q (calT no txn er)) from (Turn.of_below HB2.out).trans (calTurn g _ q W))
  go_wp2
  go_end0
  exact ⟨⟨_,rfl⟩,HC3.out,HT3.out⟩
end Go.Proofs.YtnkjkgmohmcobaaGreatDoor
namespace Go.Proofs.YtnkjkgmohmcobaaGreatDoor
open Go.RowKit
def confB (bs:List UInt8):ConfD:=⟨numI (cutB bs 17 1),numI (cutB bs 18 2),numI (cutB bs 20 1),numI (cutB bs 21 1),numI (cutB bs 22 2)⟩
def metaG (bs:List UInt8):Option (ConfD × Int):=
 if numI (cutB bs 12 2)=0∧(bs.getD 16 0).toNat=0∧confOk (confB bs)=true∧(confB bs).b<numI (cutB bs 14 2)∧numI (cutB bs 14 2)≤(confB bs).p then some (confB bs,numI (cutB bs 14 2)) else none
theorem info_confK:(Tryz.prog.info? 23).map (·.size)=some 5:=by kernel_rfl
end Go.Proofs.YtnkjkgmohmcobaaGreatDoor
namespace Go.Proofs.YtnkjkgmohmcobaaGreatDoor
open Go.RowKit
structure ItemD where
 st:Int
 key:ByteArray
 cell:CellD
def item0:ItemD:=⟨0,⟨#[]⟩,⟨0,[],0,0,0⟩⟩
def slotS (bs:List UInt8):Nat:=(bs.getD 0 0).toNat
def slotN (bs:List UInt8):Nat:=(bs.getD 1 0).toNat
def slotK (bs:List UInt8):ByteArray:=⟨(cutB bs 2 (slotN bs)).toArray⟩
def slotOk (bs:List UInt8) (d:CellD):Prop:=rightI (slotS bs) (slotK bs) d=true∧pad64 (itemB (slotS bs) (slotK bs) d)=bs
instance (bs:List UInt8) (d:CellD):Decidable (slotOk bs d):=inferInstanceAs (Decidable (_∧_))
def slotD (bs:List UInt8):Option CellD→Option ItemD
 |none=>none
 |some d=>if slotOk bs d then some ⟨slotS bs,slotK bs,d⟩ else none
def slotG (bs:List UInt8):Option ItemD:=
 if bs=List.replicate 64 0 then some item0 else if 16<slotN bs then none else slotD bs (cellG (bs.drop (2+slotN bs)))
def slotB (bs:List UInt8) (i:Nat):List UInt8:=cutB bs (32+64*i) 64
theorem slotB_length {bs:List UInt8} (hl:bs.length=512) {i:Nat} (hi:i<7):(slotB bs i).length=64:=by
 unfold slotB cutB
 rw [List.length_take,List.length_drop]
 omega
def slotsOk (bs:List UInt8):Nat→Bool
 |0=>true
 |i+1=>slotsOk bs i&&(slotG (slotB bs i)).isSome
theorem slotsOk_iff {bs:List UInt8} (n:Nat):slotsOk bs n=true↔ ∀i,i<n→(slotG (slotB bs i)).isSome=true:=by
 induction n with
 |zero=>simp [slotsOk]
 |succ n ih=>
  simp only [slotsOk,Bool.and_eq_true,ih]
  constructor
  ·rintro ⟨h1,h2⟩ i hi
   rcases Nat.lt_or_ge i n with h|h
   ·exact h1 i h
   ·obtain rfl:i=n:=by omega
    exact h2
  ·intro h
   exact ⟨fun i hi=>h i (by omega),h n (by omega)⟩
theorem slotsOk_no {bs:List UInt8} {i n:Nat} (hi:i<n) (h:slotG (slotB bs i)=none):slotsOk bs n=false:=by
 cases hs:slotsOk bs n with
 |false=>rfl
 |true=>have:=(slotsOk_iff n).1 hs i hi;rw [h] at this;cases this
def rightP (bs:List UInt8) (no:Int):Bool:=
 (numI (cutB bs 0 4)==((moreD 0 (bs.drop 4):Nat):Int))&&((numI (cutB bs 12 2)==no)&&((cutB bs 24 8==List.replicate 8 0)&&((bs.drop 480==List.replicate 32 0)&&slotsOk bs 7)))
end Go.Proofs.YtnkjkgmohmcobaaGreatDoor
namespace Go.Proofs.YtnkjkgmohmcobaaGreatDoor
open Go.RowKit
theorem bytes_at {bs:List UInt8} {i:Nat} (h:i<bs.length):((bs.map byteV).toArray)[i]?=some (.int .u8 (((bs.getD i 0).toNat:Nat):Int)):=by
 rw [List.getElem?_toArray,List.getElem?_map,List.getElem?_eq_getElem h,List.getD_eq_getElem?_getD,List.getElem?_eq_getElem h]
 rfl
theorem run_eqItemsB {P:Program} (w:World) (d:Nat) (e:TypeId) (he:P.underlying e=some (.int .u8)) (xs bs:List UInt8) (hl:xs.length=bs.length):∀is:List Nat,(∀i∈is,i<xs.length)→
  (Op.eqItems (d+1) e 1 (xs.map byteV).toArray (bs.map byteV).toArray is).run P w= .ok (is.all fun i=>xs.getD i 0==bs.getD i 0) w
 |[],_=>by simp [Op.eqItems]
 |i::is,h=>by
  have hi:i<xs.length:=h i List.mem_cons_self
  have hp:P.plainKey e=true:=by simp [Program.plainKey,he]
  have ih:=run_eqItemsB w d e he xs bs hl is (fun j hj=>h j (List.mem_cons_of_mem _ hj))
  have hx:(((xs.getD i 0).toNat:Int)==((bs.getD i 0).toNat:Int))=(xs.getD i 0==bs.getD i 0):=by
   rw [Bool.eq_iff_iff,beq_iff_eq,beq_iff_eq]
   constructor
   ·intro h
    exact UInt8.toNat_inj.1 (by omega)
   ·intro h
    rw [h]
  unfold Op.eqItems
  rw [Nat.mul_one]
  simp only [Sem.run_bind,run_part_plain w hp (bytes_at hi),run_part_plain w hp (bytes_at (hl▸hi)),Result.andThen_ok,run_equalIn_int w d e .u8 .u8 _ _ he,List.all_cons,hx]
  cases hb:(xs.getD i 0==bs.getD i 0)
  ·simp
  ·simpa using ih
theorem all_getD {xs bs:List UInt8} {n:Nat} (ha:xs.length=n) (hb:bs.length=n):((List.range n).all fun i=>xs.getD i 0==bs.getD i 0)=(xs==bs):=by
 rw [Bool.eq_iff_iff,List.all_eq_true,beq_iff_eq]
 constructor
 ·intro h
  refine List.ext_getElem (by omega) (fun i h1 h2=>?_)
  have:=h i (List.mem_range.2 (by omega))
  rw [beq_iff_eq,List.getD_eq_getElem?_getD,List.getD_eq_getElem?_getD,List.getElem?_eq_getElem h1,List.getElem?_eq_getElem h2] at this
  exact this
 ·rintro rfl i _
  simp
theorem info_u8X:(Tryz.prog.info? 5).map (·.size)=some 1:=by kernel_rfl
theorem run_eqB (t:TypeId) (n d:Nat) (ht:Tryz.prog.underlying t=some (.array n 5)) (xs bs:List UInt8) (ha:xs.length=n) (hb:bs.length=n) (w:World):
  (Op.equalIn (d+2) t (.agg (xs.map byteV).toArray) (.agg (bs.map byteV).toArray)).run Tryz.prog w= .ok (xs==bs) w:=by
 obtain ⟨i,hi,hs⟩:=Option.map_eq_some_iff.1 info_u8X
 rw [run_equalIn_array w (d+1) _ _ ht hi]
 have hc:Tryz.prog.cellsOf 5=1:=by rw [Program.cellsOf,hi];exact hs
 rw [hc,run_eqItemsB w d 5 Tryz.underlying5 xs bs (by omega) _ (fun i hi=>by have:=List.mem_range.1 hi;omega),all_getD ha hb]
theorem itemB_le (st:Int) (k:ByteArray) (d:CellD):(itemB st k d).length≤64:=by
 unfold itemB
 split
 ·rename_i hh
  have h2:=hh.2
  unfold rightI at h2
  rw [if_neg hh.1] at h2
  simp only [Bool.and_eq_true] at h2
  have h3:=h2.2.1
  unfold goodKey at h3
  simp only [Bool.and_eq_true,decide_eq_true_eq] at h3
  have h4:=cellB_le34 h2.2.2
  have h5:k.data.toList.length=k.size:=by rw [Array.length_toList];rfl
  simp only [List.length_append,List.length_cons,List.length_nil]
  omega
 ·simp
theorem wpList_load_rowG {P:Program} {ops:Array Oper} {rest:List Oper} {o:Oper} {a:Act} {w:World} {Q:Exit→Act→World→Prop} (hw:Region.wanted o (yielded ops a.tmps)=true) (ty:TypeId) (x:Operand) (ho:o.op= .load ty x)
  (g:Nat) (hx:a.eval x= .pointer (some ⟨g,0,none⟩)) (t:TypeId) (cs:Array Value) (fr:Nat × Nat) (d:TypeDesc) (hg:w.heap[g]?=some (.cells cs t fr)) (hu:P.underlying ty=some d) (hd:(match d with| .struct _| .array _ _=>true|_=>false)=true) (hi:(P.info? ty).map (·.size)=some cs.size)
  (h:wpList P ops Q rest (a.put o.dst (.agg cs)) w):wpList P ops Q (o::rest) a w:=by
 unfold wpList
 rw [if_pos hw]
 exact .inl (wp_load_row ty x ho g hx t cs fr d hg hu hd hi h)
def isU8:Value→Bool
 | .int .u8 _=>true
 |_=>false
theorem not_u8 {cs:Array Value} (h:cs.toList.all (fun v=> !isU8 v)=true) (i:Nat) (x:UInt8):cs[i]?≠some (byteV x):=by
 intro hi
 rw [List.all_eq_true] at h
 have:=h _ (Array.mem_toList_iff.2 (Array.mem_of_getElem? hi))
 simp [isU8,byteV] at this
theorem BytesAt.setOther {w:World} {B:Nat} {v:Value} {bs:List UInt8} (h:BytesAt w B v bs) {g:Nat} {t:TypeId} {cs:Array Value} (k:Blk w g t cs) (hc:cs.toList.all (fun v=> !isU8 v)=true) (i:Nat) (u:Value):BytesAt (w.setCell ⟨g,i,none⟩ u) B v bs:=by
 obtain ⟨A,n,c,rfl,h2,h3,h4,h5,h6,h7⟩:=h
 refine ⟨A,n,c,rfl,h2,h3,h4,h5,h6,fun hn=>?_⟩
 obtain ⟨ad,rfl,hb,hcell⟩:=h7 hn
 refine ⟨ad,rfl,hb,fun j u' hu=>?_⟩
 have h1:=hcell j u' hu
 rw [List.getElem?_map] at hu
 obtain ⟨x,hx,rfl⟩:=Option.map_eq_some_iff.1 hu
 refine (World.cell?_setCell_other w _ _ _ ?_).trans h1
 intro e
 rw [← e,k.cell] at h1
 exact not_u8 hc i x h1
end Go.Proofs.YtnkjkgmohmcobaaGreatDoor
