/-
  Texts of this claim, joined: RC, RD, RE, MA, PA, PN, RF, RK.
-/
import Derived.Deep.LoopGhost
import Derived.IntWalk
import Derived.Laws.Tables
import Derived.Laws.RangeAny
import Derived.Laws.RangeString
import Derived.Test.YtnkjkgmohmcobaaGreatDoorBc01
set_option maxHeartbeats 6400000
set_option maxRecDepth 100000
namespace Go.Proofs.YtnkjkgmohmcobaaGreatDoor
open Go.RowKit
def u32V (x:Nat):Value:= .int .u32 (x:Nat)
def bitSum:Nat→Nat
 |0=>1
 |b+1=>if bitSum b%2=1 then bitSum b/2^^^2197175160 else bitSum b/2
def inT (T:List Nat) (sum step:Nat):Nat→List Nat
 |0=>T
 |k+1=>(inT T sum step k).set (2*step*k+step) ((inT T sum step k).getD (2*step*k) 0^^^sum)
def outT:Nat→List Nat
 |0=>List.replicate 256 0
 |b+1=>inT (outT b) (bitSum (b+1)) (128/2^b) (2^b)
theorem inT_length (T:List Nat) (sum step k:Nat):(inT T sum step k).length=T.length:=by
 induction k with
 |zero=>rfl
 |succ k ih=>rw [inT,List.length_set,ih]
theorem outT_length (b:Nat):(outT b).length=256:=by
 induction b with
 |zero=>exact List.length_replicate
 |succ b ih=>rw [outT,inT_length,ih]
theorem bits_xor_u32_nat (a b:Nat) (ha:a<4294967296) (hb:b<4294967296):bits .xor .u32 (a:Int) (b:Int)=((a^^^b:Nat):Int):=by
 have hx:a^^^b<2^32:=Nat.xor_lt_two_pow (by omega) (by omega)
 have h1:(BitVec.ofInt 32 (a:Int)).toNat=a:=by
  rw [BitVec.ofInt_natCast,BitVec.toNat_ofNat];exact Nat.mod_eq_of_lt (by omega)
 have h2:(BitVec.ofInt 32 (b:Int)).toNat=b:=by
  rw [BitVec.ofInt_natCast,BitVec.toNat_ofNat];exact Nat.mod_eq_of_lt (by omega)
 show IntKind.u32.wrap ((BitVec.ofInt 32 (a:Int)^^^BitVec.ofInt 32 (b:Int)).toNat:Int)=_
 rw [BitVec.toNat_xor,h1,h2,IntKind.wrap_u32]
 omega
def All32 (T:List Nat):Prop:=∀x∈T,x<4294967296
theorem All32.getD {T:List Nat} (h:All32 T) (i:Nat):T.getD i 0<4294967296:=by
 rw [List.getD_eq_getElem?_getD]
 cases hi:T[i]? with
 |none=>simp
 |some x=>exact h x (List.mem_of_getElem? hi)
theorem All32.set {T:List Nat} (h:All32 T) (i x:Nat) (hx:x<4294967296):All32 (T.set i x):=by
 intro y hy
 rcases List.mem_or_eq_of_mem_set hy with h1|rfl
 ·exact h y h1
 ·exact hx
theorem All32.inT {T:List Nat} (h:All32 T) {sum:Nat} (hs:sum<4294967296) (step k:Nat):All32 (inT T sum step k):=by
 induction k with
 |zero=>exact h
 |succ k ih=>exact ih.set _ _ (Nat.xor_lt_two_pow (n:=32) (ih.getD _) hs)
theorem u32_set {T:List Nat} {i x:Nat} :((T.map u32V).toArray).setIfInBounds i (u32V x)=((T.set i x).map u32V).toArray:=by
 rw [List.setIfInBounds_toArray,List.map_set]
theorem u32_at {T:List Nat} {i:Nat} (h:i<T.length):((T.map u32V).toArray)[i]?=some (.int .u32 ((T.getD i 0:Nat):Int)):=by
 rw [List.getElem?_toArray,List.getElem?_map,List.getElem?_eq_getElem h,List.getD_eq_getElem?_getD,List.getElem?_eq_getElem h]
 rfl
theorem zeros_u32:Tryz.zeroCells392=((outT 0).map u32V).toArray:=by
 rw [show (outT 0).map u32V=List.replicate 256 (u32V 0) by simp [outT]]
 kernel_rfl
theorem all32_zero:All32 (outT 0):=by
 intro x hx
 simp only [outT,List.mem_replicate] at hx
 omega
theorem table_any (w:World):Calls Tryz.prog 295 #[] w fun e w'=>e= .returned (.agg ((outT 8).map u32V).toArray)∧Below w.heap.size w w':=by
 go_enter Tryz.func295,Tryz.ntmps295
 go_wp2
 go_loopw [2,7] (fun s i wr=>∃b:Nat,b≤8∧i= .int .i64 b∧s=u32V (bitSum b)∧Below w.heap.size w wr∧w.heap.size+2≤wr.heap.size∧Blk wr (w.heap.size+1) 392 ((outT b).map u32V).toArray∧All32 (outT b)∧∃cs,Blk wr w.heap.size 392 cs∧cs.size=256) (fun _ i _=>8-(intOf i).toNat)
 case atStart=>exact ⟨0,by omega,rfl,rfl,below2 _ _ _,by simp,by rw [← zeros_u32];simpa using Blk.new (w.alloc (.cells Tryz.zeroCells392 392)) 392 Tryz.zeroCells392,all32_zero,_,(Blk.new _ _ _).alloc _,by kernel_rfl⟩
 case round=>
  obtain ⟨b,hb,rfl,rfl,hbw,hz,kT,h32,cs,kR,hcs⟩:=hrel
  have HKT:=hide kT
  have HKR:=hide kR
  have HCS:=hide hcs
  have H32:=hide h32
  clear kT kR hcs h32
  by_cases hlt:b<8
  ·have hb8:b=0∨b=1∨b=2∨b=3∨b=4∨b=5∨b=6∨b=7:=by omega
   rcases hb8 with rfl|rfl|rfl|rfl|rfl|rfl|rfl|rfl
   ·rw [show u32V (bitSum 0)= .int .u32 1 by kernel_rfl,show ((0:Nat):Int)=0 from rfl]
    have ea:bits BinOp.and IntKind.u32 1 1=1:=by kernel_rfl
    have ex:bits BinOp.xor IntKind.u32 0 2197175160=2197175160:=by kernel_rfl
    have HT1:=hide (show outT (0+1)=inT (outT 0) 2197175160 128 1 by rw [outT];exact congrArg (fun s=>inT (outT 0) s 128 1) (by kernel_rfl))
    have HS1:=hide (show Value.int .u32 2197175160=u32V (bitSum (0+1)) by kernel_rfl)
    go_wp2
    clear ea ex
    obtain ⟨wo,rfl⟩:∃wo:World,wo=wr:=⟨_,rfl⟩
    go_loopw [6] (fun i wr=>∃k:Nat,k≤1∧i= .int .i64 (256*(k:Int))∧Below w.heap.size w wr∧w.heap.size+2≤wr.heap.size∧Blk wr (w.heap.size+1) 392 ((inT (outT 0) 2197175160 128 k).map u32V).toArray∧Blk wr w.heap.size 392 cs) (fun i _=>1*256-(intOf i).toNat)
    case atStart=>exact ⟨0,Nat.zero_le _,by go_num,hbw,hz,HKT.out,HKR.out⟩
    case round=>
     clear HKT HKR hbw hz
     obtain ⟨k,hk,rfl,hbw,hz,kT,kR⟩:=hrel
     have HKT:=hide kT
     have HKR:=hide kR
     have h32:=(H32.out.inT (sum:=2197175160) (by omega) 128 k)
     have hlen:=inT_length (outT 0) 2197175160 128 k
     rw [outT_length] at hlen
     by_cases hlt2:k<1
     ·obtain ⟨j,hj⟩:∃j:Nat,j=256*k:=⟨_,rfl⟩
      have ej:(256:Int)*(k:Int)=(j:Int):=by omega
      rw [ej]
      have b1:(0:Int)≤j:=by omega
      have b2:(j:Int)<256:=by omega
      have b3:(j:Int)+128<256:=by omega
      have HEJ:=hide ej
      have HJ:=hide hj
      obtain ⟨x,hx⟩:∃x,(inT (outT 0) 2197175160 128 k).getD j 0=x:=⟨_,rfl⟩
      have hx32:x<4294967296:=by rw [← hx];exact h32.getD j
      have q0:wr.cell? ⟨w.heap.size+1,j,none⟩=some (.int .u32 (x:Nat)):=by rw [kT.cell,u32_at (by omega),hx]
      have q1:wr.cell? ⟨w.heap.size+1,j+128,none⟩=some (.int .u32 (((inT (outT 0) 2197175160 128 k).getD (j+128) 0:Nat):Int)):=by rw [kT.cell,u32_at (by omega)]
      have f1:=kT.frozen (j+128)
      have hxor:=bits_xor_u32_nat x 2197175160 hx32 (by omega)
      have hxor:bits BinOp.xor IntKind.u32 (x:Int) 2197175160=((x^^^2197175160:Nat):Int):=hxor
      have HIN:=hide (show inT (outT 0) 2197175160 128 (k+1)=(inT (outT 0) 2197175160 128 k).set (j+128) (x^^^2197175160) by rw [inT, ← hx,hj])
      generalize (inT (outT 0) 2197175160 128 k).getD (j+128) 0=y at q1
      clear hx hj ej kT kR h32 hlen
      go_wp2
      go_roundw
      case rel=>
       refine ⟨k+1,by omega,by rw [show (j:Int)+256=256*((k+1:Nat):Int) by have:=HJ.out;omega],hbw.setCell (p:=⟨w.heap.size+1,j+128,none⟩) (by simp) _,by simpa [World.setCell] using hz,?_,HKR.out.far (p:=⟨w.heap.size+1,j+128,none⟩) (by simp) _⟩
       rw [HIN.out, ← u32_set]
       exact HKT.out.set_ _ _
      case measure=>have:=HJ.out;simp [intOf];omega
     ·obtain rfl:k=1:=by omega
      have H32':=hide (show All32 (outT (0+1)) by rw [HT1.out];exact h32)
      clear kT kR h32 hlen
      go_wp2
      go_roundw
      case rel=>exact ⟨0+1,by omega,by go_num,HS1.out,hbw,hz,by rw [HT1.out];exact HKT.out,H32'.out,cs,HKR.out,HCS.out⟩
      case measure=>simp [intOf]
   ·rw [show u32V (bitSum 1)= .int .u32 2197175160 by kernel_rfl,show ((1:Nat):Int)=1 from rfl]
    have ea:bits BinOp.and IntKind.u32 2197175160 1=0:=by kernel_rfl
    have ex:bits BinOp.xor IntKind.u32 1098587580 2197175160=3280807620:=by kernel_rfl
    have HT1:=hide (show outT (1+1)=inT (outT 1) 1098587580 64 2 by rw [outT];exact congrArg (fun s=>inT (outT 1) s 64 2) (by kernel_rfl))
    have HS1:=hide (show Value.int .u32 1098587580=u32V (bitSum (1+1)) by kernel_rfl)
    go_wp2
    clear ea ex
    obtain ⟨wo,rfl⟩:∃wo:World,wo=wr:=⟨_,rfl⟩
    go_loopw [6] (fun i wr=>∃k:Nat,k≤2∧i= .int .i64 (128*(k:Int))∧Below w.heap.size w wr∧w.heap.size+2≤wr.heap.size∧Blk wr (w.heap.size+1) 392 ((inT (outT 1) 1098587580 64 k).map u32V).toArray∧Blk wr w.heap.size 392 cs) (fun i _=>2*128-(intOf i).toNat)
    case atStart=>exact ⟨0,Nat.zero_le _,by go_num,hbw,hz,HKT.out,HKR.out⟩
    case round=>
     clear HKT HKR hbw hz
     obtain ⟨k,hk,rfl,hbw,hz,kT,kR⟩:=hrel
     have HKT:=hide kT
     have HKR:=hide kR
     have h32:=(H32.out.inT (sum:=1098587580) (by omega) 64 k)
     have hlen:=inT_length (outT 1) 1098587580 64 k
     rw [outT_length] at hlen
     by_cases hlt2:k<2
     ·obtain ⟨j,hj⟩:∃j:Nat,j=128*k:=⟨_,rfl⟩
      have ej:(128:Int)*(k:Int)=(j:Int):=by omega
      rw [ej]
      have b1:(0:Int)≤j:=by omega
      have b2:(j:Int)<256:=by omega
      have b3:(j:Int)+64<256:=by omega
      have HEJ:=hide ej
      have HJ:=hide hj
      obtain ⟨x,hx⟩:∃x,(inT (outT 1) 1098587580 64 k).getD j 0=x:=⟨_,rfl⟩
      have hx32:x<4294967296:=by rw [← hx];exact h32.getD j
      have q0:wr.cell? ⟨w.heap.size+1,j,none⟩=some (.int .u32 (x:Nat)):=by rw [kT.cell,u32_at (by omega),hx]
      have q1:wr.cell? ⟨w.heap.size+1,j+64,none⟩=some (.int .u32 (((inT (outT 1) 1098587580 64 k).getD (j+64) 0:Nat):Int)):=by rw [kT.cell,u32_at (by omega)]
      have f1:=kT.frozen (j+64)
      have hxor:=bits_xor_u32_nat x 1098587580 hx32 (by omega)
      have hxor:bits BinOp.xor IntKind.u32 (x:Int) 1098587580=((x^^^1098587580:Nat):Int):=hxor
      have HIN:=hide (show inT (outT 1) 1098587580 64 (k+1)=(inT (outT 1) 1098587580 64 k).set (j+64) (x^^^1098587580) by rw [inT, ← hx,hj])
      generalize (inT (outT 1) 1098587580 64 k).getD (j+64) 0=y at q1
      clear hx hj ej kT kR h32 hlen
      go_wp2
      go_roundw
      case rel=>
       refine ⟨k+1,by omega,by rw [show (j:Int)+128=128*((k+1:Nat):Int) by have:=HJ.out;omega],hbw.setCell (p:=⟨w.heap.size+1,j+64,none⟩) (by simp) _,by simpa [World.setCell] using hz,?_,HKR.out.far (p:=⟨w.heap.size+1,j+64,none⟩) (by simp) _⟩
       rw [HIN.out, ← u32_set]
       exact HKT.out.set_ _ _
      case measure=>have:=HJ.out;simp [intOf];omega
     ·obtain rfl:k=2:=by omega
      have H32':=hide (show All32 (outT (1+1)) by rw [HT1.out];exact h32)
      clear kT kR h32 hlen
      go_wp2
      go_roundw
      case rel=>exact ⟨1+1,by omega,by go_num,HS1.out,hbw,hz,by rw [HT1.out];exact HKT.out,H32'.out,cs,HKR.out,HCS.out⟩
      case measure=>simp [intOf]
   ·rw [show u32V (bitSum 2)= .int .u32 1098587580 by kernel_rfl,show ((2:Nat):Int)=2 from rfl]
    have ea:bits BinOp.and IntKind.u32 1098587580 1=0:=by kernel_rfl
    have ex:bits BinOp.xor IntKind.u32 549293790 2197175160=2722870694:=by kernel_rfl
    have HT1:=hide (show outT (2+1)=inT (outT 2) 549293790 32 4 by rw [outT];exact congrArg (fun s=>inT (outT 2) s 32 4) (by kernel_rfl))
    have HS1:=hide (show Value.int .u32 549293790=u32V (bitSum (2+1)) by kernel_rfl)
    go_wp2
    clear ea ex
    obtain ⟨wo,rfl⟩:∃wo:World,wo=wr:=⟨_,rfl⟩
    go_loopw [6] (fun i wr=>∃k:Nat,k≤4∧i= .int .i64 (64*(k:Int))∧Below w.heap.size w wr∧w.heap.size+2≤wr.heap.size∧Blk wr (w.heap.size+1) 392 ((inT (outT 2) 549293790 32 k).map u32V).toArray∧Blk wr w.heap.size 392 cs) (fun i _=>4*64-(intOf i).toNat)
    case atStart=>exact ⟨0,Nat.zero_le _,by go_num,hbw,hz,HKT.out,HKR.out⟩
    case round=>
     clear HKT HKR hbw hz
     obtain ⟨k,hk,rfl,hbw,hz,kT,kR⟩:=hrel
     have HKT:=hide kT
     have HKR:=hide kR
     have h32:=(H32.out.inT (sum:=549293790) (by omega) 32 k)
     have hlen:=inT_length (outT 2) 549293790 32 k
     rw [outT_length] at hlen
     by_cases hlt2:k<4
     ·obtain ⟨j,hj⟩:∃j:Nat,j=64*k:=⟨_,rfl⟩
      have ej:(64:Int)*(k:Int)=(j:Int):=by omega
      rw [ej]
      have b1:(0:Int)≤j:=by omega
      have b2:(j:Int)<256:=by omega
      have b3:(j:Int)+32<256:=by omega
      have HEJ:=hide ej
      have HJ:=hide hj
      obtain ⟨x,hx⟩:∃x,(inT (outT 2) 549293790 32 k).getD j 0=x:=⟨_,rfl⟩
      have hx32:x<4294967296:=by rw [← hx];exact h32.getD j
      have q0:wr.cell? ⟨w.heap.size+1,j,none⟩=some (.int .u32 (x:Nat)):=by rw [kT.cell,u32_at (by omega),hx]
      have q1:wr.cell? ⟨w.heap.size+1,j+32,none⟩=some (.int .u32 (((inT (outT 2) 549293790 32 k).getD (j+32) 0:Nat):Int)):=by rw [kT.cell,u32_at (by omega)]
      have f1:=kT.frozen (j+32)
      have hxor:=bits_xor_u32_nat x 549293790 hx32 (by omega)
      have hxor:bits BinOp.xor IntKind.u32 (x:Int) 549293790=((x^^^549293790:Nat):Int):=hxor
      have HIN:=hide (show inT (outT 2) 549293790 32 (k+1)=(inT (outT 2) 549293790 32 k).set (j+32) (x^^^549293790) by rw [inT, ← hx,hj])
      generalize (inT (outT 2) 549293790 32 k).getD (j+32) 0=y at q1
      clear hx hj ej kT kR h32 hlen
      go_wp2
      go_roundw
      case rel=>
       refine ⟨k+1,by omega,by rw [show (j:Int)+64=64*((k+1:Nat):Int) by have:=HJ.out;omega],hbw.setCell (p:=⟨w.heap.size+1,j+32,none⟩) (by simp) _,by simpa [World.setCell] using hz,?_,HKR.out.far (p:=⟨w.heap.size+1,j+32,none⟩) (by simp) _⟩
       rw [HIN.out, ← u32_set]
       exact HKT.out.set_ _ _
      case measure=>have:=HJ.out;simp [intOf];omega
     ·obtain rfl:k=4:=by omega
      have H32':=hide (show All32 (outT (2+1)) by rw [HT1.out];exact h32)
      clear kT kR h32 hlen
      go_wp2
      go_roundw
      case rel=>exact ⟨2+1,by omega,by go_num,HS1.out,hbw,hz,by rw [HT1.out];exact HKT.out,H32'.out,cs,HKR.out,HCS.out⟩
      case measure=>simp [intOf]
   ·rw [show u32V (bitSum 3)= .int .u32 549293790 by kernel_rfl,show ((3:Nat):Int)=3 from rfl]
    have ea:bits BinOp.and IntKind.u32 549293790 1=0:=by kernel_rfl
    have ex:bits BinOp.xor IntKind.u32 274646895 2197175160=2460548119:=by kernel_rfl
    have HT1:=hide (show outT (3+1)=inT (outT 3) 274646895 16 8 by rw [outT];exact congrArg (fun s=>inT (outT 3) s 16 8) (by kernel_rfl))
    have HS1:=hide (show Value.int .u32 274646895=u32V (bitSum (3+1)) by kernel_rfl)
    go_wp2
    clear ea ex
    obtain ⟨wo,rfl⟩:∃wo:World,wo=wr:=⟨_,rfl⟩
    go_loopw [6] (fun i wr=>∃k:Nat,k≤8∧i= .int .i64 (32*(k:Int))∧Below w.heap.size w wr∧w.heap.size+2≤wr.heap.size∧Blk wr (w.heap.size+1) 392 ((inT (outT 3) 274646895 16 k).map u32V).toArray∧Blk wr w.heap.size 392 cs) (fun i _=>8*32-(intOf i).toNat)
    case atStart=>exact ⟨0,Nat.zero_le _,by go_num,hbw,hz,HKT.out,HKR.out⟩
    case round=>
     clear HKT HKR hbw hz
     obtain ⟨k,hk,rfl,hbw,hz,kT,kR⟩:=hrel
     have HKT:=hide kT
     have HKR:=hide kR
     have h32:=(H32.out.inT (sum:=274646895) (by omega) 16 k)
     have hlen:=inT_length (outT 3) 274646895 16 k
     rw [outT_length] at hlen
     by_cases hlt2:k<8
     ·obtain ⟨j,hj⟩:∃j:Nat,j=32*k:=⟨_,rfl⟩
      have ej:(32:Int)*(k:Int)=(j:Int):=by omega
      rw [ej]
      have b1:(0:Int)≤j:=by omega
      have b2:(j:Int)<256:=by omega
      have b3:(j:Int)+16<256:=by omega
      have HEJ:=hide ej
      have HJ:=hide hj
      obtain ⟨x,hx⟩:∃x,(inT (outT 3) 274646895 16 k).getD j 0=x:=⟨_,rfl⟩
      have hx32:x<4294967296:=by rw [← hx];exact h32.getD j
      have q0:wr.cell? ⟨w.heap.size+1,j,none⟩=some (.int .u32 (x:Nat)):=by rw [kT.cell,u32_at (by omega),hx]
      have q1:wr.cell? ⟨w.heap.size+1,j+16,none⟩=some (.int .u32 (((inT (outT 3) 274646895 16 k).getD (j+16) 0:Nat):Int)):=by rw [kT.cell,u32_at (by omega)]
      have f1:=kT.frozen (j+16)
      have hxor:=bits_xor_u32_nat x 274646895 hx32 (by omega)
      have hxor:bits BinOp.xor IntKind.u32 (x:Int) 274646895=((x^^^274646895:Nat):Int):=hxor
      have HIN:=hide (show inT (outT 3) 274646895 16 (k+1)=(inT (outT 3) 274646895 16 k).set (j+16) (x^^^274646895) by rw [inT, ← hx,hj])
      generalize (inT (outT 3) 274646895 16 k).getD (j+16) 0=y at q1
      clear hx hj ej kT kR h32 hlen
      go_wp2
      go_roundw
      case rel=>
       refine ⟨k+1,by omega,by rw [show (j:Int)+32=32*((k+1:Nat):Int) by have:=HJ.out;omega],hbw.setCell (p:=⟨w.heap.size+1,j+16,none⟩) (by simp) _,by simpa [World.setCell] using hz,?_,HKR.out.far (p:=⟨w.heap.size+1,j+16,none⟩) (by simp) _⟩
       rw [HIN.out, ← u32_set]
       exact HKT.out.set_ _ _
      case measure=>have:=HJ.out;simp [intOf];omega
     ·obtain rfl:k=8:=by omega
      have H32':=hide (show All32 (outT (3+1)) by rw [HT1.out];exact h32)
      clear kT kR h32 hlen
      go_wp2
      go_roundw
      case rel=>exact ⟨3+1,by omega,by go_num,HS1.out,hbw,hz,by rw [HT1.out];exact HKT.out,H32'.out,cs,HKR.out,HCS.out⟩
      case measure=>simp [intOf]
   ·rw [show u32V (bitSum 4)= .int .u32 274646895 by kernel_rfl,show ((4:Nat):Int)=4 from rfl]
    have ea:bits BinOp.and IntKind.u32 274646895 1=1:=by kernel_rfl
    have ex:bits BinOp.xor IntKind.u32 137323447 2197175160=2329499855:=by kernel_rfl
    have HT1:=hide (show outT (4+1)=inT (outT 4) 2329499855 8 16 by rw [outT];exact congrArg (fun s=>inT (outT 4) s 8 16) (by kernel_rfl))
    have HS1:=hide (show Value.int .u32 2329499855=u32V (bitSum (4+1)) by kernel_rfl)
    go_wp2
    clear ea ex
    obtain ⟨wo,rfl⟩:∃wo:World,wo=wr:=⟨_,rfl⟩
    go_loopw [6] (fun i wr=>∃k:Nat,k≤16∧i= .int .i64 (16*(k:Int))∧Below w.heap.size w wr∧w.heap.size+2≤wr.heap.size∧Blk wr (w.heap.size+1) 392 ((inT (outT 4) 2329499855 8 k).map u32V).toArray∧Blk wr w.heap.size 392 cs) (fun i _=>16*16-(intOf i).toNat)
    case atStart=>exact ⟨0,Nat.zero_le _,by go_num,hbw,hz,HKT.out,HKR.out⟩
    case round=>
     clear HKT HKR hbw hz
     obtain ⟨k,hk,rfl,hbw,hz,kT,kR⟩:=hrel
     have HKT:=hide kT
     have HKR:=hide kR
     have h32:=(H32.out.inT (sum:=2329499855) (by omega) 8 k)
     have hlen:=inT_length (outT 4) 2329499855 8 k
     rw [outT_length] at hlen
     by_cases hlt2:k<16
     ·obtain ⟨j,hj⟩:∃j:Nat,j=16*k:=⟨_,rfl⟩
      have ej:(16:Int)*(k:Int)=(j:Int):=by omega
      rw [ej]
      have b1:(0:Int)≤j:=by omega
      have b2:(j:Int)<256:=by omega
      have b3:(j:Int)+8<256:=by omega
      have HEJ:=hide ej
      have HJ:=hide hj
      obtain ⟨x,hx⟩:∃x,(inT (outT 4) 2329499855 8 k).getD j 0=x:=⟨_,rfl⟩
      have hx32:x<4294967296:=by rw [← hx];exact h32.getD j
      have q0:wr.cell? ⟨w.heap.size+1,j,none⟩=some (.int .u32 (x:Nat)):=by rw [kT.cell,u32_at (by omega),hx]
      have q1:wr.cell? ⟨w.heap.size+1,j+8,none⟩=some (.int .u32 (((inT (outT 4) 2329499855 8 k).getD (j+8) 0:Nat):Int)):=by rw [kT.cell,u32_at (by omega)]
      have f1:=kT.frozen (j+8)
      have hxor:=bits_xor_u32_nat x 2329499855 hx32 (by omega)
      have hxor:bits BinOp.xor IntKind.u32 (x:Int) 2329499855=((x^^^2329499855:Nat):Int):=hxor
      have HIN:=hide (show inT (outT 4) 2329499855 8 (k+1)=(inT (outT 4) 2329499855 8 k).set (j+8) (x^^^2329499855) by rw [inT, ← hx,hj])
      generalize (inT (outT 4) 2329499855 8 k).getD (j+8) 0=y at q1
      clear hx hj ej kT kR h32 hlen
      go_wp2
      go_roundw
      case rel=>
       refine ⟨k+1,by omega,by rw [show (j:Int)+16=16*((k+1:Nat):Int) by have:=HJ.out;omega],hbw.setCell (p:=⟨w.heap.size+1,j+8,none⟩) (by simp) _,by simpa [World.setCell] using hz,?_,HKR.out.far (p:=⟨w.heap.size+1,j+8,none⟩) (by simp) _⟩
       rw [HIN.out, ← u32_set]
       exact HKT.out.set_ _ _
      case measure=>have:=HJ.out;simp [intOf];omega
     ·obtain rfl:k=16:=by omega
      have H32':=hide (show All32 (outT (4+1)) by rw [HT1.out];exact h32)
      clear kT kR h32 hlen
      go_wp2
      go_roundw
      case rel=>exact ⟨4+1,by omega,by go_num,HS1.out,hbw,hz,by rw [HT1.out];exact HKT.out,H32'.out,cs,HKR.out,HCS.out⟩
      case measure=>simp [intOf]
   ·rw [show u32V (bitSum 5)= .int .u32 2329499855 by kernel_rfl,show ((5:Nat):Int)=5 from rfl]
    have ea:bits BinOp.and IntKind.u32 2329499855 1=1:=by kernel_rfl
    have ex:bits BinOp.xor IntKind.u32 1164749927 2197175160=3348797215:=by kernel_rfl
    have HT1:=hide (show outT (5+1)=inT (outT 5) 3348797215 4 32 by rw [outT];exact congrArg (fun s=>inT (outT 5) s 4 32) (by kernel_rfl))
    have HS1:=hide (show Value.int .u32 3348797215=u32V (bitSum (5+1)) by kernel_rfl)
    go_wp2
    clear ea ex
    obtain ⟨wo,rfl⟩:∃wo:World,wo=wr:=⟨_,rfl⟩
    go_loopw [6] (fun i wr=>∃k:Nat,k≤32∧i= .int .i64 (8*(k:Int))∧Below w.heap.size w wr∧w.heap.size+2≤wr.heap.size∧Blk wr (w.heap.size+1) 392 ((inT (outT 5) 3348797215 4 k).map u32V).toArray∧Blk wr w.heap.size 392 cs) (fun i _=>32*8-(intOf i).toNat)
    case atStart=>exact ⟨0,Nat.zero_le _,by go_num,hbw,hz,HKT.out,HKR.out⟩
    case round=>
     clear HKT HKR hbw hz
     obtain ⟨k,hk,rfl,hbw,hz,kT,kR⟩:=hrel
     have HKT:=hide kT
     have HKR:=hide kR
     have h32:=(H32.out.inT (sum:=3348797215) (by omega) 4 k)
     have hlen:=inT_length (outT 5) 3348797215 4 k
     rw [outT_length] at hlen
     by_cases hlt2:k<32
     ·obtain ⟨j,hj⟩:∃j:Nat,j=8*k:=⟨_,rfl⟩
      have ej:(8:Int)*(k:Int)=(j:Int):=by omega
      rw [ej]
      have b1:(0:Int)≤j:=by omega
      have b2:(j:Int)<256:=by omega
      have b3:(j:Int)+4<256:=by omega
      have HEJ:=hide ej
      have HJ:=hide hj
      obtain ⟨x,hx⟩:∃x,(inT (outT 5) 3348797215 4 k).getD j 0=x:=⟨_,rfl⟩
      have hx32:x<4294967296:=by rw [← hx];exact h32.getD j
      have q0:wr.cell? ⟨w.heap.size+1,j,none⟩=some (.int .u32 (x:Nat)):=by rw [kT.cell,u32_at (by omega),hx]
      have q1:wr.cell? ⟨w.heap.size+1,j+4,none⟩=some (.int .u32 (((inT (outT 5) 3348797215 4 k).getD (j+4) 0:Nat):Int)):=by rw [kT.cell,u32_at (by omega)]
      have f1:=kT.frozen (j+4)
      have hxor:=bits_xor_u32_nat x 3348797215 hx32 (by omega)
      have hxor:bits BinOp.xor IntKind.u32 (x:Int) 3348797215=((x^^^3348797215:Nat):Int):=hxor
      have HIN:=hide (show inT (outT 5) 3348797215 4 (k+1)=(inT (outT 5) 3348797215 4 k).set (j+4) (x^^^3348797215) by rw [inT, ← hx,hj])
      generalize (inT (outT 5) 3348797215 4 k).getD (j+4) 0=y at q1
      clear hx hj ej kT kR h32 hlen
      go_wp2
      go_roundw
      case rel=>
       refine ⟨k+1,by omega,by rw [show (j:Int)+8=8*((k+1:Nat):Int) by have:=HJ.out;omega],hbw.setCell (p:=⟨w.heap.size+1,j+4,none⟩) (by simp) _,by simpa [World.setCell] using hz,?_,HKR.out.far (p:=⟨w.heap.size+1,j+4,none⟩) (by simp) _⟩
       rw [HIN.out, ← u32_set]
       exact HKT.out.set_ _ _
      case measure=>have:=HJ.out;simp [intOf];omega
     ·obtain rfl:k=32:=by omega
      have H32':=hide (show All32 (outT (5+1)) by rw [HT1.out];exact h32)
      clear kT kR h32 hlen
      go_wp2
      go_roundw
      case rel=>exact ⟨5+1,by omega,by go_num,HS1.out,hbw,hz,by rw [HT1.out];exact HKT.out,H32'.out,cs,HKR.out,HCS.out⟩
      case measure=>simp [intOf]
   ·rw [show u32V (bitSum 6)= .int .u32 3348797215 by kernel_rfl,show ((6:Nat):Int)=6 from rfl]
    have ea:bits BinOp.and IntKind.u32 3348797215 1=1:=by kernel_rfl
    have ex:bits BinOp.xor IntKind.u32 1674398607 2197175160=3778769143:=by kernel_rfl
    have HT1:=hide (show outT (6+1)=inT (outT 6) 3778769143 2 64 by rw [outT];exact congrArg (fun s=>inT (outT 6) s 2 64) (by kernel_rfl))
    have HS1:=hide (show Value.int .u32 3778769143=u32V (bitSum (6+1)) by kernel_rfl)
    go_wp2
    clear ea ex
    obtain ⟨wo,rfl⟩:∃wo:World,wo=wr:=⟨_,rfl⟩
    go_loopw [6] (fun i wr=>∃k:Nat,k≤64∧i= .int .i64 (4*(k:Int))∧Below w.heap.size w wr∧w.heap.size+2≤wr.heap.size∧Blk wr (w.heap.size+1) 392 ((inT (outT 6) 3778769143 2 k).map u32V).toArray∧Blk wr w.heap.size 392 cs) (fun i _=>64*4-(intOf i).toNat)
    case atStart=>exact ⟨0,Nat.zero_le _,by go_num,hbw,hz,HKT.out,HKR.out⟩
    case round=>
     clear HKT HKR hbw hz
     obtain ⟨k,hk,rfl,hbw,hz,kT,kR⟩:=hrel
     have HKT:=hide kT
     have HKR:=hide kR
     have h32:=(H32.out.inT (sum:=3778769143) (by omega) 2 k)
     have hlen:=inT_length (outT 6) 3778769143 2 k
     rw [outT_length] at hlen
     by_cases hlt2:k<64
     ·obtain ⟨j,hj⟩:∃j:Nat,j=4*k:=⟨_,rfl⟩
      have ej:(4:Int)*(k:Int)=(j:Int):=by omega
      rw [ej]
      have b1:(0:Int)≤j:=by omega
      have b2:(j:Int)<256:=by omega
      have b3:(j:Int)+2<256:=by omega
      have HEJ:=hide ej
      have HJ:=hide hj
      obtain ⟨x,hx⟩:∃x,(inT (outT 6) 3778769143 2 k).getD j 0=x:=⟨_,rfl⟩
      have hx32:x<4294967296:=by rw [← hx];exact h32.getD j
      have q0:wr.cell? ⟨w.heap.size+1,j,none⟩=some (.int .u32 (x:Nat)):=by rw [kT.cell,u32_at (by omega),hx]
      have q1:wr.cell? ⟨w.heap.size+1,j+2,none⟩=some (.int .u32 (((inT (outT 6) 3778769143 2 k).getD (j+2) 0:Nat):Int)):=by rw [kT.cell,u32_at (by omega)]
      have f1:=kT.frozen (j+2)
      have hxor:=bits_xor_u32_nat x 3778769143 hx32 (by omega)
      have hxor:bits BinOp.xor IntKind.u32 (x:Int) 3778769143=((x^^^3778769143:Nat):Int):=hxor
      have HIN:=hide (show inT (outT 6) 3778769143 2 (k+1)=(inT (outT 6) 3778769143 2 k).set (j+2) (x^^^3778769143) by rw [inT, ← hx,hj])
      generalize (inT (outT 6) 3778769143 2 k).getD (j+2) 0=y at q1
      clear hx hj ej kT kR h32 hlen
      go_wp2
      go_roundw
      case rel=>
       refine ⟨k+1,by omega,by rw [show (j:Int)+4=4*((k+1:Nat):Int) by have:=HJ.out;omega],hbw.setCell (p:=⟨w.heap.size+1,j+2,none⟩) (by simp) _,by simpa [World.setCell] using hz,?_,HKR.out.far (p:=⟨w.heap.size+1,j+2,none⟩) (by simp) _⟩
       rw [HIN.out, ← u32_set]
       exact HKT.out.set_ _ _
      case measure=>have:=HJ.out;simp [intOf];omega
     ·obtain rfl:k=64:=by omega
      have H32':=hide (show All32 (outT (6+1)) by rw [HT1.out];exact h32)
      clear kT kR h32 hlen
      go_wp2
      go_roundw
      case rel=>exact ⟨6+1,by omega,by go_num,HS1.out,hbw,hz,by rw [HT1.out];exact HKT.out,H32'.out,cs,HKR.out,HCS.out⟩
      case measure=>simp [intOf]
   ·rw [show u32V (bitSum 7)= .int .u32 3778769143 by kernel_rfl,show ((7:Nat):Int)=7 from rfl]
    have ea:bits BinOp.and IntKind.u32 3778769143 1=1:=by kernel_rfl
    have ex:bits BinOp.xor IntKind.u32 1889384571 2197175160=4067132163:=by kernel_rfl
    have HT1:=hide (show outT (7+1)=inT (outT 7) 4067132163 1 128 by rw [outT];exact congrArg (fun s=>inT (outT 7) s 1 128) (by kernel_rfl))
    have HS1:=hide (show Value.int .u32 4067132163=u32V (bitSum (7+1)) by kernel_rfl)
    go_wp2
    clear ea ex
    obtain ⟨wo,rfl⟩:∃wo:World,wo=wr:=⟨_,rfl⟩
    go_loopw [6] (fun i wr=>∃k:Nat,k≤128∧i= .int .i64 (2*(k:Int))∧Below w.heap.size w wr∧w.heap.size+2≤wr.heap.size∧Blk wr (w.heap.size+1) 392 ((inT (outT 7) 4067132163 1 k).map u32V).toArray∧Blk wr w.heap.size 392 cs) (fun i _=>128*2-(intOf i).toNat)
    case atStart=>exact ⟨0,Nat.zero_le _,by go_num,hbw,hz,HKT.out,HKR.out⟩
    case round=>
     clear HKT HKR hbw hz
     obtain ⟨k,hk,rfl,hbw,hz,kT,kR⟩:=hrel
     have HKT:=hide kT
     have HKR:=hide kR
     have h32:=(H32.out.inT (sum:=4067132163) (by omega) 1 k)
     have hlen:=inT_length (outT 7) 4067132163 1 k
     rw [outT_length] at hlen
     by_cases hlt2:k<128
     ·obtain ⟨j,hj⟩:∃j:Nat,j=2*k:=⟨_,rfl⟩
      have ej:(2:Int)*(k:Int)=(j:Int):=by omega
      rw [ej]
      have b1:(0:Int)≤j:=by omega
      have b2:(j:Int)<256:=by omega
      have b3:(j:Int)+1<256:=by omega
      have HEJ:=hide ej
      have HJ:=hide hj
      obtain ⟨x,hx⟩:∃x,(inT (outT 7) 4067132163 1 k).getD j 0=x:=⟨_,rfl⟩
      have hx32:x<4294967296:=by rw [← hx];exact h32.getD j
      have q0:wr.cell? ⟨w.heap.size+1,j,none⟩=some (.int .u32 (x:Nat)):=by rw [kT.cell,u32_at (by omega),hx]
      have q1:wr.cell? ⟨w.heap.size+1,j+1,none⟩=some (.int .u32 (((inT (outT 7) 4067132163 1 k).getD (j+1) 0:Nat):Int)):=by rw [kT.cell,u32_at (by omega)]
      have f1:=kT.frozen (j+1)
      have hxor:=bits_xor_u32_nat x 4067132163 hx32 (by omega)
      have hxor:bits BinOp.xor IntKind.u32 (x:Int) 4067132163=((x^^^4067132163:Nat):Int):=hxor
      have HIN:=hide (show inT (outT 7) 4067132163 1 (k+1)=(inT (outT 7) 4067132163 1 k).set (j+1) (x^^^4067132163) by rw [inT, ← hx,hj])
      generalize (inT (outT 7) 4067132163 1 k).getD (j+1) 0=y at q1
      clear hx hj ej kT kR h32 hlen
      go_wp2
      go_roundw
      case rel=>
       refine ⟨k+1,by omega,by rw [show (j:Int)+2=2*((k+1:Nat):Int) by have:=HJ.out;omega],hbw.setCell (p:=⟨w.heap.size+1,j+1,none⟩) (by simp) _,by simpa [World.setCell] using hz,?_,HKR.out.far (p:=⟨w.heap.size+1,j+1,none⟩) (by simp) _⟩
       rw [HIN.out, ← u32_set]
       exact HKT.out.set_ _ _
      case measure=>have:=HJ.out;simp [intOf];omega
     ·obtain rfl:k=128:=by omega
      have H32':=hide (show All32 (outT (7+1)) by rw [HT1.out];exact h32)
      clear kT kR h32 hlen
      go_wp2
      go_roundw
      case rel=>exact ⟨7+1,by omega,by go_num,HS1.out,hbw,hz,by rw [HT1.out];exact HKT.out,H32'.out,cs,HKR.out,HCS.out⟩
      case measure=>simp [intOf]
  ·obtain rfl:b=8:=by omega
   have hsz:((outT 8).map u32V).toArray.size=256:=by rw [List.size_toArray,List.length_map,outT_length]
   have hii:(Tryz.prog.info? 392).map (·.size)=some ((outT 8).map u32V).toArray.size:=by rw [hsz];kernel_rfl
   have h1c:((outT 8).map u32V).toArray.all (·.oneCell')=true:=Array.all_eq_true_iff_forall_mem.2 (fun v hv=>by
    have hv:v∈(outT 8).map u32V:=by simpa using hv
    obtain ⟨x,_,rfl⟩:=List.mem_map.1 hv
    rfl)
   have hold:cs.size=((outT 8).map u32V).toArray.size:=by rw [HCS.out,hsz]
   have hK2:Blk (wr.setRow w.heap.size ((outT 8).map u32V).toArray) w.heap.size 392 ((outT 8).map u32V).toArray:=setRow_heap wr w.heap.size cs _ _ _ HKR.out
   have hb2:Below w.heap.size w (wr.setRow w.heap.size ((outT 8).map u32V).toArray):=(touch_setRow wr w.heap.size _).below hbw (Nat.le_refl _)
   have HI:=hide hii
   have H1:=hide h1c
   have HO:=hide hold
   have HK:=hide hK2
   clear hsz hii h1c hold hK2
   generalize hX:((outT 8).map u32V).toArray=X at*
   have HX:=hide hX
   clear hX
   go_wp2_with (first
    |(refine wpList_load_row rfl 392 (.tmp 1) rfl (w.heap.size+1) rfl 392 X (0,0) _ HKT.out Tryz.underlying392 rfl HI.out ?_)
    |(refine wpList_store_row rfl 392 (.tmp 0) (.tmp 37) rfl w.heap.size X rfl rfl 392 cs HKR.out HI.out HO.out H1.out ?_))
   exact bodyPost_ret (results_cell_row Tryz.results295 _ _ w.heap.size 392 X (0,0) _ rfl HK.out Tryz.underlying392 rfl HI.out) rfl ⟨by rw [HX.out],hb2⟩
end Go.Proofs.YtnkjkgmohmcobaaGreatDoor
namespace Go.Proofs.YtnkjkgmohmcobaaGreatDoor
open Go.RowKit
def crcStep (s:Nat) (c:UInt8):Nat:=(s/256)^^^(outT 8).getD ((s%256)^^^c.toNat) 0
def moreD (s:Nat) (bs:List UInt8):Nat:=4294967295-bs.foldl crcStep (4294967295-s)
theorem all32_8:All32 (outT 8):=by
 have h:∀b,b≤8→All32 (outT b):=by
  intro b
  induction b with
  |zero=>exact fun _=>all32_zero
  |succ b ih=>
   intro hb
   rw [outT]
   refine (ih (by omega)).inT ?_ _ _
   have hb8:b=0∨b=1∨b=2∨b=3∨b=4∨b=5∨b=6∨b=7:=by omega
   rcases hb8 with rfl|rfl|rfl|rfl|rfl|rfl|rfl|rfl<;>exact Nat.le_of_ble_eq_true (by kernel_rfl)
 exact h 8 (Nat.le_refl _)
theorem crcStep_lt (s:Nat) (c:UInt8) (hs:s<4294967296):crcStep s c<4294967296:=
 Nat.xor_lt_two_pow (n:=32) (by omega) (all32_8.getD _)
theorem crcFold_lt (bs:List UInt8):∀s,s<4294967296→bs.foldl crcStep s<4294967296:=by
 induction bs with
 |nil=>exact fun _ h=>h
 |cons b bs ih=>exact fun s h=>ih _ (crcStep_lt s b h)
theorem bits_xor_u8_nat (a b:Nat) (ha:a<256) (hb:b<256):bits .xor .u8 (a:Int) (b:Int)=((a^^^b:Nat):Int):=by
 have hx:a^^^b<2^8:=Nat.xor_lt_two_pow (by omega) (by omega)
 have h1:(BitVec.ofInt 8 (a:Int)).toNat=a:=by
  rw [BitVec.ofInt_natCast,BitVec.toNat_ofNat];exact Nat.mod_eq_of_lt (by omega)
 have h2:(BitVec.ofInt 8 (b:Int)).toNat=b:=by
  rw [BitVec.ofInt_natCast,BitVec.toNat_ofNat];exact Nat.mod_eq_of_lt (by omega)
 show IntKind.u8.wrap ((BitVec.ofInt 8 (a:Int)^^^BitVec.ofInt 8 (b:Int)).toNat:Int)=_
 rw [BitVec.toNat_xor,h1,h2,IntKind.wrap_u8]
 omega
theorem bits_not_u32 (s:Nat) (hs:s<4294967296):bits .xor .u32 IntKind.u32.max (s:Int)=((4294967295-s:Nat):Int):=by
 have h1:bits .xor .u32 IntKind.u32.max (s:Int)=((4294967295^^^s:Nat):Int):=bits_xor_u32_nat 4294967295 s (by omega) hs
 rw [h1]
 have h2:(BitVec.allOnes 32^^^BitVec.ofNat 32 s)= ~~~ (BitVec.ofNat 32 s):=BitVec.allOnes_xor
 have h3:=congrArg BitVec.toNat h2
 rw [BitVec.toNat_xor,BitVec.toNat_not,BitVec.toNat_allOnes,BitVec.toNat_ofNat,Nat.mod_eq_of_lt (by omega)] at h3
 have h4:4294967295^^^s=4294967295-s:=h3
 rw [h4]
theorem more_any (s:Nat) (A:Option Addr) (n c:Nat) (bs:List UInt8) (B:Nat) (w:World) (hs:s<4294967296) (hB:B≤w.heap.size) (hm:n≤100000000) (hn:n=bs.length) (hr:Reads w B 1 A n (bs.map byteV)):
  Calls Tryz.prog 229 #[.int .u32 (s:Nat),.slice A n c] w fun e w'=>e= .returned (.int .u32 ((moreD s bs:Nat):Int))∧Below w.heap.size w w':=by
 have HT:=hide (fun W=>table_any W)
 have HR:=hide hr
 have HN:=hide hn
 have hsz:((outT 8).map u32V).toArray.size=256:=by rw [List.size_toArray,List.length_map,outT_length]
 have hii:(Tryz.prog.info? 392).map (·.size)=some ((outT 8).map u32V).toArray.size:=by rw [hsz];kernel_rfl
 have h1c:((outT 8).map u32V).toArray.all (·.oneCell')=true:=Array.all_eq_true_iff_forall_mem.2 (fun v hv=>by
  have hv:v∈(outT 8).map u32V:=by simpa using hv
  obtain ⟨x,_,rfl⟩:=List.mem_map.1 hv
  rfl)
 have hat:∀i,i<256→((outT 8).map u32V).toArray[i]?=some (.int .u32 (((outT 8).getD i 0:Nat):Int)):=fun i hi=>u32_at (by rw [outT_length];omega)
 have hzc:Tryz.zeroCells392.size=((outT 8).map u32V).toArray.size:=by rw [hsz];kernel_rfl
 have HI:=hide hii
 have H1:=hide h1c
 have HA:=hide hat
 have HZ:=hide hzc
 clear hr hn hsz hii h1c hat hzc
 generalize hX:((outT 8).map u32V).toArray=X at*
 clear hX
 go_enter Tryz.func229,Tryz.ntmps229
 go_wp2_with (first
  |(refine (HT.out _).mono ?_;rintro e w1 ⟨rfl,hb1⟩)
  |(refine wpList_store_row rfl 392 (.tmp 5) (.tmp 9) rfl w1.heap.size X rfl rfl 392 Tryz.zeroCells392 (Blk.new w1 _ _) HI.out HZ.out H1.out ?_))
 obtain ⟨wq,hwq⟩:∃wq,wq=(w1.alloc (Obj.cells Tryz.zeroCells392 392)).setRow w1.heap.size X:=⟨_,rfl⟩
 have kX:Blk wq w1.heap.size 392 X:=by rw [hwq];exact setRow_heap _ w1.heap.size _ _ _ _ (Blk.new w1 _ _)
 have hbq:Below w.heap.size w wq:=by rw [hwq];exact (touch_setRow _ w1.heap.size _).below (hb1.alloc hb1.size _) hb1.size
 rw [← hwq]
 clear hwq
 have HX:=hide kX
 clear kX
 go_loopw [6,14] (fun sv iv wr=>wr=wq∧∃k:Nat,k≤n∧iv= .int .i64 k∧sv= .int .u32 (((bs.take k).foldl crcStep (4294967295-s):Nat):Int)) (fun _ iv _=>n-(intOf iv).toNat)
 case atStart=>exact ⟨rfl,0,Nat.zero_le _,rfl,by rw [List.take_zero,List.foldl_nil,bits_not_u32 s hs]⟩
 case round=>
  obtain ⟨rfl,k,hk,rfl,rfl⟩:=hrel
  have hst:=crcFold_lt (bs.take k) (4294967295-s) (by omega)
  generalize hS:(bs.take k).foldl crcStep (4294967295-s)=st at hst ⊢
  by_cases hlt:k<n
  ·obtain ⟨b,o,rfl,hbB,hcell⟩:=(HR.out.below hbq hB).plain (by omega) (by omega)
   have hkb:k<bs.length:=by have:=HN.out;omega
   have hc:=hcell k (byteV bs[k]) (by rw [List.getElem?_map,List.getElem?_eq_getElem hkb];rfl)
   obtain ⟨x,hx⟩:∃x,bs[k]=x:=⟨_,rfl⟩
   rw [hx] at hc
   replace hc:wr.cell? ⟨b,o+k,none⟩=some (.int .u8 ((x.toNat:Nat):Int)):=hc
   have hxl:=x.toNat_lt
   obtain ⟨y,hy⟩:∃y,y=x.toNat:=⟨_,rfl⟩
   rw [← hy] at hc hxl
   have e1:bits BinOp.xor IntKind.u8 ((st:Int)%256) (y:Int)=(((st%256)^^^y:Nat):Int):=bits_xor_u8_nat (st%256) y (by omega) (by omega)
   obtain ⟨z,hz⟩:∃z,z=(st%256)^^^y:=⟨_,rfl⟩
   have hzl:z<256:=by rw [hz];exact Nat.xor_lt_two_pow (n:=8) (by omega) (by omega)
   rw [← hz] at e1
   have qT:wr.cell? ⟨w1.heap.size,z,none⟩=some (.int .u32 (((outT 8).getD z 0:Nat):Int)):=by rw [HX.out.cell];exact HA.out z hzl
   have hTz:=all32_8.getD z
   obtain ⟨u,hu⟩:∃u,u=(outT 8).getD z 0:=⟨_,rfl⟩
   rw [← hu] at qT hTz
   have e2:bits BinOp.xor IntKind.u32 ((st:Int)/256) (u:Int)=(((st/256)^^^u:Nat):Int):=bits_xor_u32_nat (st/256) u (by omega) hTz
   have HS:=hide (show (bs.take (k+1)).foldl crcStep (4294967295-s)=(st/256)^^^u by
    rw [List.take_succ_eq_append_getElem hkb,List.foldl_append,hS,hx]
    show crcStep st x=_
    rw [crcStep, ← hy, ← hz, ← hu])
   clear hS hx hy hz hu hcell hkb hTz
   go_wp2
   go_roundw
   case rel=>exact ⟨trivial,k+1,by omega,by go_num,by rw [HS.out]⟩
   case measure=>simp [intOf];omega
  ·obtain rfl:k=n:=by omega
   rw [HN.out,List.take_length] at hS
   have HS:=hide hS
   clear hS
   go_wp2
   go_ret
   refine ⟨?_,hbq⟩
   rw [moreD,HS.out]
   exact congrArg (fun z=>Ending.returned (Value.int .u32 z)) (bits_not_u32 st hst)
theorem sum_any (A:Option Addr) (n c:Nat) (bs:List UInt8) (B:Nat) (w:World) (hB:B≤w.heap.size) (hm:n≤100000000) (hn:n=bs.length) (hr:Reads w B 1 A n (bs.map byteV)):
  Calls Tryz.prog 166 #[.slice A n c] w fun e w'=>e= .returned (.int .u32 ((moreD 0 bs:Nat):Int))∧Below w.heap.size w w':=by
 have HM:=hide (more_any 0 A n c bs B w (by omega) hB hm hn hr)
 clear hr hn
 go_enter Tryz.func166,Tryz.ntmps166
 go_wp2_with (refine HM.out.mono ?_;rintro e w1 ⟨rfl,hb1⟩)
 go_ret
 exact ⟨rfl,hb1⟩
end Go.Proofs.YtnkjkgmohmcobaaGreatDoor
namespace Go.Proofs.YtnkjkgmohmcobaaGreatDoor
open Go.RowKit
def GivesB (w:World) (n:Nat) (bs:List UInt8) (e:Ending) (w':World):Prop:=∃A c,e= .returned (.slice A n c)∧n=bs.length∧OwnB w' w.heap.size (.slice A n c) bs∧Reads w' w'.heap.size 1 A n (bs.map byteV)∧Below w.heap.size w w'
theorem OwnB.reads {w:World} {base n c:Nat} {A:Option Addr} {bs:List UInt8} (h:OwnB w base (.slice A n c) bs):n=bs.length∧Reads w w.heap.size 1 A n (bs.map byteV):=by
 obtain ⟨A',c',e,_,_,_,hr,_⟩:=own_slice h
 injection e with e1 e2 e3
 subst e1 e2
 exact ⟨rfl,hr⟩
theorem put_gives (width:Nat) (n:Int) (w:World) (hw1:1≤width) (hw8:width≤8):
  Calls Tryz.prog 97 #[.slice none 0 0,.int .i64 (width:Nat),.int .i64 n] w (GivesB w width (beB width n)):=
 (put_nil width n w hw1 hw8).mono fun _ _ ⟨_,_,h1,h2,h3⟩=>⟨_,_,h1,h2.reads.1,h2,h2.reads.2,h3⟩
theorem make_room (P:Program) (m:Nat) (hm:m≤100000000) (hP:P.underlying 24=some (.slice 5)) (hi:(P.info? 5).map (fun i=>(i.zero,i.size,i.bytes))=some (some (.int .u8 0),1,1)):∃X,∀W:World,(Instr.makeSlice 24 (.int .i64 0) (.int .i64 (m:Int))).run P W= .ok (.slice (some ⟨W.heap.size,0,none⟩) 0 m) (W.alloc (.cells X 5))∧OwnB (W.alloc (.cells X 5)) W.heap.size (.slice (some ⟨W.heap.size,0,none⟩) 0 m) []:=by
 obtain ⟨i0,hi,hz0,hz1,hz2⟩:=info_parts hi
 have hmk0:=fun W=>run_make_rowN (P:=P) 24 5 i0 (.int .u8 0) hP hi hz0 .i64 .i64 0 m (Nat.zero_le _) (by rw [hz2];omega) (by omega) W
 rw [hz1,Nat.mul_one] at hmk0
 refine ⟨_,fun W=>⟨hmk0 W,?_⟩⟩
 have hX:=made_u8 m
 have hX:madeCells (Value.int .u8 0).cells m=(List.replicate m (Value.int .u8 0)).toArray:=hX
 rw [hX]
 exact ownB_new (Blk.new _ _ _) (Nat.le_refl _) rfl (Nat.zero_le _) (by unfold maxLen;omega) (by simp) (by simp)
end Go.Proofs.YtnkjkgmohmcobaaGreatDoor
namespace Go.Proofs.YtnkjkgmohmcobaaGreatDoor
open Go.RowKit
theorem take_snoc_b (s:ByteArray) (k:Nat) (h:k<s.size):s.data.toList.take (k+1)=s.data.toList.take k++[s[k]]:=by
 rw [List.take_succ_eq_append_getElem (by simpa using h)];rfl
end Go.Proofs.YtnkjkgmohmcobaaGreatDoor
namespace Go.Proofs.YtnkjkgmohmcobaaGreatDoor
open Go.RowKit
theorem seen_any (r:Nat) (b:Bool) (hb:decide (33≤r∧r≤126)=b) (w:World):
  Calls Tryz.prog 238 #[.int .i32 (r:Int)] w fun e w'=>e= .returned (.bool b)∧w'=w:=by
 by_cases h1:33≤r
 ·by_cases h2:r≤126
  ·obtain rfl:b=true:=by rw [← hb];simp [h1,h2]
   clear hb
   have g1:(33:Int)≤r:=by omega
   have g2:(r:Int)≤126:=by omega
   go_enter Tryz.func238,Tryz.ntmps238
   go_wp2
   go_ret
   exact ⟨rfl,rfl⟩
  ·obtain rfl:b=false:=by rw [← hb];simp [h2]
   clear hb
   have g1:(33:Int)≤r:=by omega
   have g2:¬(r:Int)≤126:=by omega
   go_enter Tryz.func238,Tryz.ntmps238
   go_wp2
   go_ret
   exact ⟨rfl,rfl⟩
 ·obtain rfl:b=false:=by rw [← hb];simp [h1]
  clear hb
  have g1:¬(33:Int)≤r:=by omega
  go_enter Tryz.func238,Tryz.ntmps238
  go_wp2
  go_ret
  exact ⟨rfl,rfl⟩
def keyE (s:ByteArray):Int:=if goodKey s=true then 0 else 1
theorem keyE_bad {s:ByteArray} {k:Nat} (hlt:k<s.size) (h:okByte s[k]=false):keyE s=1:=by
 have h1:s.data.toList.all okByte=false:=by
  rw [List.all_eq_false]
  refine ⟨s[k],?_,by rw [h];exact Bool.false_ne_true⟩
  have:s[k]=s.data.toList[k]'(by simpa using hlt):=rfl
  rw [this]
  exact List.getElem_mem _
 unfold keyE goodKey
 rw [h1]
 rfl
theorem keyE_len {s:ByteArray} (h:¬(0<s.size∧s.size≤16)):keyE s=1:=by
 unfold keyE goodKey
 rw [if_neg]
 intro hh
 simp only [Bool.and_eq_true,decide_eq_true_eq] at hh
 exact h hh.2
theorem keyCheck_any (s:ByteArray) (w:World) (hs:s.size≤9223372036854775807):
  Calls Tryz.prog 174 #[.string s] w fun e w'=>e= .returned (.int .i64 (keyE s))∧Below w.heap.size w w':=by
 by_cases h1:(s.size:Int)<1
 ·have HE:=hide (keyE_len (s:=s) (by omega))
  go_enter Tryz.func174,Tryz.ntmps174
  go_wp2
  go_ret
  exact ⟨ret_int HE.out.symm,Below.refl _ _⟩
 ·by_cases h2:(16:Int)<s.size
  ·have HE:=hide (keyE_len (s:=s) (by omega))
   go_enter Tryz.func174,Tryz.ntmps174
   go_wp2
   go_ret
   exact ⟨ret_int HE.out.symm,Below.refl _ _⟩
  ·go_enter Tryz.func174,Tryz.ntmps174
   go_wp2
   go_loopw [4] (fun _ wr=>∃pos:Nat,pos≤s.size∧wr=w.iter s pos∧(s.data.toList.take pos).all okByte=true) (fun _ wr=>s.size-wr.iterPos w.heap.size)
   case atStart=>exact ⟨0,Nat.zero_le _,rfl,by simp⟩
   case round=>
    obtain ⟨pos,hpos,rfl,hall⟩:=hrel
    have HA:=hide hall
    clear hall
    by_cases hp:pos<s.size
    ·by_cases ha:(s[pos]'hp).toNat<128
     ·have hnx:∀ty,(Instr.next (.pointer (some ⟨w.heap.size,0,none⟩)) true ty).run Tryz.prog (w.iter s pos)=_:=fun ty=>run_next_ascii w s pos ty hp ha
      cases hok:okByte s[pos]
      ·have HE:=hide (keyE_bad hp hok)
       have HS:=hide (fun W=>seen_any (s[pos]'hp).toNat false hok W)
       clear hok
       go_wp2_with (go_at_call 238;refine (HS.out _).mono ?_;rintro e w' ⟨rfl,rfl⟩)
       go_ret
       exact ⟨ret_int HE.out.symm,(Below.refl _ _).alloc (Nat.le_refl _) _⟩
      ·have HS:=hide (fun W=>seen_any (s[pos]'hp).toNat true hok W)
       have HO:=hide hok
       clear hok
       go_wp2_with (go_at_call 238;refine (HS.out _).mono ?_;rintro e w' ⟨rfl,rfl⟩)
       go_roundw
       case rel=>
        refine ⟨pos+1,by omega,rfl,?_⟩
        rw [take_snoc_b s pos hp,List.all_append,HA.out]
        simp [HO.out]
       case measure=>simp;omega
     ·have hnx:∀ty,(Instr.next (.pointer (some ⟨w.heap.size,0,none⟩)) true ty).run Tryz.prog (w.iter s pos)=_:=fun ty=>run_next_any w s pos ty hp
      have hdh:=decode_high s pos hp (by omega)
      have HS:=hide (fun W=>seen_any (Utf8.decode s pos).1 false (by simp;omega) W)
      have HE:=hide (keyE_bad hp (by unfold okByte;simp;omega))
      clear hdh
      go_wp2_with (go_at_call 238;refine (HS.out _).mono ?_;rintro e w' ⟨rfl,rfl⟩)
      go_ret
      exact ⟨ret_int HE.out.symm,(Below.refl _ _).alloc (Nat.le_refl _) _⟩
    ·have hnx:∀ty,(Instr.next (.pointer (some ⟨w.heap.size,0,none⟩)) true ty).run Tryz.prog (w.iter s pos)=_:=fun ty=>run_next_end w s pos ty hp
     go_wp2
     go_ret
     refine ⟨ret_int (Eq.symm ?_),(Below.refl _ _).alloc (Nat.le_refl _) _⟩
     have hall:=HA.out
     rw [List.take_of_length_le (by simp;omega)] at hall
     unfold keyE goodKey
     rw [hall,if_pos]
     simp
     omega
end Go.Proofs.YtnkjkgmohmcobaaGreatDoor
namespace Go.Proofs.YtnkjkgmohmcobaaGreatDoor
open Go.RowKit
theorem bytesEqual_any (A A':Option Addr) (n c n' c':Nat) (bs cs:List UInt8) (B:Nat) (w:World) (h:Reads w B 1 A n (bs.map byteV)) (h':Reads w B 1 A' n' (cs.map byteV)):
  Calls Tryz.prog 235 #[.slice A n c,.slice A' n' c'] w fun e w'=>e= .returned (.bool (bs==cs))∧w'=w:=by
 have r1:=run_string_of (c:=c) h 24 5 9 Tryz.underlying24 Tryz.underlying5 Tryz.underlying9
 have r2:=run_string_of (c:=c') h' 24 5 9 Tryz.underlying24 Tryz.underlying5 Tryz.underlying9
 go_enter Tryz.func235,Tryz.ntmps235
 go_wp2
 go_ret
 exact ⟨rfl,rfl⟩
theorem cSame_any (a b:CellD) (av bv:Value) (B:Nat) (w:World) (hB:B≤w.heap.size) (ha:BytesAt w B av a.data) (hb:BytesAt w B bv b.data):
  Calls Tryz.prog 345 #[.agg #[.int .i64 a.kind,av,.int .i64 a.lo,.int .i64 a.hi,.int .i64 a.val],.agg #[.int .i64 b.kind,bv,.int .i64 b.lo,.int .i64 b.hi,.int .i64 b.val]] w fun e w'=>
   e= .returned (.bool (cellEq a b))∧Below w.heap.size w w':=by
 obtain ⟨A,n,c,rfl,_,_,hl1,_,hr1⟩:=ha
 obtain ⟨A',n',c',rfl,_,_,hl2,_,hr2⟩:=hb
 clear hl1 hl2
 have hs:=fun o1 o2=>bytesEqual_any A A' n c n' c' a.data b.data B ((w.alloc o1).alloc o2) ((hr1.alloc hB o1).alloc (by simp;omega) o2) ((hr2.alloc hB o1).alloc (by simp;omega) o2)
 have hb2:=fun o1 o2=>below2 w o1 o2
 have HS:=hide hs
 clear hs
 unfold cellEq
 generalize (a.data==b.data)=ds at*
 cases h1:(a.kind==b.kind)
 ·go_enter Tryz.func345,Tryz.ntmps345
  go_wp2
  go_ret
  exact ⟨by simp,hb2 _ _⟩
 ·cases ds
  ·go_enter Tryz.func345,Tryz.ntmps345
   go_wp2_with (go_at_call 235;refine (HS.out _ _).mono ?_;rintro e w' ⟨rfl,rfl⟩)
   go_ret
   exact ⟨by simp,hb2 _ _⟩
  ·cases h3:(a.lo==b.lo)
   ·go_enter Tryz.func345,Tryz.ntmps345
    go_wp2_with (go_at_call 235;refine (HS.out _ _).mono ?_;rintro e w' ⟨rfl,rfl⟩)
    go_ret
    exact ⟨by simp,hb2 _ _⟩
   ·cases h4:(a.hi==b.hi)
    ·go_enter Tryz.func345,Tryz.ntmps345
     go_wp2_with (go_at_call 235;refine (HS.out _ _).mono ?_;rintro e w' ⟨rfl,rfl⟩)
     go_ret
     exact ⟨by simp,hb2 _ _⟩
    ·go_enter Tryz.func345,Tryz.ntmps345
     go_wp2_with (go_at_call 235;refine (HS.out _ _).mono ?_;rintro e w' ⟨rfl,rfl⟩)
     go_ret
     exact ⟨by simp,hb2 _ _⟩
end Go.Proofs.YtnkjkgmohmcobaaGreatDoor
namespace Go.Proofs.YtnkjkgmohmcobaaGreatDoor
open Go.RowKit
def cellE (d:CellD):Int:=if rightC d=true then 0 else 1
theorem cellCheck_any (d:CellD) (A:Option Addr) (n c:Nat) (w:World) (hn:n=d.data.length):
  Calls Tryz.prog 296 #[.agg #[.int .i64 d.kind,.slice A n c,.int .i64 d.lo,.int .i64 d.hi,.int .i64 d.val]] w fun e w'=>e= .returned (.int .i64 (cellE d))∧Below w.heap.size w w':=by
 have HN:=hide hn
 clear hn
 go_enter Tryz.func296,Tryz.ntmps296
 go_wp2
 all_goals
  go_ret
  refine ⟨ret_int ?_,(Below.refl _ _).alloc (Nat.le_refl _) _⟩
  have hn:=HN.out
  clear HN
  unfold cellE rightC
  simp_all<;>omega
structure AddS (W0:World) (bo bc:Nat) (t:TypeId) (cs:Array Value) (bs:List UInt8) (W:World):Prop where
 hb:W0.heap.size≤bo
 he:bo≠bc
 hd:bc<bo
 ht:t≠5
 kO:∃v,Blk W bo 24 #[v]∧OwnB W W0.heap.size v bs
 kC:Blk W bc t cs
 bw:Below W0.heap.size W0 W
theorem AddS.via {W0 W W':World} {bo bc:Nat} {t:TypeId} {cs:Array Value} {bs:List UInt8} (h:AddS W0 bo bc t cs bs W) (hb:Below W.heap.size W W'):AddS W0 bo bc t cs bs W':=by
 obtain ⟨v,k,o⟩:=h.kO
 exact ⟨h.hb,h.he,h.hd,h.ht,⟨v,Blk.via hb k,o.via hb⟩,Blk.via hb h.kC,below_via h.bw hb h.bw.size⟩
theorem AddS.row5 {W0 W:World} {bo bc:Nat} {t:TypeId} {a b c d e:Value} {bs:List UInt8} (h:AddS W0 bo bc t #[a,b,c,d,e] bs W):W.cell? ⟨bc,0,none⟩=some a∧W.cell? ⟨bc,1,none⟩=some b∧W.cell? ⟨bc,2,none⟩=some c∧W.cell? ⟨bc,3,none⟩=some d∧W.cell? ⟨bc,4,none⟩=some e:=
 ⟨h.kC.cell 0,h.kC.cell 1,h.kC.cell 2,h.kC.cell 3,h.kC.cell 4⟩
def AddP (W0:World) (bo bc:Nat) (t:TypeId) (cs:Array Value) (bs:List UInt8) (e:Ending) (w':World):Prop:=(∃v,e= .returned v)∧AddS W0 bo bc t cs bs w'
theorem cellAdd (W0:World) (bo bc:Nat) (t:TypeId) (cs:Array Value) (bs:List UInt8) (width:Nat) (n:Int) (w:World) (hw1:1≤width) (hw8:width≤8) (hS:AddS W0 bo bc t cs bs w) (hl:bs.length≤10000000):
  Calls Tryz.prog 346 #[.int .i64 (width:Nat),.int .i64 n,.pointer (some ⟨bo,0,none⟩)] w (AddP W0 bo bc t cs (bs++beB width n)):=by
 obtain ⟨v,k0,o0⟩:=hS.kO
 have kC:=hS.kC
 have hbw:=hS.bw
 have hB0:=hS.hb
 have hne:=hS.he
 have hlt:=hS.hd
 have HTn:=hide hS.ht
 have hz0:=hbw.size
 obtain ⟨A,c,rfl,junk⟩:=own_slice o0
 have HO:=hide o0
 have HK:=hide k0
 have HC:=hide kC
 have HQ:=hide (fun W (hW:Below w.heap.size w W)=>(show W.cell? ⟨bo,0,none⟩=some (.slice A bs.length c) from (hW.cell (p:=⟨bo,0,none⟩) k0.lt).trans (k0.cell 0)))
 have HP:=hide (fun W=>put_gives width n W hw1 hw8)
 obtain ⟨i0,hi,hz0',hz1,hz2⟩:=info_parts info_u8R
 have jb:=(Below.refl w.heap.size w).drew
 clear hS o0 k0 kC junk
 go_enter Tryz.func346,Tryz.ntmps346
 have e1:=HQ.out _ jb
 go_region_law (first
  |(go_simp;go_at_call 97;(with_reducible refine (HP.out _).mono ?_);rintro e w3 ⟨A3,c3,rfl,hn3,ho3,hr3,hb3⟩;clear hn3;have jb3:=below_via jb hb3 jb.size;have e3:=HQ.out _ jb3;have own3:=HO.out.via jb3;have k3:=Blk.via jb3 HK.out;have kc3:=Blk.via jb3 HC.out;have bw3:=below_via hbw jb3 hbw.size;have jz3:=bw3.size;have HR3:=hide hr3;clear hr3 ho3)
  |(refine step_append_any _ (by rfl) (.tmp 5) (.tmp 8) _ (by rfl) W0.heap.size 5 i0 _ 1 1 Tryz.underlying24 hi hz0' hz1 hz2 rfl (by omega) (.slice A bs.length c) bs.length _ (by rfl) own3 _ A3 width c3 _ (by rfl) HR3.out (bytes_one _) (by unfold maxLen;omega) (by omega) (by omega) ?_;intro v4 w4 hown4 hg4 _;obtain ⟨A4,d4,hv4,_⟩:=own_slice hown4;subst hv4;have k4:=k3.keepB own3 (by decide) hg4;have kc4:=kc3.keepB own3 HTn.out hg4;have f4:=k4.frozen 0;have l4:=k4.lt;have e4:=k4.cell 0;have bw4:=bw3.grown hg4 (by omega) (fun q hq=>(own3.lt q hq).1)))
 all_goals go_wp2_with fail
 all_goals
  go_end0
  have ho4:OwnB w4 W0.heap.size (.slice A4 (bs.length+width) d4) (bs++beB width n):=by
   unfold OwnB
   rw [List.length_append,beB_length,List.map_append]
   exact hown4
  exact ⟨⟨_,rfl⟩,hB0,hne,hlt,HTn.out,⟨_,k4.set_ 0 _,ho4.far k4 (by decide) _⟩,kc4.far (p:=⟨bo,0,none⟩) hne.symm _,bw4.setCell (p:=⟨bo,0,none⟩) hB0 _⟩
theorem nameW {w:World} {R:World→Prop} (h:∀W,W=w→R W):R w:=h w rfl
def cellB (d:CellD):List UInt8:=if rightC d=true then (if d.kind=1 then beB 1 d.kind++beB 1 (d.data.length:Nat)++d.data else beB 1 d.kind++beB 8 d.lo++beB 8 d.hi++beB 8 d.val) else []
theorem cellPut_any (d:CellD) (A:Option Addr) (n c:Nat) (B:Nat) (w:World) (hB:B≤w.heap.size) (hn:n=d.data.length) (hr:Reads w B 1 A n (d.data.map byteV)):
  Calls Tryz.prog 298 #[.slice none 0 0,.agg #[.int .i64 d.kind,.slice A n c,.int .i64 d.lo,.int .i64 d.hi,.int .i64 d.val]] w (GivesB w (cellB d).length (cellB d)):=by
 have HC:=hide (fun W=>cellCheck_any d A n c W hn)
 have HR:=hide hr
 have HN:=hide hn
 obtain ⟨i0,hi,hz0,hz1,hz2⟩:=info_parts info_u8R
 obtain ⟨X,hX⟩:=make_room Tryz.prog 34 (by omega) Tryz.underlying24 info_u8R
 have hmk:∀W:World,(Instr.makeSlice 24 (.int .i64 0) (.int .i64 34)).run Tryz.prog W= .ok (.slice (some ⟨W.heap.size,0,none⟩) 0 34) (W.alloc (.cells X 5)):=fun W=>(hX W).1
 have HX:=hide (fun W=>(hX W).2)
 clear hr hn hX
 go_enter Tryz.func298,Tryz.ntmps298
 go_wp2_with (first
  |(refine (HC.out _).mono ?_;rintro e w2 ⟨rfl,hb2⟩)
  |(at_builtin;refine heldG ?_))
 have kc1:=(Blk.new w 41 #[.int .i64 d.kind,.slice A n c,.int .i64 d.lo,.int .i64 d.hi,.int .i64 d.val]).alloc (.cells X 5)
 have o1:OwnB ((w.alloc (.cells #[.int .i64 d.kind,.slice A n c,.int .i64 d.lo,.int .i64 d.hi,.int .i64 d.val] 41)).alloc (.cells X 5)) w.heap.size (.slice (some ⟨w.heap.size+1,0,none⟩) 0 34) []:=by
  have h:=(HX.out (w.alloc (.cells #[.int .i64 d.kind,.slice A n c,.int .i64 d.lo,.int .i64 d.hi,.int .i64 d.val] 41))).low (base':=w.heap.size) (by simp)
  rwa [show (w.alloc (.cells #[.int .i64 d.kind,.slice A n c,.int .i64 d.lo,.int .i64 d.hi,.int .i64 d.val] 41)).heap.size=w.heap.size+1 by simp] at h
 refine unheldG ?_
 at_builtin
 refine wpList_append_any _ rfl _ _ _ rfl w.heap.size 5 i0 _ 1 1 Tryz.underlying24 hi hz0 hz1 hz2 rfl (by omega) _ 0 _ rfl o1 0 none 0 0 [] rfl Reads.none_ (fun _ h=>absurd h (by simp)) (by unfold maxLen;omega) (by omega) (by simp;omega) ?_
 intro v4 w4 ho4 hg4 _
 have kc4:=kc1.keepB o1 (by decide) hg4
 have hb1:Below w.heap.size w ((w.alloc (.cells #[.int .i64 d.kind,.slice A n c,.int .i64 d.lo,.int .i64 d.hi,.int .i64 d.val] 41)).alloc (.cells X 5)):=below2 w _ _
 have hb4:Below w.heap.size w w4:=hb1.grown hg4 (by simp;omega) (fun q hq=>(o1.lt q hq).1)
 have ho4:OwnB w4 w.heap.size v4 []:=ho4
 obtain ⟨A4,c4,rfl,junk⟩:=own_slice ho4
 have KC4:=hide kc4
 have HO4:=hide ho4
 have hz4:=kc4.lt
 clear junk kc4 ho4 hg4 o1 kc1 hb1
 go_upto_region 2 with (fail)
 refine gen1 (R:=fun W=>Code.wp _ _ _ _ W) (fun W5 k5 hb5 hz5=>?_)
 have hS5:AddS w w4.heap.size w.heap.size 41 #[.int .i64 d.kind,.slice A n c,.int .i64 d.lo,.int .i64 d.hi,.int .i64 d.val] [] W5:=
  ⟨hb4.size,by omega,by omega,by decide,⟨_,k5,HO4.out.via hb5⟩,Blk.via hb5 KC4.out,below_via hb4 hb5 hb4.size⟩
 clear hb4
 obtain ⟨q0,q1,q2,q3,q4⟩:=hS5.row5
 have HS5:=hide hS5
 have HA1:=hide (fun (bs:List UInt8) (x:Int) (W:World) (hS:AddS w w4.heap.size w.heap.size 41 #[.int .i64 d.kind,.slice A n c,.int .i64 d.lo,.int .i64 d.hi,.int .i64 d.val] bs W) (hl:bs.length≤10000000)=>(show Calls Tryz.prog 346 #[.int .i64 1,.int .i64 x,.pointer (some ⟨w4.heap.size,0,none⟩)] W (AddP w w4.heap.size w.heap.size 41 #[.int .i64 d.kind,.slice A n c,.int .i64 d.lo,.int .i64 d.hi,.int .i64 d.val] (bs++beB 1 x)) from cellAdd w w4.heap.size w.heap.size _ _ bs 1 x W (by omega) (by omega) hS hl))
 have HA8:=hide (fun (bs:List UInt8) (x:Int) (W:World) (hS:AddS w w4.heap.size w.heap.size 41 #[.int .i64 d.kind,.slice A n c,.int .i64 d.lo,.int .i64 d.hi,.int .i64 d.val] bs W) (hl:bs.length≤10000000)=>(show Calls Tryz.prog 346 #[.int .i64 8,.int .i64 x,.pointer (some ⟨w4.heap.size,0,none⟩)] W (AddP w w4.heap.size w.heap.size 41 #[.int .i64 d.kind,.slice A n c,.int .i64 d.lo,.int .i64 d.hi,.int .i64 d.val] (bs++beB 8 x)) from cellAdd w w4.heap.size w.heap.size _ _ bs 8 x W (by omega) (by omega) hS hl))
 clear hS5 k5 hb5
 cases hc:rightC d
 ·have HE:=hide (show cellE d=1 by unfold cellE;rw [hc];rfl)
  have HB:=hide (show cellB d=[] by unfold cellB;rw [hc];rfl)
  clear hc
  go_wp2_with fail
  refine (HC.out _).mono ?_
  rintro e w6 ⟨rfl,hb6⟩
  have hS6:=HS5.out.via hb6
  obtain ⟨v6,k6,o6⟩:=hS6.kO
  obtain ⟨A6,c6,rfl,junk⟩:=own_slice o6
  clear junk
  have e6:=k6.cell 0
  have HO6:=hide (show OwnB w6 w.heap.size (.slice A6 0 c6) [] from o6)
  have hbw6:=hS6.bw
  simp only [List.length_nil] at e6
  rw [HE.out]
  clear hS6 k6 o6
  go_wp2
  go_ret
  rw [HB.out]
  exact ⟨A6,c6,rfl,rfl,HO6.out,HO6.out.reads.2,hbw6⟩
 ·have HE:=hide (show cellE d=0 by unfold cellE;rw [hc];rfl)
  have hkd:=rightC_kind hc
  have hlen:d.data.length≤32:=by
   rcases hkd with h|h
   ·exact h.2
   ·rw [h.2];exact Nat.zero_le _
  cases hk:decide (d.kind=1)
  ·have hk1:¬d.kind=1:=by simpa using hk
   have HB:=hide (show cellB d=beB 1 d.kind++beB 8 d.lo++beB 8 d.hi++beB 8 d.val by unfold cellB;rw [hc,if_pos rfl,if_neg hk1])
   clear hc hk hkd
   go_wp2_with fail
   refine (HC.out _).mono ?_
   rintro e w6 ⟨rfl,hb6⟩
   have HS6:=hide (HS5.out.via hb6)
   obtain ⟨q0,q1,q2,q3,q4⟩:=HS6.out.row5
   rw [HE.out]
   go_wp2_with fail
   refine (HA1.out _ _ _ HS6.out (by simp)).mono ?_
   rintro e w7 ⟨⟨v7,rfl⟩,hS7⟩
   have HS7:=hide hS7
   clear q0 q1 q2 q3 q4
   obtain ⟨q0,q1,q2,q3,q4⟩:=hS7.row5
   clear hS7
   go_wp2_with fail
   refine (HA8.out _ _ _ HS7.out (by simp [beB_length])).mono ?_
   rintro e w8 ⟨⟨v8,rfl⟩,hS8⟩
   have HS8:=hide hS8
   clear q0 q1 q2 q3 q4
   obtain ⟨q0,q1,q2,q3,q4⟩:=hS8.row5
   clear hS8
   go_wp2_with fail
   refine (HA8.out _ _ _ HS8.out (by simp [beB_length])).mono ?_
   rintro e w9 ⟨⟨v9,rfl⟩,hS9⟩
   have HS9:=hide hS9
   clear q0 q1 q2 q3 q4
   obtain ⟨q0,q1,q2,q3,q4⟩:=hS9.row5
   clear hS9
   go_wp2_with fail
   refine (HA8.out _ _ _ HS9.out (by simp [beB_length])).mono ?_
   rintro e w10 ⟨⟨v10,rfl⟩,hS10⟩
   obtain ⟨v,k10,o10⟩:=hS10.kO
   obtain ⟨A10,c10,rfl,junk⟩:=own_slice o10
   have e10:=k10.cell 0
   have hbw10:=hS10.bw
   have HO10:=hide o10
   clear junk o10 k10 hS10
   go_wp2
   go_ret
   rw [HB.out]
   refine ⟨A10,c10,by simp,rfl,HO10.out,HO10.out.reads.2,hbw10⟩
  ·obtain hk1:d.kind=1:=by simpa using hk
   have HB:=hide (show cellB d=beB 1 d.kind++beB 1 (d.data.length:Nat)++d.data by unfold cellB;rw [hc,if_pos rfl,if_pos hk1])
   have hkb:(d.kind==1)=true:=by rw [hk1];rfl
   clear hc hk hkd hk1
   go_wp2_with fail
   refine (HC.out _).mono ?_
   rintro e w6 ⟨rfl,hb6⟩
   have HS6:=hide (HS5.out.via hb6)
   obtain ⟨q0,q1,q2,q3,q4⟩:=HS6.out.row5
   rw [HE.out]
   go_wp2_with fail
   refine (HA1.out _ _ _ HS6.out (by simp)).mono ?_
   rintro e w7 ⟨⟨v7,rfl⟩,hS7⟩
   have HS7:=hide hS7
   clear q0 q1 q2 q3 q4
   obtain ⟨q0,q1,q2,q3,q4⟩:=hS7.row5
   clear hS7
   go_wp2_with fail
   refine (HA1.out _ _ _ HS7.out (by simp [beB_length])).mono ?_
   rintro e w8 ⟨⟨v8,rfl⟩,hS8⟩
   have HS8:=hide hS8
   clear q0 q1 q2 q3 q4
   obtain ⟨q0,q1,q2,q3,q4⟩:=hS8.row5
   clear hS8
   obtain ⟨v,k8,o8⟩:=HS8.out.kO
   obtain ⟨A8,c8,rfl,junk⟩:=own_slice o8
   have e8:=k8.cell 0
   have hbw8:=HS8.out.bw
   have HO8:=hide o8
   clear junk o8 k8
   go_wp2_with (at_builtin;refine heldG ?_)
   have hr8:=HR.out.below hbw8 hB
   have hz8:=hbw8.size
   have hl8:(beB 1 d.kind++beB 1 (n:Nat)).length=2:=by simp [beB_length]
   have HO8':=hide (show OwnB w8 w.heap.size (.slice A8 2 c8) (beB 1 d.kind++beB 1 (n:Nat)) by have h:=HO8.out;simp only [List.nil_append] at h;rw [hl8] at h;exact h)
   have hnn:=HN.out
   refine unheldG ?_
   at_builtin
   refine wpList_append_any _ rfl _ _ _ rfl w.heap.size 5 i0 _ 1 1 Tryz.underlying24 hi hz0 hz1 hz2 rfl (by omega) _ 2 _ rfl HO8'.out B _ n c _ rfl hr8 (bytes_one _) (by unfold maxLen;omega) (by omega) (by omega) ?_
   intro v9 w9 ho9 hg9 _
   have hbw9:Below w.heap.size w w9:=hbw8.grown hg9 hz8 (fun q hq=>(HO8'.out.lt q hq).1)
   have hl9:(beB 1 d.kind++beB 1 (n:Nat)++d.data).length=2+n:=by rw [List.length_append,hl8,hnn]
   have ho9:OwnB w9 w.heap.size v9 (beB 1 d.kind++beB 1 (n:Nat)++d.data):=by
    unfold OwnB
    rw [hl9,List.map_append]
    exact ho9
   obtain ⟨A9,c9,rfl,junk⟩:=own_slice ho9
   rw [hl9] at ho9 ⊢
   have HO9:=hide ho9
   have HL9:=hide hl9
   clear junk ho9 hg9 hr8 hl8 hl9 hnn
   go_wp2
   go_ret
   have hl9:=HL9.out
   rw [HN.out] at hl9
   rw [HB.out]
   refine ⟨A9,c9,by rw [← HN.out,HL9.out];rfl,rfl,?_,?_,hbw9⟩
   ·rw [← HN.out,HL9.out];exact HO9.out
   ·rw [← HN.out,HL9.out];exact HO9.out.reads.2
end Go.Proofs.YtnkjkgmohmcobaaGreatDoor
namespace Go.Proofs.YtnkjkgmohmcobaaGreatDoor
open Go.RowKit
def itemV (st:Int) (k:ByteArray) (d:CellD) (cv:Value):Value:= .agg #[.int .i64 st,.string k,.int .i64 d.kind,cv,.int .i64 d.lo,.int .i64 d.hi,.int .i64 d.val]
theorem bytes_none (w:World) (B:Nat):BytesAt w B (.slice none 0 0) []:=⟨none,0,0,rfl,Nat.le_refl _,Nat.zero_le _,rfl,fun _=>rfl,Reads.none_⟩
theorem slotSame_any (st st':Int) (k k':ByteArray) (a b:CellD) (av bv:Value) (B:Nat) (w:World) (hB:B≤w.heap.size) (ha:BytesAt w B av a.data) (hb:BytesAt w B bv b.data):
  Calls Tryz.prog 297 #[itemV st k a av,itemV st' k' b bv] w fun e w'=>e= .returned (.bool ((st==st')&&(k.toList==k'.toList)&&cellEq a b))∧Below w.heap.size w w':=by
 have hb2:=fun o1 o2=>below2 w o1 o2
 have HS:=hide (fun o1 o2=>cSame_any a b av bv B ((w.alloc o1).alloc o2) (by simp;omega) (ha.below (hb2 o1 o2) hB) (hb.below (hb2 o1 o2) hB))
 obtain ⟨A,n,c,rfl,junk⟩:=ha
 obtain ⟨A',n',c',rfl,junk'⟩:=hb
 clear junk junk'
 unfold itemV
 cases h1:(st==st')
 ·go_enter Tryz.func297,Tryz.ntmps297
  go_wp2
  go_ret
  exact ⟨by simp,hb2 _ _⟩
 ·cases h2:(k.toList==k'.toList)
  ·go_enter Tryz.func297,Tryz.ntmps297
   go_wp2
   go_ret
   exact ⟨by simp,hb2 _ _⟩
  ·go_enter Tryz.func297,Tryz.ntmps297
   go_wp2_with (refine (HS.out _ _).mono ?_;rintro e w' ⟨rfl,hb3⟩)
   go_ret
   exact ⟨by simp,below_via (hb2 _ _) hb3 (by simp;omega)⟩
def itemZ (st:Int) (k:ByteArray) (d:CellD):Bool:=(st==0)&&(k.toList==ByteArray.empty.toList)&&cellEq d cell0
def rightI (st:Int) (k:ByteArray) (d:CellD):Bool:=if st=0 then itemZ st k d else decide (st=1∨st=2)&&(goodKey k&&rightC d)
def itemE (st:Int) (k:ByteArray) (d:CellD):Int:=if rightI st k d=true then 0 else 1
theorem slotCheck_any (st:Int) (k:ByteArray) (d:CellD) (dv:Value) (B:Nat) (w:World) (hk:k.size≤1000000) (hB:B≤w.heap.size) (ha:BytesAt w B dv d.data):
  Calls Tryz.prog 231 #[itemV st k d dv] w fun e w'=>e= .returned (.int .i64 (itemE st k d))∧Below w.heap.size w w':=by
 have hb1:=fun o=>(Below.refl w.heap.size w).alloc (Nat.le_refl _) o
 have HS:=hide (fun o=>(show Calls Tryz.prog 297 #[itemV st k d dv,.agg #[.int .i64 0,.string ⟨#[]⟩,.int .i64 0,.slice none 0 0,.int .i64 0,.int .i64 0,.int .i64 0]] (w.alloc o) (fun e w'=>e= .returned (.bool (itemZ st k d))∧Below (w.alloc o).heap.size (w.alloc o) w') from slotSame_any st 0 k .empty d cell0 dv (.slice none 0 0) B (w.alloc o) (by simp;omega) (ha.below (hb1 o) hB) (bytes_none _ _)))
 have HK:=hide (fun W=>keyCheck_any k W (by omega))
 obtain ⟨A,n,c,rfl,_,_,hn,hn'⟩:=ha
 have HC:=hide (fun W=>cellCheck_any d A n c W hn)
 clear hn
 unfold itemV at*
 have HE0:=hide (show itemE st k d=if (if st=0 then itemZ st k d else decide (st=1∨st=2)&&(goodKey k&&rightC d))=true then 0 else 1 from rfl)
 have HK1:=hide (show keyE k=if goodKey k=true then 0 else 1 from rfl)
 have HC1:=hide (show cellE d=if rightC d=true then 0 else 1 from rfl)
 generalize itemZ st k d=z at*
 generalize itemE st k d=ie at*
 generalize keyE k=ke at*
 generalize cellE d=ce at*
 generalize goodKey k=g at*
 generalize rightC d=r at*
 go_enter Tryz.func231,Tryz.ntmps231
 go_wp2_with (first
  |(refine (HS.out _).mono ?_;rintro e w' ⟨rfl,hb3⟩;have hb3':=below_via (hb1 _) hb3 (by simp);clear hb3)
  |(refine (HK.out _).mono ?_;rintro e w1 ⟨rfl,hb3⟩;have kb:=Blk.via hb3 (Blk.new w 95 _);have q2:w1.cell? ⟨w.heap.size,2,none⟩=some _:=kb.cell 2;have q3:w1.cell? ⟨w.heap.size,3,none⟩=some _:=kb.cell 3;have q4:w1.cell? ⟨w.heap.size,4,none⟩=some _:=kb.cell 4;have q5:w1.cell? ⟨w.heap.size,5,none⟩=some _:=kb.cell 5;have q6:w1.cell? ⟨w.heap.size,6,none⟩=some _:=kb.cell 6;have hb3':=below_via (hb1 _) hb3 (by simp);clear kb hb3)
  |(refine (HC.out _).mono ?_;rintro e w2 ⟨rfl,hb4⟩;have hb4':=below_via hb3' hb4 hb3'.size;clear hb4))
 all_goals
  go_ret
  refine ⟨ret_int ?_,by first|assumption|exact hb1 _⟩
  have h1:=HE0.out
  have h2:=HK1.out
  have h3:=HC1.out
  clear HE0 HK1 HC1 HS HK HC
  try clear q2 q3 q4 q5 q6
  rw [h1]
  clear h1 hb1
  subst h2 h3
  clear hn' hk
  cases z<;>cases g<;>cases r<;>simp_all<;>omega
end Go.Proofs.YtnkjkgmohmcobaaGreatDoor
