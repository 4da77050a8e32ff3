/-
  Texts of this claim, joined: Zk, ZJ, JR, Open, OpenX.
-/
import Derived.Deep.Slices
import Derived.ChangeShapes
import Derived.ProofKit
import Derived.OpenShut
import Derived.Test.YtnkjkgmohmcobaaGreatDoorBc22
import Derived.Test.YtnkjkgmohmcobaaGreatDoorBc23
import Derived.Test.YtnkjkgmohmcobaaGreatDoorBc24
import Derived.Test.YtnkjkgmohmcobaaGreatDoorBc25
import Derived.Test.YtnkjkgmohmcobaaGreatDoorBc26
import Derived.Test.YtnkjkgmohmcobaaGreatDoorBc27
import Derived.Test.YtnkjkgmohmcobaaGreatDoorBc28
import Derived.Test.YtnkjkgmohmcobaaGreatDoorBc29
set_option maxHeartbeats 6400000
set_option maxRecDepth 100000
namespace Go.Proofs.YtnkjkgmohmcobaaGreatDoor.Vm
open Go Go.RowKit
theorem lvE (o:Obj):cutV lvN5 (endC envT (evN envT 3000) Tryz.f20.results.toList 0 (List.replicate 1 lvB) (lvL.drop 5) (.mk (ofT 43 lvPT5) 43 []) (.mk (ofH (lvPH5 o)) 3138 [] []))=some (.tuple [.agg [.int .i64 0,.int .i64 0,.nilslice,.int .i64 0,.int .i64 0,.int .i64 0],.bool false],lvH5 o,3139):=by kernel_rfl
end Go.Proofs.YtnkjkgmohmcobaaGreatDoor.Vm
namespace Go.Proofs.YtnkjkgmohmcobaaGreatDoor.Vm
open Go Go.RowKit
theorem lvA5 (o:Obj):∃s',CallOK Tryz.prog 20 [.ptr 188 0,.int .i64 0,.agg [.int .i64 1,.str ⟨#[98]⟩,.nilslice,.int .i64 0,.int .i64 0,.int .i64 0]] (.mk (ofH (lvH4 o)) 1293 [] []) (.tuple [.agg [.int .i64 0,.int .i64 0,.nilslice,.int .i64 0,.int .i64 0,.int .i64 0],.bool false]) s'∧1293≤s'.c∧keepH s'.h lvN5=lvH5 o∧s'.c=3139:=by
 have hev:=evN_ok envOK 3000
 have hl:=locEv envOK.orcLoc 3000
 obtain ⟨s',he,hk,hc⟩:=cutV_of (lvE o)
 obtain ⟨y,s1,e,T,n,s2,vs,h1,h2,h3,h4,h5⟩:=endC_of he
 have c1:=(Loc.runL hl _ _).le h1
 have c2:=(Loc.runL hl _ _).le h2
 have k6:=runL_ok envOK hev hl _ _ _ _ _ h1
 have g5:3138≤s1.c:=c1
 have k5:=cut_ok envOK hev hl (lvP5 o) g5 k6
 rw [List.replicate_append_replicate] at k5
 have g4:2778≤s1.c:=Nat.le_trans (by decide) g5
 have k4:=cut_ok envOK hev hl (lvP4 o) g4 k5
 rw [List.replicate_append_replicate] at k4
 have g3:2418≤s1.c:=Nat.le_trans (by decide) g4
 have k3:=cut_ok envOK hev hl (lvP3 o) g3 k4
 rw [List.replicate_append_replicate] at k3
 have g2:2058≤s1.c:=Nat.le_trans (by decide) g3
 have k2:=cut_ok envOK hev hl (lvP2 o) g2 k3
 rw [List.replicate_append_replicate] at k2
 have g1:1698≤s1.c:=Nat.le_trans (by decide) g2
 have k1:=cut_ok envOK hev hl (lvP1 o) g1 k2
 rw [List.replicate_append_replicate] at k1
 have g0:1298≤s1.c:=Nat.le_trans (by decide) g1
 have kl:=append_ok (loopOut_ok k1) (runL_ok envOK hev hl _ _ _ _ _ h2) g0 c2
 have k0:=cut_ok envOK hev hl (lvP0 o) (Nat.le_trans g0 c2) kl
 rw [← lvL_eq] at k0
 have ha:([.ptr 188 0,.int .i64 0,.agg [.int .i64 1,.str ⟨#[98]⟩,.nilslice,.int .i64 0,.int .i64 0,.int .i64 0]]:List AV).length≤Tryz.f20.ntmps:=Nat.le_of_ble_eq_true (by kernel_rfl)
 have hcc:1293≤s2.c:=Nat.le_trans (Nat.le_trans (by decide) g0) c2
 have hp:=pieces_ok (s:= .mk (ofH (lvH4 o)) 1293 [] []) (s1:=s2) envOK hev hl Tryz.func20 rfl ha hcc k0 h3 h4
 rw [← h5] at hp
 exact ⟨s',hp,by rw [hc];decide,hk,hc⟩
end Go.Proofs.YtnkjkgmohmcobaaGreatDoor.Vm
namespace Go.Proofs.YtnkjkgmohmcobaaGreatDoor.Vm
open Go Go.RowKit
def lvS (w:World) (ob:Obj) (b o:Nat):Nat→World→Prop
 |0=>LvS w 0 ob 188 (lvH0 ob) 189 b o
 |1=>LvS w 0 ob 188 (lvH1 ob) 204 b o
 |2=>LvS w 0 ob 188 (lvH2 ob) 712 b o
 |3=>LvS w 0 ob 188 (lvH3 ob) 727 b o
 |4=>LvS w 0 ob 188 (lvH4 ob) 1293 b o
 |5=>LvS w 0 ob 188 (lvH5 ob) 3139 b o
 |6=>LvS w 0 ob 188 (lvH6 ob) 3957 b o
 |7=>LvS w 0 ob 188 (lvH6 ob) 3957 b o
 |_=>LvS w 0 ob 188 (lvH6 ob) 3957 b o
theorem live28_any (w:World) (ob:Obj) (hob:w.heap[0]?=some ob) (ht:TabO ob):Calls Tryz.prog 6 #[] w fun e w'=>e= .returned (.bool true)∧Below w.heap.size w w':=by
 have hx:∀ρ i d k,LRel ρ [.int .i64 i,.agg [.int .i64 d,.str k,.nilslice,.int .i64 0,.int .i64 0,.int .i64 0]] [.int .i64 i,askO d k]:=fun ρ i d k=>two_rel rfl (op_rel ρ d k)
 have hi:∀ρ i,LRel ρ [AV.int .i64 i] [.int .i64 i]:=fun ρ i=>LRel.cons_iff.2 ⟨_,_,rfl,rfl,LRel.nil_iff.2 rfl⟩
 refine live28_walk (fun b o i W=>lvS w ob b o i W) w ?_ ?_ ?_ ?_ ?_ ?_ ?_
 ·refine (calledG envOK (lvO ob) (lvG0 ob) (SeesG.start hob ht) (us:=#[conf28]) (LRel.cons_iff.2 ⟨_,_,rfl,⟨_,rfl,one_rel rfl rfl rfl (one_rel rfl rfl rfl (one_rel rfl rfl rfl (one_rel rfl rfl rfl (one_rel rfl rfl rfl CRel.nil))))⟩,LRel.nil_iff.2 rfl⟩)).mono ?_
  rintro e W ⟨ρ,u,rfl,hv,_,hs⟩
  obtain ⟨⟨l⟩,rfl,h⟩:=hv
  obtain ⟨u1,l1,e1,_,h2⟩:=LRel.cons_iff.1 h
  obtain ⟨u2,l2,e2,⟨⟨b,o,κ⟩,hp,rfl⟩,h3⟩:=LRel.cons_iff.1 h2
  obtain rfl:=LRel.nil_iff.1 h3
  subst e2
  simp only at e1
  subst e1
  exact ⟨u1,b,o,rfl,ρ,κ,hs,hp⟩
 ·intro i b o W hi5 hs
  rcases (show i=0∨i=1∨i=2∨i=3∨i=4 by omega) with rfl|rfl|rfl|rfl|rfl
  ·exact (lv_call envOK (lvA1 ob) (lvG1 ob) (hx · 0 6 ⟨#[]⟩) hs).mono fun e W' ⟨⟨_,u,h,_⟩,h2⟩=>⟨⟨u,h⟩,h2⟩
  ·exact (lv_call envOK (lvA2 ob) (lvG2 ob) (hx · 0 1 ⟨#[97]⟩) hs).mono fun e W' ⟨⟨_,u,h,_⟩,h2⟩=>⟨⟨u,h⟩,h2⟩
  ·exact (lv_call envOK (lvA3 ob) (lvG3 ob) (hx · 1 6 ⟨#[]⟩) hs).mono fun e W' ⟨⟨_,u,h,_⟩,h2⟩=>⟨⟨u,h⟩,h2⟩
  ·exact (lv_call envOK (lvA4 ob) (lvG4 ob) (hx · 1 1 ⟨#[98]⟩) hs).mono fun e W' ⟨⟨_,u,h,_⟩,h2⟩=>⟨⟨u,h⟩,h2⟩
  ·obtain ⟨s',k1,k2,k3,k4⟩:=lvA5 ob
   exact (lv_ok k1 k2 k3 k4 (lvG5 ob) (hx · 0 1 ⟨#[98]⟩) hs).mono fun e W' ⟨⟨_,u,h,_⟩,h2⟩=>⟨⟨u,h⟩,h2⟩
 ·intro b o W hs
  refine (lv_call envOK (lvA6 ob) (lvG6 ob) (hx · 1 1 ⟨#[97]⟩) hs).mono fun e W' ⟨⟨_,u,h,hv⟩,h2⟩=>?_
  exact ⟨by rw [h,ans_rel hv];rfl,h2⟩
 ·intro b o W hs
  exact (lv_call envOK (lvSt ob) (lvG6 ob) (hi · 0) hs).mono fun e W' ⟨⟨_,u,h,hv⟩,h2⟩=>⟨by rw [h,show u= .int .i64 3 from hv],h2⟩
 ·intro b o W hs
  exact (lv_call envOK (lvTx ob) (lvG6 ob) (hi · 1) hs).mono fun e W' ⟨⟨_,u,h,hv⟩,h2⟩=>⟨by rw [h,show u= .int .i64 0 from hv],h2⟩
 ·intro b o i W W' hs hb
  revert hs
  show lvS w ob b o i W→lvS w ob b o i W'
  unfold lvS
  split<;>exact fun hs=>hs.via hb
 ·intro b o W hs
  obtain ⟨ρ,κ,h,_⟩:=(show LvS w 0 ob _ _ _ b o W from hs)
  exact h.below
end Go.Proofs.YtnkjkgmohmcobaaGreatDoor.Vm
namespace Go.Proofs.YtnkjkgmohmcobaaGreatDoor
open Go.RowKit Go.ChangeShapes Go.WideShapes Go.Deep
theorem cells_op:Tryz.prog.cellsOf 26=6:=by kernel_rfl
theorem cells_int:Tryz.prog.cellsOf 3=1:=by kernel_rfl
theorem cells_u8:Tryz.prog.cellsOf 5=1:=by kernel_rfl
theorem cells_string:Tryz.prog.cellsOf 9=1:=by kernel_rfl
theorem cells_bytes:Tryz.prog.cellsOf 24=1:=by kernel_rfl
theorem list_of5 {α:Type} {l:List α} (h:l.length=5):∃c0 c1 c2 c3 c4,l=[c0,c1,c2,c3,c4]:=by
 match l,h with
 |[c0,c1,c2,c3,c4],_=>exact ⟨_,_,_,_,_,rfl⟩
theorem list_of6 {α:Type} {l:List α} (h:l.length=6):∃c0 c1 c2 c3 c4 c5,l=[c0,c1,c2,c3,c4,c5]:=by
 match l,h with
 |[c0,c1,c2,c3,c4,c5],_=>exact ⟨_,_,_,_,_,_,rfl⟩
theorem some_of {α:Type} {l:List α} {i n:Nat} {o:Option α} (h:o=l[i]?) (hl:l.length=n) (hi:i<n):∃y,o=some y:=⟨l[i]'(by omega),by rw [h,List.getElem?_eq_getElem]⟩
theorem cell_lt' {w:World} {a:Addr} {n:Nat} {v:Value} (h:w.cell? (a.add n)=some v):a.block<w.heap.size:=by
 have:=World.block_lt_of_cell? w _ h
 rwa [block_of_add] at this
theorem byte_back {z:Int} (h:(Lit.int .u8 z).wf=true):byteV (UInt8.ofNat z.toNat)= .int .u8 z:=by
 have hb:=bounds_u8 h
 unfold byteV
 congr 1
 simp only [UInt8.toNat_ofNat']
 omega
section
variable {H:Type} {enc:TypeId × Value→H} {w:World} {base:Nat} {spare:Nat→Bool} {held:Bool}
theorem open_bytes {fuel:Nat} {v:Value} {x:DataW H × List MemPlace} (h:DataW.trod enc Tryz.prog w base spare held fuel 24 [v]=some x):∃bs,BytesAt w w.heap.size v bs:=by
 rcases open_ints Tryz.underlying24 Tryz.underlying5 cells_u8 h with ⟨hcs,_⟩|⟨a,len,cap,zs,hcs,_,hl,hm,hz,_,hcell,hwz⟩
 ·injection hcs with hcs
  subst hcs
  exact ⟨[],none,0,0,rfl,Nat.le_refl _,Nat.zero_le _,rfl,fun _=>rfl,Reads.none_⟩
 ·injection hcs with hcs
  subst hcs
  have hlz:len≤zs.length:=by rw [hz];split<;>omega
  refine ⟨(zs.take len).map (fun z=>UInt8.ofNat z.toNat),some a,len,cap,rfl,hl,hm,by simp;omega,fun h=>(by cases h),by simp;omega,fun hn=>⟨a,rfl,cell_lt' (hcell 0 (by omega)),fun j u hu=>?_⟩⟩
  rw [List.map_map,List.getElem?_map] at hu
  obtain ⟨z,hz1,rfl⟩:=Option.map_eq_some_iff.1 hu
  rw [List.getElem?_take] at hz1
  split at hz1
  ·obtain ⟨hj,e⟩:=List.getElem?_eq_some_iff.1 hz1
   rw [hcell j hj]
   have hw:=hwz z (e▸List.getElem_mem hj)
   simp only [Function.comp_apply,byte_back hw,List.getD,hz1,Option.getD_some]
  ·cases hz1
theorem open_op {fuel:Nat} {cs:List Value} {x:DataW H × List MemPlace} (h:DataW.trod enc Tryz.prog w base spare held fuel 26 cs=some x):
  ∃(d:OpD) (dv:Value),cs=opCells d dv∧BytesAt w w.heap.size dv d.data∧wfI d.act∧wfI d.lo∧wfI d.hi∧wfI d.n∧d.key.size≤maxLen:=by
 obtain ⟨xs,n,_,_,hlen,hxl,hf⟩:=DataW.trod_struct Tryz.underlying26 h
 rw [cells_op] at hlen
 have hxl':xs.length=6:=hxl
 obtain ⟨c0,c1,c2,c3,c4,c5,rfl⟩:=list_of6 hlen
 obtain ⟨y0,j0⟩:=some_of (hf 0 _ rfl) hxl' (by omega)
 have g0:DataW.trod enc Tryz.prog w base spare held n 3 [c0]=some y0:=by simpa [cells_int] using j0
 obtain ⟨y1,j1⟩:=some_of (hf 1 _ rfl) hxl' (by omega)
 have g1:DataW.trod enc Tryz.prog w base spare held n 9 [c1]=some y1:=by simpa [cells_string] using j1
 obtain ⟨y2,j2⟩:=some_of (hf 2 _ rfl) hxl' (by omega)
 have g2:DataW.trod enc Tryz.prog w base spare held n 24 [c2]=some y2:=by simpa [cells_bytes] using j2
 obtain ⟨y3,j3⟩:=some_of (hf 3 _ rfl) hxl' (by omega)
 have g3:DataW.trod enc Tryz.prog w base spare held n 3 [c3]=some y3:=by simpa [cells_int] using j3
 obtain ⟨y4,j4⟩:=some_of (hf 4 _ rfl) hxl' (by omega)
 have g4:DataW.trod enc Tryz.prog w base spare held n 3 [c4]=some y4:=by simpa [cells_int] using j4
 obtain ⟨y5,j5⟩:=some_of (hf 5 _ rfl) hxl' (by omega)
 have g5:DataW.trod enc Tryz.prog w base spare held n 3 [c5]=some y5:=by simpa [cells_int] using j5
 obtain ⟨k,e0,_,w0⟩:=DataW.trod_int Tryz.underlying3 g0
 obtain ⟨ks,e1,_,w1⟩:=DataW.trod_string Tryz.underlying9 g1
 obtain ⟨bs,hbs⟩:=open_bytes g2
 obtain ⟨lo,e3,_,w3⟩:=DataW.trod_int Tryz.underlying3 g3
 obtain ⟨hi,e4,_,w4⟩:=DataW.trod_int Tryz.underlying3 g4
 obtain ⟨nn,e5,_,w5⟩:=DataW.trod_int Tryz.underlying3 g5
 simp only [List.cons.injEq,and_true] at e0 e1 e3 e4 e5
 subst e0 e1 e3 e4 e5
 exact ⟨⟨k,ks,bs,lo,hi,nn⟩,c2,rfl,hbs,w0,w3,w4,w5,w1⟩
end
end Go.Proofs.YtnkjkgmohmcobaaGreatDoor
namespace Go.Proofs.YtnkjkgmohmcobaaGreatDoor
open Go.RowKit Go.ChangeShapes Go.WideShapes Go.Deep
theorem cells_conf5:Tryz.prog.cellsOf 23=5:=by kernel_rfl
section
variable {H:Type} {enc:TypeId × Value→H} {w:World} {base:Nat} {spare:Nat→Bool} {held:Bool}
theorem open_conf5 {r:Reach} {B:Nat} {v:Value} {d:DataW H} {ps:List MemPlace} (hv:Value.okWide Tryz.prog w r B 23 v) (h:DataW.Trod enc Tryz.prog w base spare held 23 v d ps):∃a p f c l,v=confV ⟨a,p,f,c,l⟩:=by
 obtain ⟨cs,rfl,hsz⟩:=okWide_struct Tryz.underlying23 hv
 obtain ⟨ls⟩:=cs
 have hl5:ls.length=5:=hsz.trans cells_conf5
 obtain ⟨c0,c1,c2,c3,c4,rfl⟩:=list_of5 hl5
 obtain ⟨fuel,hf⟩:=h
 obtain ⟨xs,n,_,hx,_,hlen,hg⟩:=DataW.trod_struct Tryz.underlying23 hf
 have hxl':xs.length=5:=hlen
 obtain ⟨y0,j0⟩:=some_of (hg 0 _ rfl) hxl' (by omega)
 have g0:DataW.trod enc Tryz.prog w base spare held n 3 [c0]=some y0:=by simpa [Value.cells,cells_int] using j0
 obtain ⟨y1,j1⟩:=some_of (hg 1 _ rfl) hxl' (by omega)
 have g1:DataW.trod enc Tryz.prog w base spare held n 3 [c1]=some y1:=by simpa [Value.cells,cells_int] using j1
 obtain ⟨y2,j2⟩:=some_of (hg 2 _ rfl) hxl' (by omega)
 have g2:DataW.trod enc Tryz.prog w base spare held n 3 [c2]=some y2:=by simpa [Value.cells,cells_int] using j2
 obtain ⟨y3,j3⟩:=some_of (hg 3 _ rfl) hxl' (by omega)
 have g3:DataW.trod enc Tryz.prog w base spare held n 3 [c3]=some y3:=by simpa [Value.cells,cells_int] using j3
 obtain ⟨y4,j4⟩:=some_of (hg 4 _ rfl) hxl' (by omega)
 have g4:DataW.trod enc Tryz.prog w base spare held n 3 [c4]=some y4:=by simpa [Value.cells,cells_int] using j4
 obtain ⟨t0,e0,_,_⟩:=DataW.trod_int Tryz.underlying3 g0
 obtain ⟨t1,e1,_,_⟩:=DataW.trod_int Tryz.underlying3 g1
 obtain ⟨t2,e2,_,_⟩:=DataW.trod_int Tryz.underlying3 g2
 obtain ⟨t3,e3,_,_⟩:=DataW.trod_int Tryz.underlying3 g3
 obtain ⟨t4,e4,_,_⟩:=DataW.trod_int Tryz.underlying3 g4
 simp only [List.cons.injEq,and_true] at e0 e1 e2 e3 e4
 subst e0 e1 e2 e3 e4
 exact ⟨t0,t1,t2,t3,t4,rfl⟩
theorem open_op1 {r:Reach} {B:Nat} {v:Value} {d:DataW H} {ps:List MemPlace} (hv:Value.okWide Tryz.prog w r B 26 v) (h:DataW.Trod enc Tryz.prog w base spare held 26 v d ps):∃(o:OpD) (dv:Value),v=opVv o dv∧BytesAt w w.heap.size dv o.data:=by
 obtain ⟨cs,rfl,hsz⟩:=okWide_struct Tryz.underlying26 hv
 obtain ⟨ls⟩:=cs
 obtain ⟨fuel,hf⟩:=h
 obtain ⟨o,dv,h1,h2,_⟩:=open_op (fuel:=fuel) (cs:=ls) hf
 exact ⟨o,dv,by rw [h1];rfl,h2⟩
end
end Go.Proofs.YtnkjkgmohmcobaaGreatDoor
