/-
  Texts of this claim, joined: YT, YU, YW, YX, Shelf, YY, YS, YV, YZ.
-/
import Derived.Shelf.Small.Bits
import Derived.Shelf.Small.Strs
import Derived.Shelf.Strconv.Itoa0
import Derived.Shelf.Sort.Plain
import Derived.Ground.Names2Prog
import Derived.Shelf.Slices.Clone
import Derived.Shelf.Slices.SearchI
import Derived.Shelf.Slices.Delete
import Derived.Shelf.Slices.In.SortNone
import Derived.Shelf.Slices.Empties
import Derived.Ground.SlgnProg
import Derived.Shelf.SlicesE.Clone
import Derived.Test.YtnkjkgmohmcobaaGreatDoorBc18
set_option maxHeartbeats 6400000
set_option maxRecDepth 100000
namespace Go.Proofs.YtnkjkgmohmcobaaGreatDoor.Vm
open Go Go.RowKit
noncomputable def globB:AObj→Option Nat
 | .glob g _=>some g
 |_=>none
noncomputable def modeN (p:IntKind × Int):Option Nat:=
 match p with
 |(k,n)=>bif is64 k then (match n with| .ofNat m=>bif Nat.blt m 4 then some m else none| .negSucc _=>none) else none
noncomputable def compatO:List AV→M AV
 |[]=>M.fail "compat"
 |a::r=>
  match r with
  |[]=>M.fail "compat"
  |b::r=>
   match r with
   |[]=>M.bind (M.of (intA a) "compat") fun p=>M.bind (M.of (intA b) "compat") fun q=>M.bind (M.of (modeN p) "compat: mode") fun x=>M.bind (M.of (modeN q) "compat: mode") fun y=>
    M.bind (getM 0) fun o=>M.bind (M.of (globB o) "compat: table") fun g=>bif Nat.beq g 0 then M.pure (.bool (tabL.getD (Nat.add (Nat.mul x 4) y) false)) else M.fail "compat: table"
   |_::_=>M.fail "compat"
theorem Loc.compatO (args:List AV):Loc (compatO args):=by
 unfold Go.Proofs.YtnkjkgmohmcobaaGreatDoor.Vm.compatO
 split
 ·exact Loc.fail _
 ·split
  ·exact Loc.fail _
  ·split
   ·exact Loc.bind (Loc.of _ _) fun _=>Loc.bind (Loc.of _ _) fun _=>Loc.bind (Loc.of _ _) fun _=>Loc.bind (Loc.of _ _) fun _=>Loc.bind (Loc.getM _) fun _=>Loc.bind (Loc.of _ _) fun _=>Loc.cond (Loc.pure _) (Loc.fail _)
   ·exact Loc.fail _
theorem modeN_eq {p:IntKind × Int} {x:Nat} (h:modeN p=some x):p=(.i64,(x:Int))∧x<4:=by
 obtain ⟨k,n⟩:=p
 unfold modeN at h
 simp only at h
 cases hk:is64 k with
 |false=>rw [hk] at h;cases h
 |true=>
  rw [hk] at h
  cases n with
  |negSucc m=>cases h
  |ofNat m=>
   simp only [cond_true] at h
   cases hb:Nat.blt m 4 with
   |false=>rw [hb] at h;cases h
   |true=>
    rw [hb] at h
    injection h with h
    subst h
    exact ⟨by rw [is64_true hk];rfl,blt_true.1 hb⟩
theorem tabL_at:∀a b:Nat,a<4→b<4→tabL[a*4+b]?=some (compat a b):=by
 have h:∀a b:Fin 4,tabL[a.1*4+b.1]?=some (compat a.1 b.1):=by decide
 exact fun a b ha hb=>h ⟨a,ha⟩ ⟨b,hb⟩
def TabO (o:Obj):Prop:=∃(vs:Array Value) (t:TypeId) (k:Nat × Nat),o= .cells vs t k∧∀(i:Nat) (b:Bool),tabL[i]?=some b→vs[i]?=some (.bool b)
section
variable {P:Program} {E:Env} {ρ:Ren} {s s':St} {w w':World}
theorem tab_of_glob {h:Tr AObj} {o:Obj} (hw:WRel ρ h w) (hn:h.get 0=some (.glob 0 o)):Tab w:=by
 obtain ⟨p,ob,h1,h2,h3,rfl,vs,t,k,rfl,h6⟩:=hw.at_ _ _ hn
 rw [h3] at h2
 intro a b ha hb
 unfold World.cell?
 simp only [h2]
 exact h6 _ _ (tabL_at a b ha hb)
theorem compat_ok {args:List AV} {v:AV} (h:compatO args s= .ok v s'):CallOK Tryz.prog 303 args s v s':=by
 unfold compatO at h
 split at h
 ·exact (M.fail_ok.1 h).elim
 ·rename_i a r
  split at h
  ·exact (M.fail_ok.1 h).elim
  ·rename_i b r
   split at h
   rotate_left
   ·exact (M.fail_ok.1 h).elim
   intro ρ w us n hw hf hu
   obtain ⟨p,s1,h1,h2⟩:=M.bind_ok.1 h
   obtain ⟨hp,rfl⟩:=of_ok2 h1
   obtain ⟨q,s2,h3,h4⟩:=M.bind_ok.1 h2
   obtain ⟨hq,rfl⟩:=of_ok2 h3
   obtain ⟨x,s3,h5,h6⟩:=M.bind_ok.1 h4
   obtain ⟨hx,rfl⟩:=of_ok2 h5
   obtain ⟨y,s4,h7,h8⟩:=M.bind_ok.1 h6
   obtain ⟨hy,rfl⟩:=of_ok2 h7
   obtain ⟨o,s5,h9,h10⟩:=M.bind_ok.1 h8
   obtain ⟨k1,k2⟩:=getM_alike h9
   obtain ⟨g,s6,h11,h12⟩:=M.bind_ok.1 h10
   obtain ⟨hg,rfl⟩:=of_ok2 h11
   cases hb:Nat.beq g 0 with
   |false=>rw [bif_false _ _ hb] at h12;exact (M.fail_ok.1 h12).elim
   |true=>
    rw [bif_true _ _ hb] at h12
    obtain ⟨rfl,rfl⟩:=M.pure_ok.1 h12
    obtain rfl:=Nat.eq_of_beq_eq_true hb
    obtain ⟨ob,rfl⟩:∃ob,o= .glob 0 ob:=by
     cases o<;>simp only [globB,Option.some.injEq,reduceCtorEq] at hg
     subst hg
     exact ⟨_,rfl⟩
    obtain ⟨rfl,hx4⟩:=modeN_eq hx
    obtain ⟨rfl,hy4⟩:=modeN_eq hy
    obtain ⟨u,r',e,g1,g2⟩:=LRel.cons_iff.1 hu
    obtain ⟨u2,r2,rfl,g3,g4⟩:=LRel.cons_iff.1 g2
    rw [LRel.nil_iff.1 g4] at e
    have hu1:=intA_rel hp g1
    have hu2:=intA_rel hq g3
    obtain rfl:us= #[.int .i64 (x:Int),.int .i64 (y:Int)]:=Array.ext' (by rw [e,hu1,hu2])
    refine callsIn_wide.2 ((Compat_any x y w (by omega) (by omega) (by omega) (by omega) (tab_of_glob hw k1)).mono ?_)
    rintro e w' ⟨rfl,rfl⟩
    have e1:tabL.getD (Nat.add (Nat.mul x 4) y) false=compat x y:=by
     rw [List.getD_eq_getElem?_getD,show Nat.add (Nat.mul x 4) y=x*4+y from rfl,tabL_at x y hx4 hy4]
     rfl
    exact ⟨ρ,_,rfl,by rw [e1];rfl,hw.alike k2,Stp.alike k2⟩
end
end Go.Proofs.YtnkjkgmohmcobaaGreatDoor.Vm
namespace Go.Proofs.YtnkjkgmohmcobaaGreatDoor.Vm
open Go Go.RowKit
def insI (x:Int):List Int→List Int
 |[]=>[x]
 |y::r=>bif decide (x≤y) then x::y::r else y::insI x r
def sortI:List Int→List Int
 |[]=>[]
 |x::r=>insI x (sortI r)
noncomputable def keysI:List Ent→Option (List Int)
 |[]=>some []
 |e::r=>
  match intA e.1 with
  |none=>none
  |some p=>bif is64 p.1 then
    match keysI r with
    |none=>none
    |some l=>some (p.2::l)
   else none
noncomputable def freshW (b clock:Nat):List Ent→Bool
 |[]=>Nat.blt b clock
 |e::r=> !(Nat.beq b e.2.2)&&freshW b clock r
noncomputable def okW (clock:Nat):List Ent→Bool
 |[]=>true
 |e::r=>freshW e.2.2 clock r&&okW clock r
noncomputable def waitV (l:List Int):M AV:=
 match l with
 |[]=>M.fail "waiting: none"
 |x::r=>M.bind (newM (.row 3 ((sortI (x::r)).map fun n=> .int .i64 n))) fun b=>M.pure (.slice b 0 (x::r).length none 1)
noncomputable def waitN (q:List Ent × Nat):M AV:=bif okW q.2 q.1&&Nat.ble q.1.length 1000 then M.bind (M.of (keysI q.1) "waiting: keys") fun l=>waitV l else M.fail "waiting: entries"
noncomputable def waitingO:List AV→M AV
 |[]=>M.fail "waiting"
 |a::r=>
  match r with
  |[]=>M.bind (M.of (addrA a) "waiting") fun p=>M.bind (loadI false 1 (.ptr p.1 (Nat.add p.2 3))) fun v=>M.bind (M.of (mapA v) "waiting: map") fun m=>M.bind (M.of m "waiting: nil") fun n=>M.bind (mapM n) fun q=>waitN q
  |_::_=>M.fail "waiting"
theorem Loc.waitV (l:List Int):Loc (waitV l):=by
 unfold Go.Proofs.YtnkjkgmohmcobaaGreatDoor.Vm.waitV
 split
 ·exact Loc.fail _
 ·exact Loc.bind (Loc.newM _) fun _=>Loc.pure _
theorem Loc.waitN (q:List Ent × Nat):Loc (waitN q):=Loc.cond (Loc.bind (Loc.of _ _) fun _=>Loc.waitV _) (Loc.fail _)
theorem Loc.waitingO (args:List AV):Loc (waitingO args):=by
 unfold Go.Proofs.YtnkjkgmohmcobaaGreatDoor.Vm.waitingO
 split
 ·exact Loc.fail _
 ·split
  ·exact Loc.bind (Loc.of _ _) fun _=>Loc.bind (Loc.loadI _ _ _) fun _=>Loc.bind (Loc.of _ _) fun _=>Loc.bind (Loc.of _ _) fun _=>Loc.bind (Loc.mapM _) fun _=>Loc.waitN _
  ·exact Loc.fail _
def Rising:List Int→Prop
 |[]=>True
 |x::r=>(∀y∈r,x≤y)∧Rising r
theorem insI_perm (x:Int):∀l:List Int,(insI x l).Perm (x::l)
 |[]=>List.Perm.refl _
 |y::r=>by
  unfold insI
  cases h:decide (x≤y) with
  |true=>exact List.Perm.refl _
  |false=>exact ((insI_perm x r).cons y).trans (List.Perm.swap x y r)
theorem sortI_perm:∀l:List Int,(sortI l).Perm l
 |[]=>List.Perm.refl _
 |x::r=>(insI_perm x (sortI r)).trans ((sortI_perm r).cons x)
theorem insI_rising (x:Int):∀l:List Int,Rising l→Rising (insI x l)
 |[],_=>⟨fun _ h=>(by cases h),trivial⟩
 |y::r,h=>by
  unfold insI
  cases hd:decide (x≤y) with
  |true=>
   have h1:=of_decide_eq_true hd
   exact ⟨fun z hz=>by
    rcases List.mem_cons.1 hz with rfl|hz
    ·exact h1
    ·exact Int.le_trans h1 (h.1 z hz),h⟩
  |false=>
   have h1:=of_decide_eq_false hd
   refine ⟨fun z hz=>?_,insI_rising x r h.2⟩
   rcases List.mem_cons.1 ((insI_perm x r).mem_iff.1 hz) with rfl|hz
   ·omega
   ·exact h.1 z hz
theorem sortI_rising:∀l:List Int,Rising (sortI l)
 |[]=>trivial
 |x::r=>insI_rising x _ (sortI_rising r)
theorem rising_eq:∀{l m:List Int},Rising l→Rising m→l.Perm m→l=m
 |[],m,_,_,h=>(List.Perm.nil_eq h)
 |x::r,m,h1,h2,h=>by
  cases m with
  |nil=>exact absurd h.symm (by simp)
  |cons y s=>
   have hx:x=y:=by
    have m1:x∈y::s:=h.mem_iff.1 List.mem_cons_self
    have m2:y∈x::r:=h.mem_iff.2 List.mem_cons_self
    rcases List.mem_cons.1 m1 with e|m1
    ·exact e
    ·rcases List.mem_cons.1 m2 with e|m2
     ·exact e.symm
     ·exact Int.le_antisymm (h1.1 y m2) (h2.1 x m1)
   subst hx
   rw [rising_eq h1.2 h2.2 ((List.perm_cons x).1 h)]
end Go.Proofs.YtnkjkgmohmcobaaGreatDoor.Vm
namespace Go.Proofs.YtnkjkgmohmcobaaGreatDoor.Vm
open Go Go.RowKit Go.Maps
def keyB (es:List MapEntry) (b:Nat):Int:=
 match es.find? (fun x=>x.born==b) with
 |some x=>(match x.key with| .int _ n=>n|_=>0)
 |none=>0
theorem keyB_at:∀{es:List MapEntry} {x:MapEntry} {k:IntKind} {n:Int},(es.map (·.born)).Nodup→x∈es→x.key= .int k n→keyB es x.born=n
 |[],_,_,_,_,h,_=>by cases h
 |y::r,x,k,n,hn,hx,hk=>by
  unfold keyB
  rw [List.find?_cons]
  by_cases e:y.born=x.born
  ·have hyx:y=x:=by
    rcases List.mem_cons.1 hx with h|h
    ·exact h.symm
    ·exact absurd (List.mem_map.2 ⟨x,h,e.symm⟩) (List.nodup_cons.1 hn).1
   subst hyx
   simp [hk]
  ·rw [show (y.born==x.born)=false from beq_eq_false_iff_ne.2 e]
   have hx':x∈r:=by
    rcases List.mem_cons.1 hx with h|h
    ·exact absurd (by rw [h]) e
    ·exact h
   exact keyB_at (List.nodup_cons.1 hn).2 hx' hk
end Go.Proofs.YtnkjkgmohmcobaaGreatDoor.Vm
namespace Go.Proofs.YtnkjkgmohmcobaaGreatDoor.Vm
open Go Go.RowKit Go.Maps
open Go.ChangeMaps (setBlock)
open Go.MapKept (heap_set)
def WtI (w:World) (m:Nat) (es:Array MapEntry) (clock:Nat) (v:Value) (wr:World):Prop:=
 ∃(seen:Array Nat) (c0:Nat),wr.heap[w.heap.size]?=some (.mapIter (some m) clock seen c0)∧clock≤c0∧seen.toList.Nodup∧(∀b∈seen.toList,∃x∈es.toList,x.born=b)∧
  wr.ownsRow (w.heap.size+1) 3 1 v seen.size ((seen.toList.map (keyB es.toList)).map (Value.int .i64))∧Below w.heap.size w wr∧seen.size+(leftOf es seen).size≤es.size
theorem waiting_any (w:World) (t ot m:Nat) (td:TypeId) (D:Array Value) (es:Array MapEntry) (clock:Nat) (kd:Blk w t td D) (hd:D[ot+3]?=some (.map (some m))) (hm:w.heap[m]?=some (.map es clock))
  (hes:∀x∈es.toList,∃n:Int,x.key= .int .i64 n) (hb:∀x∈es.toList,x.born<clock) (hnd:(es.toList.map (·.born)).Nodup) (hlen:es.size≤1000) (R:Ending→World→Prop)
  (hsort:∀(v:Value) (W:World) (seen:List Nat),seen.Perm (es.toList.map (·.born))→W.ownsRow (w.heap.size+1) 3 1 v seen.length ((seen.map (keyB es.toList)).map (Value.int .i64))→Below w.heap.size w W→Calls Tryz.prog 157 #[v] W fun e w'=>(∃u,e= .returned u)∧R (.returned v) w'):
  Calls Tryz.prog 244 #[.pointer (some ⟨t,ot,none⟩)] w R:=by
 have hml:=heap_at hm
 have HRN:=hide (run_range_map (P:=Tryz.prog) w 199 3 261 m es clock Tryz.underlying199 hm)
 have HKM:=hide (fun W (h:Below w.heap.size w W)=>(show W.heap[m]?=some (.map es clock) from (h.block m hml).trans hm))
 have HES:=hide hes
 have HB:=hide hb
 have HND:=hide hnd
 have HSO:=hide hsort
 have HST:=hide (show WtI w m es clock (.slice none 0 0) (w.alloc (.mapIter (some m) clock #[] clock)) from
  ⟨#[],clock,heap_alloc_new _ _,Nat.le_refl _,List.nodup_nil,(fun b hb=>by simp at hb),World.ownsRow_nil _ _ _ _,(Below.refl _ _).alloc (Nat.le_refl _) _,by unfold leftOf;rw [Array.size_empty,Nat.zero_add];exact Array.size_filter_le⟩)
 have q1:w.cell? ⟨t,ot+3,none⟩=some _:=(kd.cell (ot+3)).trans hd
 have ql:=kd.lt
 clear kd hm hes hb hnd hsort hd
 go_enter Tryz.func244,Tryz.ntmps244
 go_wp2_with (first
  |(refine wpList_range_raw rfl _ _ rfl _ _ rfl HRN.out ?_)
  |go_in)
 go_frame
 clear q1 ql
 go_loopw [3,4] (fun v _ wr=>WtI w m es clock v wr) (fun _ _ wr=>wr.rangeLeft m w.heap.size)
 case atStart=>exact HST.out
 case round=>
  obtain ⟨seen,c0,hr,hc0,hn,hs,ho,hbw,hsz⟩:=hrel
  have HZ:=hide hsz
  have HR:=hide hr
  have HN:=hide hn
  have HS:=hide hs
  have HO:=hide ho
  have HBW:=hide hbw
  clear hr hn hs ho hbw hsz
  go_wp2_with (first
   |(refine wpList_next_at rfl _ rfl w.heap.size m clock c0 seen es clock rfl HR.out (HKM.out _ HBW.out) HB.out hc0 ?_ ?_)
   |go_in)
  ·intro h0
   have hall:=all_seen es seen h0
   have hpm:seen.toList.Perm (es.toList.map (·.born)):=(List.perm_ext_iff_of_nodup HN.out HND.out).2 fun b=>⟨fun h=>by
     obtain ⟨x,h1,h2⟩:=HS.out b h
     exact List.mem_map.2 ⟨x,h1,h2⟩,fun h=>by
     obtain ⟨x,h1,rfl⟩:=List.mem_map.1 h
     have:=hall x h1
     simpa using this⟩
   have HSW:=hide (HSO.out _ _ seen.toList hpm (by rw [Array.length_toList];exact HO.out) HBW.out)
   clear h0 hall hpm
   go_wp2_with fail
   refine HSW.out.mono ?_
   rintro e W3 ⟨⟨u,rfl⟩,hR⟩
   go_wp2
   exact hR
  ·intro x w1 hx hal
   obtain ⟨hxm,hxs⟩:=mem_left hx
   obtain ⟨k,hkey⟩:=HES.out x hxm
   rw [hkey]
   have hsh:=left_shrinks es seen x hx
   refine nameW (w:=setBlock _ _ _) (R:=fun V=>wpList _ _ _ _ _ V) (fun W2 hW2=>?_)
   have hset:=heap_set (o':= .mapIter (some m) clock (seen.push x.born) clock) (show w1.heap[w.heap.size]?=some (.mapIter (some m) clock seen c0) by rw [hal.1];exact HR.out)
   have hset1:W2.heap[w.heap.size]?=some (.mapIter (some m) clock (seen.push x.born) clock):=by rw [hW2];exact hset.1
   have hset2:∀q,q≠w.heap.size→W2.heap[q]?=w1.heap[q]?:=fun q hq=>by rw [hW2];exact hset.2 q hq
   have hb2:Below w.heap.size w W2:=by
    have hbw:=HBW.out
    refine ⟨?_,?_,?_,?_,fun q hq=>?_⟩
    ·rw [hW2];exact hal.2.1.trans hbw.os
    ·rw [hW2];exact hal.2.2.1.trans hbw.tape
    ·rw [hW2];exact hal.2.2.2.trans hbw.output
    ·rw [hW2];simpa [setBlock,hal.1] using hbw.size
    ·rw [hset2 q (by omega),hal.1]
     exact hbw.block q hq
   have ho2:=row_keep (W':=W2) HO.out (fun q hq=>by
    have h1:=(World.ownsRow.lt HO.out q hq).1
    rw [hset2 q (by omega),hal.1])
   have hen:=run_entry_at (P:=Tryz.prog) W2 w.heap.size m clock seen es clock x hset1 (HKM.out _ hb2) hxm HND.out
   rw [hkey] at hen
   have hsn:(seen.push x.born).toList.map (keyB es.toList)=seen.toList.map (keyB es.toList)++[k]:=by
    rw [Array.toList_push,List.map_append,List.map_singleton,keyB_at HND.out hxm hkey]
   have HSN:=hide hsn
   have HSH:=hide hsh
   have HI2:=hide hset1
   have HB2:=hide hb2
   have HO2:=hide ho2
   have HNN:=hide (show (seen.push x.born).toList.Nodup from by
    rw [Array.toList_push,List.nodup_append]
    refine ⟨HN.out,by simp,fun a ha b hb e=>?_⟩
    rw [List.mem_singleton.1 hb] at e
    rw [e] at ha
    have:seen.contains x.born=true:=by simpa using ha
    rw [hxs] at this
    cases this)
   have HSS:=hide (show ∀b∈(seen.push x.born).toList,∃y∈es.toList,y.born=b from fun b hb=>by
    rw [Array.toList_push] at hb
    rcases List.mem_append.1 hb with h|h
    ·exact HS.out b h
    ·exact ⟨x,hxm,(List.mem_singleton.1 h).symm⟩)
   clear hsn hset hset1 hset2 hb2 ho2 hsh hW2 hal hx hxm hxs hkey
   go_upto_region 7 with (fail)
   clear hen
   obtain ⟨i0,hi0,hz0,hz1,hz2⟩:=info_parts info_intR
   have HIN:=hide (And.intro hi0 (And.intro hz0 (And.intro hz1 hz2)))
   have ha:Below W2.heap.size W2 (W2.alloc (.cells #[.int .i64 k] 3)):=(Below.refl _ _).alloc (Nat.le_refl _) _
   have HOA:=hide (own_via HO2.out ha)
   have HBA:=hide (HB2.out.trans (ha.mono HB2.out.size))
   have hil:w.heap.size<W2.heap.size:=heap_at HI2.out
   have HIA:=hide ((ha.block _ hil).trans HI2.out)
   have KA:=hide (show Blk (W2.alloc (.cells #[.int .i64 k] 3)) W2.heap.size 3 #[.int .i64 k] from Blk.new _ _ _)
   have HIL:=hide hil
   have HSZ:=hide (show seen.size≤1000 from by have:=HZ.out;omega)
   clear hi0 hz0 hz1 hz2 ha hil
   go_wp2_with (at_builtin;refine wpList_append_any _ rfl _ _ _ rfl (w.heap.size+1) 3 i0 _ 1 8 Tryz.underlying163 HIN.out.1 HIN.out.2.1 HIN.out.2.2.1 HIN.out.2.2.2 (by rfl) (by omega) u3 seen.size _ rfl HOA.out (W2.heap.size+1) (some ⟨W2.heap.size,0,none⟩) 1 1 [.int .i64 k] rfl (Reads.of_blk (n:=1) (size:=1) KA.out rfl) (by simp [Value.oneCell']) (by have:=HSZ.out;unfold maxLen;omega) (by have:=HSZ.out;omega) (by have:=HIL.out;have:=HBA.out.size;simp;omega) ?_)
   intro v' W' ho' hg' hloc
   have hrow:∀q,u3.ownBlock=some q→w.heap.size+1≤q:=fun q hq=>(World.ownsRow.lt HOA.out q hq).1
   have hi3:W'.heap[w.heap.size]?=some (.mapIter (some m) clock (seen.push x.born) clock):=(hg'.block _ (heap_at HIA.out) (fun e=>by have:=hrow _ e.symm;omega)).trans HIA.out
   have hb3:Below w.heap.size w W':=HBA.out.grown hg' HBA.out.size (fun q hq=>by have:=hrow q hq;omega)
   have HI3:=hide hi3
   have HB3:=hide hb3
   have HO3:=hide (show W'.ownsRow (w.heap.size+1) 3 1 v' (seen.push x.born).size (((seen.push x.born).toList.map (keyB es.toList)).map (Value.int .i64)) by
    rw [HSN.out,List.map_append,Array.size_push,List.map_singleton,List.map_map]
    exact ho')
   clear hrow hi3 hb3 ho' hg' hloc
   go_wp2
   go_roundw
   case rel=>exact ⟨seen.push x.born,clock,HI3.out,Nat.le_refl _,HNN.out,HSS.out,HO3.out,HB3.out,by have h1:=HZ.out;have h2:=HSH.out;rw [Array.size_push];omega⟩
   case measure=>
    have e1:wr.rangeLeft m w.heap.size=(leftOf es seen).size:=by simp only [World.rangeLeft,HKM.out _ HBW.out,HR.out]
    have e2:W'.rangeLeft m w.heap.size=(leftOf es (seen.push x.born)).size:=by simp only [World.rangeLeft,HKM.out _ HB3.out,HI3.out]
    rw [e1,e2]
    exact HSH.out
end Go.Proofs.YtnkjkgmohmcobaaGreatDoor.Vm
namespace Go.Proofs
open Go.Shelf
def Tryz.lays189_ren:Go.Shelf.Ren:=⟨fun|189=>157|125=>226|257=>225|128=>293|129=>294|294=>284|295=>285|296=>286|297=>287|298=>288|299=>289|216=>290|300=>291|301=>292|328=>339|329=>340|330=>341|331=>342|332=>343|215=>344|343=>370|n=>n,fun|28=>163|3=>3|46=>248|0=>0|51=>250|53=>247|4=>4|183=>385|182=>384|131=>108|5=>5|9=>9|218=>439|222=>443|228=>465|229=>466|n=>n,fun|n=>n⟩
theorem Tryz.lays189:Go.Proofs.Lays.n189 Tryz.prog Tryz.lays189_ren:= {
 mixed:=by kernel_rfl
 f125:=Tryz.func226.trans (congrArg some (by kernel_rfl))
 f128:=Tryz.func293.trans (congrArg some (by kernel_rfl))
 f129:=Tryz.func294.trans (congrArg some (by kernel_rfl))
 f189:=Tryz.func157.trans (congrArg some (by kernel_rfl))
 f215:=Tryz.func344.trans (congrArg some (by kernel_rfl))
 f216:=Tryz.func290.trans (congrArg some (by kernel_rfl))
 f257:=Tryz.func225.trans (congrArg some (by kernel_rfl))
 f294:=Tryz.func284.trans (congrArg some (by kernel_rfl))
 f295:=Tryz.func285.trans (congrArg some (by kernel_rfl))
 f296:=Tryz.func286.trans (congrArg some (by kernel_rfl))
 f297:=Tryz.func287.trans (congrArg some (by kernel_rfl))
 f298:=Tryz.func288.trans (congrArg some (by kernel_rfl))
 f299:=Tryz.func289.trans (congrArg some (by kernel_rfl))
 f300:=Tryz.func291.trans (congrArg some (by kernel_rfl))
 f301:=Tryz.func292.trans (congrArg some (by kernel_rfl))
 f328:=Tryz.func339.trans (congrArg some (by kernel_rfl))
 f329:=Tryz.func340.trans (congrArg some (by kernel_rfl))
 f330:=Tryz.func341.trans (congrArg some (by kernel_rfl))
 f331:=Tryz.func342.trans (congrArg some (by kernel_rfl))
 f332:=Tryz.func343.trans (congrArg some (by kernel_rfl))
 f343:=Tryz.func370.trans (congrArg some (by kernel_rfl))
 t0:=Tryz.underlying0
 a0:=Tryz.isAgg0
 z0:=Tryz.sizeOf0
 v0:=Tryz.zeroValue0
 t3:=Tryz.underlying3
 a3:=Tryz.isAgg3
 z3:=Tryz.sizeOf3
 v3:=Tryz.zeroValue3
 t4:=Tryz.underlying4
 a4:=Tryz.isAgg4
 z4:=Tryz.sizeOf4
 v4:=Tryz.zeroValue4
 t5:=Tryz.underlying5
 a5:=Tryz.isAgg5
 z5:=Tryz.sizeOf5
 v5:=Tryz.zeroValue5
 t9:=Tryz.underlying9
 a9:=Tryz.isAgg9
 z9:=Tryz.sizeOf9
 v9:=Tryz.zeroValue9
 t28:=Tryz.underlying163
 a28:=Tryz.isAgg163
 z28:=Tryz.sizeOf163
 v28:=Tryz.zeroValue163
 t46:=Tryz.underlying248
 a46:=Tryz.isAgg248
 z46:=Tryz.sizeOf248
 v46:=Tryz.zeroValue248
 t51:=Tryz.underlying250
 a51:=Tryz.isAgg250
 z51:=Tryz.sizeOf250
 v51:=Tryz.zeroValue250
 t53:=Tryz.underlying247
 a53:=Tryz.isAgg247
 z53:=Tryz.sizeOf247
 v53:=Tryz.zeroValue247
 t131:=Tryz.underlying108
 a131:=Tryz.isAgg108
 z131:=Tryz.sizeOf108
 v131:=Tryz.zeroValue108
 t182:=Tryz.underlying384
 a182:=Tryz.isAgg384
 z182:=Tryz.sizeOf384
 v182:=Tryz.zeroValue384
 t183:=Tryz.underlying385
 a183:=Tryz.isAgg385
 z183:=Tryz.sizeOf385
 v183:=Tryz.zeroValue385
 t218:=Tryz.underlying439
 a218:=Tryz.isAgg439
 z218:=Tryz.sizeOf439
 v218:=Tryz.zeroValue439
 t222:=Tryz.underlying443
 a222:=Tryz.isAgg443
 z222:=Tryz.sizeOf443
 v222:=Tryz.zeroValue443
 t228:=Tryz.underlying465
 a228:=Tryz.isAgg465
 z228:=Tryz.sizeOf465
 v228:=Tryz.zeroValue465
 t229:=Tryz.underlying466
 a229:=Tryz.isAgg466
 z229:=Tryz.sizeOf466
 v229:=Tryz.zeroValue466}
open Go.Sort Go.RowKit in
theorem Tryz.slices_Sort_int (blk off cap:Nat) (zs:List Int) (w:World) (hH:Holds (Value.int .i64) w blk off zs.toArray) (hblk:blk<w.heap.size) (hsz:zs.length<4611686018427387904):
  Calls Tryz.prog 157 #[.slice (some ⟨blk,off,none⟩) zs.length cap] w fun e w'=>
   e= .returned (.tuple #[])∧∃n os,w'=grow (putRow (Value.int .i64) (Sort.ahead w n) blk off (zs.mergeSort fun x y=>decide (x≤y)).toArray) os:=Any.slices_Sort_int Tryz.lays189 blk off cap zs w hH hblk hsz
end Go.Proofs
namespace Go.Proofs.YtnkjkgmohmcobaaGreatDoor.Vm
open Go Go.RowKit Go.Sort
section
variable {ρ:Ren} {s s':St} {w w':World}
theorem freshW_rel {b clock:Nat} :∀{l:List Ent} {ms:List MapEntry},freshW b clock l=true→ERel ρ l ms→b<clock∧∀x∈ms,x.born≠b
 |[],ms,h,e=>⟨blt_true.1 h,fun x hx=>by rw [show ms=[] from e] at hx;cases hx⟩
 |e::r,ms,h,⟨y,l',e1,h2,h3,h4,h5⟩=>by
  subst e1
  unfold freshW at h
  simp only [Bool.and_eq_true,Bool.not_eq_true'] at h
  obtain ⟨g1,g2⟩:=freshW_rel h.2 h5
  refine ⟨g1,fun x hx=>?_⟩
  rcases List.mem_cons.1 hx with rfl|hx
  ·rw [h4]
   intro e
   rw [e,Nat.beq_refl] at h
   cases h.1
  ·exact g2 x hx
theorem okW_rel {clock:Nat} :∀{l:List Ent} {ms:List MapEntry},okW clock l=true→ERel ρ l ms→(∀x∈ms,x.born<clock)∧(ms.map (·.born)).Nodup
 |[],ms,h,e=>by
  rw [show ms=[] from e]
  exact ⟨fun x hx=>(by cases hx),List.nodup_nil⟩
 |e::r,ms,h,⟨y,l',e1,h2,h3,h4,h5⟩=>by
  subst e1
  unfold okW at h
  simp only [Bool.and_eq_true] at h
  obtain ⟨g1,g2⟩:=freshW_rel h.1 h5
  obtain ⟨g3,g4⟩:=okW_rel h.2 h5
  refine ⟨fun x hx=>?_,?_⟩
  ·rcases List.mem_cons.1 hx with rfl|hx
   ·rw [h4];exact g1
   ·exact g3 x hx
  ·rw [List.map_cons,List.nodup_cons]
   refine ⟨fun hin=>?_,g4⟩
   obtain ⟨x,hx,hxb⟩:=List.mem_map.1 hin
   exact g2 x hx (hxb.trans h4)
def keyI (x:MapEntry):Int:=match x.key with| .int _ n=>n|_=>0
theorem keysI_rel:∀{l:List Ent} {ks:List Int} {ms:List MapEntry},keysI l=some ks→ERel ρ l ms→(∀x∈ms,∃n,x.key= .int .i64 n)∧ms.map keyI=ks∧ms.length=l.length
 |[],ks,ms,h,e=>by
  rw [show ms=[] from e]
  unfold keysI at h
  injection h with h
  subst h
  exact ⟨fun x hx=>(by cases hx),rfl,rfl⟩
 |e::r,ks,ms,h,⟨y,l',e1,h2,h3,h4,h5⟩=>by
  subst e1
  unfold keysI at h
  cases hi:intA e.1 with
  |none=>rw [hi] at h;cases h
  |some p=>
   rw [hi] at h
   simp only at h
   cases hk:is64 p.1 with
   |false=>rw [bif_false _ _ hk] at h;cases h
   |true=>
    rw [bif_true _ _ hk] at h
    cases hr:keysI r with
    |none=>rw [hr] at h;cases h
    |some k1=>
     rw [hr] at h
     injection h with h
     subst h
     obtain ⟨g1,g2,g3⟩:=keysI_rel hr h5
     have hy:=intA_rel hi h2
     rw [is64_true hk] at hy
     refine ⟨fun x hx=>?_,?_,?_⟩
     ·rcases List.mem_cons.1 hx with rfl|hx
      ·exact ⟨_,hy⟩
      ·exact g1 x hx
     ·rw [List.map_cons,g2,show keyI y=p.2 by unfold keyI;rw [hy]]
     ·rw [List.length_cons,List.length_cons,g3]
theorem keyB_all {ms:List MapEntry} (hn:(ms.map (·.born)).Nodup) (hk:∀x∈ms,∃n,x.key= .int .i64 n):(ms.map (·.born)).map (keyB ms)=ms.map keyI:=by
 rw [List.map_map]
 refine List.map_congr_left fun x hx=>?_
 obtain ⟨n,hx2⟩:=hk x hx
 show keyB ms x.born=keyI x
 rw [keyB_at hn hx hx2]
 unfold keyI
 rw [hx2]
theorem rising_of:∀{l:List Int},l.Pairwise (·≤ ·)→Rising l
 |[],_=>trivial
 |_::_,h=>⟨(List.pairwise_cons.1 h).1,rising_of (List.pairwise_cons.1 h).2⟩
theorem merge_eq {l ks:List Int} (h:l.Perm ks):(l.mergeSort fun x y=>decide (x≤y))=sortI ks:=by
 refine rising_eq (rising_of ?_) (sortI_rising ks) (((List.mergeSort_perm l _).trans h).trans (sortI_perm ks).symm)
 have h:=List.pairwise_mergeSort (le:=fun x y:Int=>decide (x≤y)) (fun a b c h1 h2=>by simp at*;omega) (fun a b=>by simp;omega) l
 exact h.imp fun h=>by simpa using h
theorem sort_belowW {B g N:Nat} {W:World} {d:Array Int} {os:Array Obj} (hB:B≤g) (hg:g<W.heap.size):Below B W (grow (putRow (Value.int .i64) (Sort.ahead W N) g 0 d) os):=by
 refine ⟨rfl,rfl,rfl,?_,fun k hk=>?_⟩
 ·simp [grow,Sort.ahead,putRow,mapBlock]
 ·have h1:k<W.heap.size:=by omega
  have h2:g≠k:=by omega
  show ((W.heap.modify g _)++os)[k]?=_
  rw [Array.getElem?_append_left (by simpa using h1),Array.getElem?_modify,if_neg h2]
theorem sort_block {g N:Nat} {W:World} {d:Array Int} {os:Array Obj} {cur:Array Value} {e:TypeId} (h:W.heap[g]?=some (.cells cur e (0,0))):
  (grow (putRow (Value.int .i64) (Sort.ahead W N) g 0 d) os).heap[g]?=some (.cells (putCells (Value.int .i64) 0 d cur) e (0,0)):=by
 have hg:=heap_at h
 show ((W.heap.modify g _)++os)[g]?=_
 rw [Array.getElem?_append_left (by simpa using hg),Array.getElem?_modify,if_pos rfl,h]
 rfl
theorem put_cells (d:Array Int) (cur:Array Value) (h:d.size≤cur.size):∃junk,(putCells (Value.int .i64) 0 d cur).toList=d.toList.map (Value.int .i64)++junk:=by
 refine ⟨(putCells (Value.int .i64) 0 d cur).toList.drop d.size,?_⟩
 rw [show d.toList.map (Value.int .i64)=(putCells (Value.int .i64) 0 d cur).toList.take d.size from ?_,List.take_append_drop]
 refine List.ext_getElem? fun j=>?_
 by_cases hj:j<d.size
 ·have hj2:j<cur.size:=by omega
  rw [List.getElem?_take_of_lt hj,List.getElem?_map]
  simp [putCells,hj,hj2]
 ·rw [List.getElem?_eq_none (by simpa using hj),List.getElem?_eq_none (by rw [List.length_take];omega)]
theorem ints_rel:∀l:List Int,CRel ρ (l.map fun n=>AV.int .i64 n) (l.map (Value.int .i64))
 |[]=>rfl
 |x::r=>⟨[.int .i64 x],r.map (Value.int .i64),rfl,⟨rfl,_,rfl,rfl⟩,ints_rel r⟩
theorem name_rel {o:AObj} {ob:Obj} {g κ:Nat} (h:WRel ρ s.h w) (hf:ρ s.c=none) (hc:s'.h=s.h.put s.c (some o)) (hc':s'.c=s.c+1) (hb:Below w.heap.size w w') (hg:w.heap.size≤g) (hob:w'.heap[g]?=some ob)
  (ho:ORel (ρ.put s.c (g,0,κ)) (g,0,κ) o ob):
  WRel (ρ.put s.c (g,0,κ)) s'.h w'∧Stp s s' ρ (ρ.put s.c (g,0,κ)) w w':=by
 have hle:=Ren.put_le hf (g,0,κ)
 have hne:∀{m},m≠s.c→ρ.put s.c (g,0,κ) m=ρ m:=fun hm=>if_neg hm
 refine ⟨⟨fun n q hq=>?_,fun n m p q hn hm hp hq he=>?_⟩,⟨fun n hn=>?_,hle,hb.os,hb.tape,hb.output,hb.size,fun q hq _=>hb.block q hq,fun q hq=>?_⟩⟩
 ·rw [hc,Tr.get_put] at hq
  by_cases hn:n=s.c
  ·subst hn
   rw [if_pos rfl] at hq
   injection hq with hq
   subst hq
   exact ⟨_,ob,Ren.put_same _ _ _,hob,ho⟩
  ·rw [if_neg hn] at hq
   obtain ⟨p,ob',h1,h2,h3⟩:=h.at_ n q hq
   exact ⟨p,ob',by rw [hne hn];exact h1,by rw [hb.block _ (Array.getElem?_eq_some_iff.1 h2).1];exact h2,h3.mono hle⟩
 ·rw [hc,Tr.get_put] at hn hm
  by_cases h1:n=s.c
  ·by_cases h2:m=s.c
   ·rw [h1,h2]
   ·exfalso
    rw [if_neg h2] at hm
    rw [hne h2] at hq
    rw [h1,Ren.put_same] at hp
    injection hp with hp
    have:=h.lt hm hq
    rw [← he, ← hp] at this
    exact absurd this (by show ¬g<_;omega)
  ·rw [if_neg h1] at hn
   rw [hne h1] at hp
   by_cases h2:m=s.c
   ·exfalso
    rw [h2,Ren.put_same] at hq
    injection hq with hq
    have:=h.lt hn hp
    rw [he, ← hq] at this
    exact absurd this (by show ¬g<_;omega)
   ·rw [if_neg h2] at hm
    rw [hne h2] at hq
    exact h.inj n m p q hn hm hp hq he
 ·exact hne (by omega)
 ·obtain ⟨n,p,h1,h2,h3⟩:=hq
  rw [hc,Tr.get_put] at h1
  by_cases hn:n=s.c
  ·subst hn
   rw [Ren.put_same] at h2
   injection h2 with h2
   subst h2
   exact .inr (by rw [← h3];exact hg)
  ·rw [if_neg hn] at h1
   rw [hne hn] at h2
   exact .inl ⟨n,p,h1,h2,h3⟩
theorem waiting_ok {args:List AV} {v:AV} (h:waitingO args s= .ok v s'):CallOK Tryz.prog 244 args s v s':=by
 unfold waitingO at h
 split at h
 ·exact (M.fail_ok.1 h).elim
 ·rename_i a r
  split at h
  rotate_left
  ·exact (M.fail_ok.1 h).elim
  intro ρ w us n hw hf hu
  obtain ⟨u,r',e,v1,v2⟩:=LRel.cons_iff.1 hu
  rw [LRel.nil_iff.1 v2] at e
  obtain ⟨pa,s1,h1,h2⟩:=M.bind_ok.1 h
  obtain ⟨ha,rfl⟩:=of_ok2 h1
  obtain ⟨d,hd,rfl⟩:=addrA_rel ha v1
  obtain rfl:us= #[.pointer (some ⟨d.1,d.2.1+pa.2,none⟩)]:=Array.ext' e
  obtain ⟨mv,s2,h3,h4⟩:=M.bind_ok.1 h2
  obtain ⟨ed,cd,hdr,D,u0,kd,c1,r0,al1⟩:=loadI_cell h3 hw hd
  obtain ⟨mo,s3,h5,h6⟩:=M.bind_ok.1 h4
  obtain ⟨hmo,rfl⟩:=of_ok2 h5
  obtain ⟨mn,s4,h7,h8⟩:=M.bind_ok.1 h6
  obtain ⟨hmn,rfl⟩:=of_ok2 h7
  subst hmn
  obtain ⟨pm,hpm,rfl⟩:=mapA_rel hmo r0
  obtain ⟨q,s5,h9,h10⟩:=M.bind_ok.1 h8
  obtain ⟨gm,gmc,al3⟩:=mapM_ok h9
  obtain ⟨es,hes,hE⟩:=(hw.alike al1).map gm hpm
  have al:=al1.trans al3
  unfold waitN at h10
  cases hb:(okW q.2 q.1&&Nat.ble q.1.length 1000) with
  |false=>rw [bif_false _ _ hb] at h10;exact (M.fail_ok.1 h10).elim
  |true=>
   rw [bif_true _ _ hb] at h10
   rw [Bool.and_eq_true] at hb
   obtain ⟨ks,s6,h11,h12⟩:=M.bind_ok.1 h10
   obtain ⟨hks,rfl⟩:=of_ok2 h11
   obtain ⟨f1,f2⟩:=okW_rel hb.1 hE
   obtain ⟨f3,f4,f5⟩:=keysI_rel hks hE
   cases ks with
   |nil=>exact ((M.fail_ok (s:=s5)).1 h12).elim
   |cons x rs=>
    have h13:M.bind (newM (.row 3 ((sortI (x::rs)).map fun n=> .int .i64 n))) (fun b=>M.pure (.slice b 0 (x::rs).length none 1)) s5= .ok v s':=h12
    obtain ⟨b,s7,h14,h15⟩:=M.bind_ok.1 h13
    obtain ⟨rfl,rfl⟩:=newM_ok.1 h14
    obtain ⟨rfl,rfl⟩:=M.pure_ok.1 h15
    have hfc:ρ s.c=none:=hf s.c (Nat.le_refl _) (by show s.c<s5.c+1;rw [al.2];omega)
    refine callsIn_wide.2 (waiting_any w d.1 (d.2.1+pa.2) pm.1 ed D es q.2 kd (by rw [Nat.add_assoc];exact c1) hes f3 f1 f2 (by have:=ble_true.1 hb.2;rw [← Array.length_toList];omega) _ ?_)
    intro v W seen hp ho hbel
    have hpk:(seen.map (keyB es.toList)).Perm (x::rs):=by
     have:=hp.map (keyB es.toList)
     rwa [keyB_all f2 f3,f4] at this
    have hlen:seen.length=(x::rs).length:=by rw [← hpk.length_eq,List.length_map]
    have hlen2:(x::rs).length≤1000:=by have:=ble_true.1 hb.2;rw [← f4,List.length_map];omega
    obtain ⟨ho1,⟨_,h0⟩|⟨g,cap,cur,rfl,hbg,hcell,hle,hmax,hsz,htake⟩⟩:=id ho
    ·rw [hlen] at h0;cases h0
    have hgl:=heap_at hcell
    have hH:Holds (Value.int .i64) W g 0 (seen.map (keyB es.toList)).toArray:=fun j hj=>by
     have hj':j<(seen.map (keyB es.toList)).length:=by simpa using hj
     refine ⟨?_,?_⟩
     ·rw [Nat.zero_add,World.ownsRow.cellAt ho j (by rw [List.length_map] at hj';omega)]
      simp [List.getElem?_eq_getElem (show j<seen.length by rw [List.length_map] at hj';exact hj')]
     ·rw [Nat.zero_add]
      exact World.ownsRow.frozenAt ho j
    have hs:=fun n' (hn':n'=(seen.map (keyB es.toList)).length)=>hn'▸Tryz.slices_Sort_int g 0 cap (seen.map (keyB es.toList)) W hH hgl (by rw [List.length_map];omega)
    refine (hs seen.length (List.length_map ..).symm).mono ?_
    rintro e w2 ⟨rfl,N,os,rfl⟩
    rw [merge_eq hpk]
    have hb2:=hbel.trans (sort_belowW (N:=N) (d:=(sortI (x::rs)).toArray) (os:=os) (show w.heap.size≤g by omega) hgl)
    have hk2:=sort_block (N:=N) (d:=(sortI (x::rs)).toArray) (os:=os) hcell
    have hsl:(sortI (x::rs)).length=seen.length:=by rw [(sortI_perm (x::rs)).length_eq,hlen]
    obtain ⟨junk,hjk⟩:=put_cells (sortI (x::rs)).toArray cur (by simp [hsl];omega)
    have hnr:=name_rel (s:=s) (s':= .mk (s5.h.put s5.c (some (.row 3 ((sortI (x::rs)).map fun n=> .int .i64 n)))) (s5.c+1) s5.r (s5.w.add s5.c)) (κ:=cap) (o:= .row 3 ((sortI (x::rs)).map fun n=> .int .i64 n)) hw hfc (by show s5.h.put s5.c _=_;rw [al.1,al.2]) (by show s5.c+1=_;rw [al.2]) hb2 (by omega) hk2
     ⟨_,_,junk,rfl,by simp [putCells];omega,by rw [List.drop_zero,hjk],by simpa using ints_rel _⟩
    refine ⟨⟨_,rfl⟩,_,_,rfl,?_,hnr.1,hnr.2⟩
    exact ⟨(g,0,cap),cap,by rw [al.2];exact Ren.put_same _ _ _,by rw [← hlen],by omega,by simp [capR]⟩
end
end Go.Proofs.YtnkjkgmohmcobaaGreatDoor.Vm
namespace Go.Proofs.YtnkjkgmohmcobaaGreatDoor.Vm
open Go Go.RowKit
noncomputable def cutV (ns:List Nat):Rs AV→Option (AV × List (Nat × AObj) × Nat)
 | .err _=>none
 | .ok v s=>some (v,keepH s.h ns,s.c)
end Go.Proofs.YtnkjkgmohmcobaaGreatDoor.Vm
namespace Go.Proofs.YtnkjkgmohmcobaaGreatDoor.Vm
open Go Go.RowKit
section
variable {P:Program} {F:Fence} {n:Nat} {Q:Exit→Act→World→Prop} {a:Act} {w:World} {c:Code}
def NotNormal (Q:Exit→Act→World→Prop):Exit→Act→World→Prop:=fun e a w=>e≠ .normal∧Q e a w
theorem rounds_list:∀(m:Nat) {a:Act} {w:World},wpL P F n (List.replicate m c) (NotNormal Q) a w→Code.roundsIn F n P c Q m a w
 |0,_,_,h=>absurd rfl h.1
 |m+1,a,w,h=>by
  rw [roundsIn_succ]
  refine wpIn_mono (show c.wpIn F n P (Exit.then (fun a w=>wpL P F n (List.replicate m c) (NotNormal Q) a w) (NotNormal Q)) a w from h) fun e a' w' h1=>?_
  cases e<;>first|exact rounds_list m h1|exact h1.2
theorem loopOut_ok {m id:Nat} {b:Code} {x:AAct} {s s':St} {y:AAct} (h:CodesOK P (List.replicate m b) x s (.exit id,y) s'):CodesOK P [.block id (.loop b)] x s (.normal,y) s':=by
 intro ρ w act F n hF hw hf ha
 refine wpIn_block (wpIn_loop_rounds m (rounds_list m (wpL_mono (h ρ w act F n hF hw hf ha) fun e a1 w1 h1=>?_)))
 obtain ⟨ρ1,g1,g2,g3,g4⟩:=h1
 cases g1
 refine ⟨fun e=>(by cases e),?_⟩
 simp only [Exit.inBlock,if_true]
 exact ⟨ρ1,.normal,g2,g3,g4⟩
end
structure SeesG (w0:World) (g:Nat) (o:Obj) (ρ:Ren) (H:List (Nat × AObj)) (c:Nat) (w:World):Prop where
 rel:WRel ρ (ofH H) w
 fresh:∀n,c≤n→ρ n=none
 own:∀q,Own (ofH H) ρ q→q=g∨w0.heap.size≤q
 glob:(ofH H).get 0=some (.glob g o)
 at0:w0.heap[g]?=some o
 below:Below w0.heap.size w0 w
theorem calledC {P:Program} {c c' g:Nat} {f:FuncId} {args:List AV} {v:AV} {ns:List Nat} {H H':List (Nat × AObj)} {o:Obj} {ρ:Ren} {w0 w:World} {s':St} (hc:CallOK P f args (.mk (ofH H) c [] []) v s') (hle:c≤s'.c) (hk:keepH s'.h ns=H') (hcc:s'.c=c')
  (hg:(ofH H').get 0=some (.glob g o)) (hs:SeesG w0 g o ρ H c w) {us:Array Value} (hu:LRel ρ args us.toList):
  Calls P f us w (fun e w'=>∃ρ' u,e= .returned u∧VRel ρ' v u∧ρ.le ρ'∧SeesG w0 g o ρ' H' c' w'):=by
 subst hk hcc
 refine Calls.mono (callsIn_wide.1 (hc ρ w us 0 hs.rel (fun n h1 _=>hs.fresh n h1) hu)) ?_
 rintro e w' ⟨ρ',u,rfl,h1,h2,h3⟩
 have hsub:∀k o,(ofH (keepH s'.h ns)).get k=some o→s'.h.get k=some o:=fun k o=>ofH_get (fun p hp=>keepH_get hp)
 have hown:∀q,Own (ofH (keepH s'.h ns)) ρ' q→q=g∨w0.heap.size≤q:=fun q ⟨n,p,g1,g2,g3⟩=>by
  have g4:(s'.h.get n).isSome=true:=by
   obtain ⟨o1,ho⟩:=Option.isSome_iff_exists.1 g1
   rw [hsub n o1 ho]
   rfl
  rcases h3.own q ⟨n,p,g4,g2,g3⟩ with k|k
  ·exact hs.own q k
  ·exact .inr (Nat.le_trans hs.below.size k)
 refine ⟨ρ',u,rfl,h1,h3.le,h2.less hsub,fun n hn=>?_,hown,hg,hs.at0,h3.os.trans hs.below.os,h3.tape.trans hs.below.tape,h3.output.trans hs.below.output,Nat.le_trans hs.below.size h3.size,fun q hq=>?_⟩
 ·rw [h3.ext n (by show ¬(c≤n∧n<s'.c);omega)]
  exact hs.fresh n (by omega)
 ·by_cases hqg:q=g
  ·obtain ⟨p,ob,k1,k2,k3,rfl,_⟩:=(h2.less hsub).at_ _ _ hg
   rw [hqg,hs.at0, ← k3]
   exact k2
  ·rw [h3.block q (Nat.lt_of_lt_of_le hq hs.below.size) (fun k=>by rcases hs.own q k with e|e<;>omega)]
   exact hs.below.block q hq
theorem cutV_of {ns:List Nat} {r:Rs AV} {v:AV} {H:List (Nat × AObj)} {c:Nat} (h:cutV ns r=some (v,H,c)):∃s',r= .ok v s'∧keepH s'.h ns=H∧s'.c=c:=by
 unfold cutV at h
 split at h
 ·cases h
 ·rename_i v0 s'
  simp only [Option.some.injEq,Prod.mk.injEq] at h
  obtain ⟨rfl,rfl,rfl⟩:=h
  exact ⟨s',rfl,rfl,rfl⟩
theorem calledG {P:Program} {E:Env} (hE:EnvAll E P) {m c c' g:Nat} {f:FuncId} {args:List AV} {v:AV} {ns:List Nat} {H H':List (Nat × AObj)} {o:Obj} {ρ:Ren} {w0 w:World} (h:cutV ns ((evN E m).call f args (.mk (ofH H) c [] []))=some (v,H',c')) (hg:(ofH H').get 0=some (.glob g o)) (hs:SeesG w0 g o ρ H c w) {us:Array Value} (hu:LRel ρ args us.toList):
  Calls P f us w (fun e w'=>∃ρ' u,e= .returned u∧VRel ρ' v u∧ρ.le ρ'∧SeesG w0 g o ρ' H' c' w'):=by
 obtain ⟨s',hr,hk,hcc⟩:=cutV_of h
 exact calledC ((evN_ok hE m).call _ _ _ _ _ hr).2 (((locEv hE.orcLoc m).call f args).le hr) hk hcc hg hs hu
theorem SeesG.via {w0 w w':World} {g c:Nat} {o:Obj} {ρ:Ren} {H:List (Nat × AObj)} (h:SeesG w0 g o ρ H c w) (hb:Below w.heap.size w w'):SeesG w0 g o ρ H c w':=
 ⟨⟨fun n o hn=>by
  obtain ⟨p,ob,h1,h2,h3⟩:=h.rel.at_ n o hn
  exact ⟨p,ob,h1,by rw [hb.block p.1 (Array.getElem?_eq_some_iff.1 h2).1];exact h2,h3⟩,h.rel.inj⟩,h.fresh,h.own,h.glob,h.at0,below_via h.below hb h.below.size⟩
theorem SeesG.start {w:World} {g:Nat} {o:Obj} (hg:w.heap[g]?=some o) (ht:TabO o):SeesG w g o (fun n=>if n=0 then some (g,0,0) else none) [(0,.glob g o)] 1 w:=by
 have hget:∀n o',(ofH [(0,AObj.glob g o)]).get n=some o'→n=0∧o'= .glob g o:=fun n o' hn=>by
  unfold ofH ofH at hn
  rw [Tr.get_put] at hn
  by_cases h0:n=0
  ·rw [if_pos h0] at hn
   injection hn with hn
   exact ⟨h0,hn.symm⟩
  ·rw [if_neg h0] at hn
   cases hn
 refine ⟨⟨fun n o' ho=>?_,fun n m p q hn hm _ _ _=>?_⟩,fun n hn=>if_neg (by omega),fun q ⟨n,p,h1,h2,h3⟩=>?_,?_,hg,Below.refl _ _⟩
 ·obtain ⟨rfl,rfl⟩:=hget _ _ ho
  exact ⟨_,_,rfl,hg,rfl,rfl,ht⟩
 ·obtain ⟨o1,h1⟩:=Option.isSome_iff_exists.1 hn
  obtain ⟨o2,h2⟩:=Option.isSome_iff_exists.1 hm
  rw [(hget _ _ h1).1,(hget _ _ h2).1]
 ·obtain ⟨o1,h4⟩:=Option.isSome_iff_exists.1 h1
  obtain ⟨rfl,_⟩:=hget _ _ h4
  injection h2 with h2
  exact .inl (by rw [← h3, ← h2])
 ·unfold ofH
  rw [Tr.get_put,if_pos rfl]
theorem tabO_of {W:World} (h:Tab W):∃o,W.heap[0]?=some o∧TabO o:=by
 have h0:=h 0 0 (by omega) (by omega)
 unfold World.cell? at h0
 split at h0
 ·rename_i vs t k hk
  refine ⟨_,hk,vs,t,k,rfl,fun i b hi=>?_⟩
  have hlt:i<16:=(List.getElem?_eq_some_iff.1 hi).1
  have h1:=h (i/4) (i%4) (by omega) (by omega)
  unfold World.cell? at h1
  simp only [hk] at h1
  have e:i/4*4+i%4=i:=by omega
  have hc:=tabL_at (i/4) (i%4) (by omega) (by omega)
  rw [e,hi] at hc
  injection hc with hc
  rw [hc]
  rw [show i/4*4+i%4=i from e] at h1
  exact h1
 ·cases h0
noncomputable def isExitN (id:Nat):AExit→Bool
 | .exit i=>Nat.beq i id
 |_=>false
noncomputable def noDefs:List ADef→Bool
 |[]=>true
 |_::_=>false
noncomputable def endC (E:Env) (ev:Ev) (rs:List ResultVar) (id:Nat) (l post:List Code) (a:AAct):M AV:=
 M.bind (runL E ev l a) fun q=>bif isExitN id q.1 then M.bind (runL E ev post q.2) fun p=>bif isExit p.1 then M.fail "exit" else bif noDefs p.2.d then M.bind (resM E p.2.t rs) fun vs=>M.pure (tupOf vs) else M.fail "defers" else M.fail "loop"
theorem endC_of {E:Env} {ev:Ev} {rs:List ResultVar} {id:Nat} {l post:List Code} {a:AAct} {s s':St} {v:AV} (h:endC E ev rs id l post a s= .ok v s'):
  ∃y s1 e T n s2 vs,runL E ev l a s= .ok (.exit id,y) s1∧runL E ev post y s1= .ok (e,.mk T n []) s2∧isExit e=false∧resM E T rs s2= .ok vs s'∧v=tupOf vs:=by
 obtain ⟨⟨x,y⟩,s1,h1,h2⟩:=M.bind_ok.1 h
 simp only at h2
 cases hx:isExitN id x with
 |false=>rw [bif_false _ _ hx] at h2;exact (M.fail_ok.1 h2).elim
 |true=>
  rw [bif_true _ _ hx] at h2
  obtain ⟨⟨e,T,n,ds⟩,s2,h3,h4⟩:=M.bind_ok.1 h2
  simp only at h4
  cases he:isExit e with
  |true=>rw [bif_true _ _ he] at h4;exact (M.fail_ok.1 h4).elim
  |false=>
   rw [bif_false _ _ he] at h4
   cases ds with
   |cons _ _=>exact ((M.fail_ok (s:=s2)).1 h4).elim
   |nil=>
    have h5:M.bind (resM E T rs) (fun vs=>M.pure (tupOf vs)) s2= .ok v s':=h4
    obtain ⟨vs,s3,h6,h7⟩:=M.bind_ok.1 h5
    obtain ⟨rfl,rfl⟩:=M.pure_ok.1 h7
    have e1:x= .exit id:=by
     cases x<;>simp only [isExitN,Bool.false_eq_true] at hx
     rw [Nat.eq_of_beq_eq_true hx]
    rw [e1] at h1
    exact ⟨y,s1,e,T,n,s2,vs,h1,h3,he,h6,rfl⟩
theorem append_ok {P:Program} {l m:List Code} {a y:AAct} {s s1 s':St} {q:AExit × AAct} (h1:CodesOK P l a s (.normal,y) s1) (h2:CodesOK P m y s1 q s') (c1:s.c≤s1.c) (c2:s1.c≤s'.c):CodesOK P (l++m) a s q s':=by
 intro ρ w act F n hF hw hf ha
 refine wpL_append (wpL_mono (h1 ρ w act F n hF hw (hf.sub (Nat.le_refl _) c2) ha) fun e act1 w1 hleft=>?_)
 obtain ⟨ρ1,g1,g2,g3,g4⟩:=hleft
 rw [g1.normal_of]
 exact wpL_mono (h2 ρ1 w1 act1 F n (hF.mono g4.le) g3 (hf.step g4 c1) g2) (fun e act2 w2 hl2=>Left.pre g4 c1 c2 hl2)
end Go.Proofs.YtnkjkgmohmcobaaGreatDoor.Vm
namespace Go.Proofs.YtnkjkgmohmcobaaGreatDoor.Vm
open Go Go.RowKit
noncomputable def getL:List (Nat × AObj)→Nat→Option AObj
 |[],_=>none
 |p::r,n=>bif Nat.beq p.1 n then some p.2 else getL r n
noncomputable def updL (L:List (Nat × AObj)):List Nat→List (Nat × AObj)
 |[]=>[]
 |n::r=>
  match getL L n with
  |some o=>(n,o)::updL L r
  |none=>updL L r
noncomputable def loopOf:List Code→Code
 |[]=> .skip
 |c::_=>
  match c with
  | .block _ b=>
   match b with
   | .loop x=>x
   |_=> .skip
  |_=> .skip
def LvS (w0:World) (g:Nat) (ob:Obj) (nk:Nat) (H:List (Nat × AObj)) (c b o:Nat) (W:World):Prop:=∃ρ κ,SeesG w0 g ob ρ H c W∧ρ nk=some (b,o,κ)
section
variable {P:Program} {E:Env} {m c c' g nk b o:Nat} {f:FuncId} {rest:List AV} {v:AV} {ns:List Nat} {H H':List (Nat × AObj)} {ob:Obj} {w0 W:World} {us:List Value}
theorem LvS.via {W':World} (h:LvS w0 g ob nk H c b o W) (hb:Below W.heap.size W W'):LvS w0 g ob nk H c b o W':=by
 obtain ⟨ρ,κ,h1,h2⟩:=h
 exact ⟨ρ,κ,h1.via hb,h2⟩
theorem lv_ok {s':St} (hc:CallOK P f (.ptr nk 0::rest) (.mk (ofH H) c [] []) v s') (hle:c≤s'.c) (hk:keepH s'.h ns=H') (hcc:s'.c=c') (hg:(ofH H').get 0=some (.glob g ob)) (hr:∀ρ,LRel ρ rest us) (hs:LvS w0 g ob nk H c b o W):
  Calls P f (Value.pointer (some ⟨b,o,none⟩)::us).toArray W fun e W'=>(∃ρ u,e= .returned u∧VRel ρ v u)∧LvS w0 g ob nk H' c' b o W':=by
 obtain ⟨ρ,κ,h1,h2⟩:=hs
 refine (calledC hc hle hk hcc hg h1 (LRel.cons_iff.2 ⟨_,_,rfl,⟨_,h2,rfl⟩,hr ρ⟩)).mono ?_
 rintro e w' ⟨ρ',u,rfl,k1,k2,k3⟩
 exact ⟨⟨ρ',u,rfl,k1⟩,ρ',κ,k3,k2 _ _ h2⟩
theorem lv_call (hE:EnvAll E P) (h:cutV ns ((evN E m).call f (.ptr nk 0::rest) (.mk (ofH H) c [] []))=some (v,H',c')) (hg:(ofH H').get 0=some (.glob g ob)) (hr:∀ρ,LRel ρ rest us) (hs:LvS w0 g ob nk H c b o W):
  Calls P f (Value.pointer (some ⟨b,o,none⟩)::us).toArray W fun e W'=>(∃ρ u,e= .returned u∧VRel ρ v u)∧LvS w0 g ob nk H' c' b o W':=by
 obtain ⟨s',hr',hk,hcc⟩:=cutV_of h
 exact lv_ok ((evN_ok hE m).call _ _ _ _ _ hr').2 (((locEv hE.orcLoc m).call _ _).le hr') hk hcc hg hr hs
end
theorem one_rel {ρ:Ren} {a:AV} {v:Value} {r:List AV} {vs:List Value} (hb:isB a=none) (h1:isOne a=true) (hv:VRel ρ a v) (h:CRel ρ r vs):CRel ρ (a::r) (v::vs):=CRel.cons_iff.2 ⟨[v],vs,rfl,by rw [hb];exact ⟨h1,v,rfl,hv⟩,h⟩
theorem one_of {ρ:Ren} {a:AV} {r:List AV} {l:List Value} (hb:isB a=none) (h:CRel ρ (a::r) l):∃v vs,l=v::vs∧VRel ρ a v∧CRel ρ r vs:=by
 obtain ⟨u,vs,h1,h2,h3⟩:=CRel.cons_iff.1 h
 rw [hb] at h2
 obtain ⟨_,v,h4,h5⟩:=h2
 exact ⟨v,vs,by rw [h1,h4];rfl,h5,h3⟩
theorem op_rel (ρ:Ren) (d:Int) (k:ByteArray):VRel ρ (.agg [.int .i64 d,.str k,.nilslice,.int .i64 0,.int .i64 0,.int .i64 0]) (.agg #[.int .i64 d,.string k,.slice none 0 0,.int .i64 0,.int .i64 0,.int .i64 0]):=
 ⟨_,rfl,one_rel rfl rfl rfl (one_rel rfl rfl rfl (one_rel rfl rfl rfl (one_rel rfl rfl rfl (one_rel rfl rfl rfl (one_rel rfl rfl rfl CRel.nil)))))⟩
theorem two_rel {ρ:Ren} {a1 a2:AV} {u1 u2:Value} (h1:VRel ρ a1 u1) (h2:VRel ρ a2 u2):LRel ρ [a1,a2] [u1,u2]:=LRel.cons_iff.2 ⟨_,_,rfl,h1,LRel.cons_iff.2 ⟨_,_,rfl,h2,LRel.nil_iff.2 rfl⟩⟩
theorem ans_rel {ρ:Ren} {n:Int} {t:Bool} {u:Value} (h:VRel ρ (.tuple [.agg [.int .i64 n,.int .i64 0,.nilslice,.int .i64 0,.int .i64 0,.int .i64 0],.bool t]) u):u= .tuple #[.agg #[.int .i64 n,.int .i64 0,.slice none 0 0,.int .i64 0,.int .i64 0,.int .i64 0],.bool t]:=by
 obtain ⟨⟨l⟩,rfl,h⟩:=h
 obtain ⟨u1,l1,e1,⟨⟨cs⟩,rfl,h1⟩,h2⟩:=LRel.cons_iff.1 h
 obtain ⟨u2,l2,e2,rfl,h3⟩:=LRel.cons_iff.1 h2
 obtain rfl:=LRel.nil_iff.1 h3
 obtain ⟨c0,q0,e3,rfl,h4⟩:=one_of rfl h1
 obtain ⟨c1,q1,e4,rfl,h5⟩:=one_of rfl h4
 obtain ⟨c2,q2,e5,rfl,h6⟩:=one_of rfl h5
 obtain ⟨c3,q3,e6,rfl,h7⟩:=one_of rfl h6
 obtain ⟨c4,q4,e7,rfl,h8⟩:=one_of rfl h7
 obtain ⟨c5,q5,e8,rfl,h9⟩:=one_of rfl h8
 have e9:q5=[]:=h9
 subst e2
 simp only at e1 e3
 subst e1 e9 e8 e7 e6 e5 e4 e3
 rfl
end Go.Proofs.YtnkjkgmohmcobaaGreatDoor.Vm
