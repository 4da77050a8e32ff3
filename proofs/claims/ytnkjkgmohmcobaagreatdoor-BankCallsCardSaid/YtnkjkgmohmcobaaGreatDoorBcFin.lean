/-
  What is proved: for every layout, every number of a client and every call (any memory, any size that can be read) the law moneyerlaw28.BankCalls returns true and leaves its arguments as they were; the table modes.together is tied to the program's text by the card. No further condition.
-/
import Derived.Test.YtnkjkgmohmcobaaGreatDoorCards
import Derived.Test.YtnkjkgmohmcobaaGreatDoorTie
import Derived.Deep.DeepHandedRow
import Derived.Lib.LaidTab
import Derived.ChangeSame
import Derived.Test.YtnkjkgmohmcobaaGreatDoorBc30
namespace Go.Proofs.YtnkjkgmohmcobaaGreatDoor.bankCalls
open Go.ChangeShapes Go.WideShapes Go.ChangeAt Go.RowKit
theorem own:ownKnob Tryz.prog.godebug=none:=by kernel_rfl
theorem laidOut:laidOutB Tryz.prog=true:=by kernel_rfl
theorem gTab:Tryz.prog.globalNamed "moneyer/modes.together" =some 0:=by kernel_rfl
theorem gTabType:(Tryz.prog.globals[0]?).map (·.type)=some 451:=by kernel_rfl
theorem cells_bool:Tryz.prog.cellsOf 4=1:=by kernel_rfl
theorem cells_row:Tryz.prog.cellsOf 450=4:=by kernel_rfl
theorem cells_tab:Tryz.prog.cellsOf 451=16:=by kernel_rfl
theorem row_at {H:Type} {enc:TypeId × Value→H} {w:World} {base:Nat} {sp:Nat→Bool} {held:Bool} {fuel:Nat} {cs:List Value} {bs:List Bool} {p:List MemPlace}
  (h:DataW.trod enc Tryz.prog w base sp held fuel 450 cs=some (.agg (bs.map fun b=> .lit (.bool b)),p)) (j:Nat) (hj:j<4):cs[j]?=(bs[j]?).map Value.bool:=by
 obtain ⟨xs,m,_,hx,hcl,hxl,hf⟩:=DataW.trod_array Tryz.underlying450 h
 have hxs:xs.map (·.1)=bs.map fun b=>(DataW.lit (.bool b):DataW H):=by
  have:=congrArg Prod.fst hx
  simpa using this.symm
 have g:=hf j hj
 rw [cells_bool,List.getElem?_eq_getElem (by omega)] at g
 obtain ⟨b,hc,hb⟩:=DataW.trod_bool Tryz.underlying4 g
 have h1:cs[j]?=some (.bool b):=by
  have:=congrArg (·[0]?) hc
  simpa [List.getElem?_take,List.getElem?_drop] using this
 have h2:(xs.map (·.1))[j]?=some (DataW.lit (.bool b):DataW H):=by simp [List.getElem?_eq_getElem (show j<xs.length by omega),hb]
 rw [hxs] at h2
 simp only [List.getElem?_map,Option.map_eq_some_iff,DataW.lit.injEq,Lit.bool.injEq] at h2
 obtain ⟨b',hb',rfl⟩:=h2
 simp [h1,hb']
theorem tab_of {W:World} (h:laidMetH Tryz.prog Rows.bankCallsRow.laid W):Tab W:=by
 have h':laidMet Tryz.prog Rows.bankCallsRow.laid W:=h
 obtain ⟨ps,⟨g',t',cs,fuel,p,q,hg',ht',hvar,hd,_,_⟩,_⟩:=h'
 obtain rfl:=Option.some.inj (gTab.symm.trans hg')
 obtain rfl:=Option.some.inj (gTabType.symm.trans ht')
 intro a b ha hb
 rw [World.var?_cell gTab hvar]
 obtain ⟨xs,m,_,hx,hcl,hxl,hf⟩:=DataW.trod_array Tryz.underlying451 hd
 have hxs:xs.map (·.1)=[[true,false,false,false],[false,false,false,false],[false,false,true,true],[false,false,true,true]].map fun bs=>(DataW.agg (bs.map fun b=> .lit (.bool b)):DataW Unit):=by
  have:=congrArg Prod.fst hx
  simpa [Rows.laid_moneyer_modes_together] using this.symm
 have g:=hf a ha
 rw [cells_row,List.getElem?_eq_getElem (by omega)] at g
 have h2:(xs.map (·.1))[a]?=some (xs[a]'(by omega)).1:=by simp [List.getElem?_eq_getElem (show a<xs.length by omega)]
 rw [hxs,List.getElem?_map] at h2
 obtain ⟨bs,hbs,hbx⟩:=Option.map_eq_some_iff.1 h2
 have g2:DataW.trod (fun _=>()) Tryz.prog W 0 (fun _=>true) false m 450 (List.take 4 (List.drop (a*4) cs.toList))=some (.agg (bs.map fun b=> .lit (.bool b)),(xs[a]'(by omega)).2):=by
  rw [g,hbx]
 have g3:=row_at g2 b hb
 rw [List.getElem?_take,if_pos hb,List.getElem?_drop] at g3
 rw [← Array.getElem?_toList,g3]
 have h4:(bs[b]?).map Value.bool=some (.bool (compat a b)):=by
  rcases (show a=0∨a=1∨a=2∨a=3 by omega) with rfl|rfl|rfl|rfl<;>(simp at hbs;subst hbs;rcases (show b=0∨b=1∨b=2∨b=3 by omega) with rfl|rfl|rfl|rfl<;>rfl)
 exact h4
section
variable {H:Type} {enc:TypeId × Value→H} {P:Program}
theorem post_of_below {f:Func} {s:ChangeSpec} {apart fresh handsOn again:Bool} {W W':World} {args:Array Value} {v:Value} {ds gs:List (DataW H)} {before pa pv:List MemPlace}
  (hW:DataW.Whole enc P f.params.toList s.vars apart W args.toList ds gs before)
  (hres:∀(b:Nat) (sp:Nat→Bool) (hd:Bool),DataW.TrodAll enc P W' b sp hd f.resultTypes.toList (v.resultList f.resultTypes.size) (s.fn H (ds++gs)).results [])
  (hargs:∀sp:Nat→Bool,(∀p∈before,sp p.block=true)→DataW.TrodAll enc P W' 0 sp true f.params.toList args.toList (s.fn H (ds++gs)).args pa)
  (hvars:∀sp:Nat→Bool,(∀p∈before,sp p.block=true)→DataW.TrodVars enc P W' sp s.vars (s.fn H (ds++gs)).vars pv)
  (hps:before=pa++pv) (hb:Below W.heap.size W W')
  (hok:∀(j:Nat) (t:TypeId) (r:Value),f.resultTypes[j]?=some t→(v.resultList f.resultTypes.size)[j]?=some r→Value.okWide P W' .any 0 t r):
  s.post enc P f apart fresh handsOn again W args v W':=by
 have hlt:∀p∈before,p.block<W.heap.size:=fun p hp=>hW.lt p hp
 have hold:∀p∈before,(fun b=>decide (b<W.heap.size)) p.block=true:=fun p hp=>by simpa using hlt p hp
 refine ⟨ds,gs,before,[],pa,pv,hW,hres _ _ _,hargs _ hold,hvars _ hold,World.keptBut_mono (fun p hp=>⟨hp,?_⟩) (hb.frame (·∈before)),fun _=>?_⟩
 ·rw [hps,List.mem_append] at hp
  exact Or.inr hp
 ·obtain ⟨_,_,_,_,_,hz,hn⟩:=hW
  refine ⟨hok,_,_,([]++pa)++pv,⟨[]++pa,pv,trodAll_append (hargs _ (fun _ _=>rfl)) (hres _ _ _),hvars _ (fun _ _=>rfl),rfl,?_,?_⟩,?_⟩
  ·intro b off hp
   have hin:MemPlace.cell b off∈before:=by rw [hps];simpa using hp
   rw [hb.frozen (hlt _ hin)]
   exact hz b off hin
  ·intro ha
   have:=hn ha
   rw [hps] at this
   simpa using this
  ·intro p hp _
   rw [hps]
   simpa using hp
end
set_option maxRecDepth 100000 in
theorem contract (H:Type) (enc:TypeId × Value→H) (W:World) (base:Nat) (args:Array Value) (ds gs:List (DataW H)) (before:List MemPlace)
  (hval:∀(j:Nat) t v,Tryz.f3.params[j]?=some t→args[j]?=some v→Value.okWide Tryz.prog W .any base t v)
  (hW:DataW.Whole enc Tryz.prog Tryz.f3.params.toList Rows.bankCallsSpec.vars false W args.toList ds gs before) (hL:laidMetH Tryz.prog Rows.bankCallsRow.laid W):
  Calls Tryz.prog 3 args W fun e W'=>∃v,e= .returned v∧Rows.bankCallsSpec.post enc Tryz.prog Tryz.f3 false true false false W args v W':=by
 have hW':=hW
 obtain ⟨p,q,hA0,hV,rfl,hfz,hnd⟩:=hW
 have hA:DataW.TrodAll enc Tryz.prog W 0 (fun _=>true) true Tryz.f3.params.toList args.toList ds p:=hA0
 rw [Tryz.params3] at hA hval
 obtain ⟨v0,v1,v2,d0,d1,d2,p0,p1,p2,rfl,rfl,rfl,h0,h1,h2⟩:=trodAll_three hA
 obtain ⟨rfl,rfl⟩:=trodVars_none hV
 have h0k:=h0
 have h1k:=h1
 have h2k:=h2
 obtain ⟨ka,kp,kf,kc,kl,rfl⟩:=open_conf5 (hval 0 23 v0 rfl rfl) h0
 obtain ⟨nn,rfl,_⟩:=open_int Tryz.underlying3 (hval 1 3 v1 rfl rfl) h1
 obtain ⟨o,dv,rfl,hx⟩:=open_op1 (hval 2 26 v2 rfl rfl) h2
 clear hA0
 simp only [List.append_nil] at hW'
 obtain ⟨ob,hob,htab⟩:=Vm.tabO_of (tab_of hL)
 refine (bankCalls_any ⟨ka,kp,kf,kc,kl⟩ nn o dv W.heap.size W (Nat.le_refl _) hx (fun W1 hb1=>Vm.live28_any W1 ob ((hb1.block _ (Array.getElem?_eq_some_iff.1 hob).1).trans hob) htab)).mono fun e W' ⟨he,hb⟩=>?_
 subst he
 have hlt:∀x∈p0++(p1++p2),x.block<W.heap.size:=fun x hx=>by simpa using hW'.lt x (by simpa using hx)
 exact ⟨_,rfl,post_of_below (pa:=p0++(p1++p2)) (pv:=[]) hW' (fun _ _ _=>trodAll_cons_mk (shut_bool Tryz.underlying4 _) trodAll_mk0)
  (fun sp hsp=>trodAll_mk3 (WideElems.Trod_stays laidOut (by kernel_rfl) (of_decide_eq_true (by kernel_rfl)) h0k (fun x hx=>hb.same (hlt x (by simp [hx]))) (fun x hx=>hsp x (by simp [hx])))
   (WideElems.Trod_stays laidOut (by kernel_rfl) (of_decide_eq_true (by kernel_rfl)) h1k (fun x hx=>hb.same (hlt x (by simp [hx]))) (fun x hx=>hsp x (by simp [hx])))
   (WideElems.Trod_stays laidOut (by kernel_rfl) (of_decide_eq_true (by kernel_rfl)) h2k (fun x hx=>hb.same (hlt x (by simp [hx]))) (fun x hx=>hsp x (by simp [hx]))))
  (fun _ _=>rfl) (by simp) hb (ok_one (by kernel_rfl) rfl (okWide_bool_mk Tryz.underlying4 _))⟩
noncomputable def laidWorld (os:Os):World:=
 {World.holding Tryz.prog os ⟨#[],#[],[]⟩ with heap:=(World.holding Tryz.prog os ⟨#[],#[],[]⟩).heap.modify 0 fun
   | .cells _ t frozen=> .cells #[.bool true,.bool false,.bool false,.bool false,.bool false,.bool false,.bool false,.bool false,.bool false,.bool false,.bool true,.bool true,.bool false,.bool false,.bool true,.bool true] t frozen
   |o=>o}
theorem laid_met (os:Os):laidMet Tryz.prog Rows.bankCallsRow.laid ((laidWorld os).forCall (fun _ _=>0) ⟨#[],#[.agg #[.int .i64 0,.int .i64 0,.int .i64 0,.int .i64 0,.int .i64 0],.int .i64 0,.agg #[.int .i64 0,.string .empty,.slice none 0 0,.int .i64 0,.int .i64 0,.int .i64 0]],[]⟩).memory:=
 laidMet_of_run' 8 (by kernel_rfl) (by kernel_rfl)
theorem reads (os:Os) {H:Type} (enc:TypeId × Value→H):∃places,DataW.whole enc Tryz.prog ((laidWorld os).forCall (fun _ _=>0) ⟨#[],#[.agg #[.int .i64 0,.int .i64 0,.int .i64 0,.int .i64 0,.int .i64 0],.int .i64 0,.agg #[.int .i64 0,.string .empty,.slice none 0 0,.int .i64 0,.int .i64 0,.int .i64 0]],[]⟩).memory Tryz.f3.params.toList Rows.bankCallsSpec.vars false (#[Value.agg #[.int .i64 0,.int .i64 0,.int .i64 0,.int .i64 0,.int .i64 0],.int .i64 0,.agg #[.int .i64 0,.string .empty,.slice none 0 0,.int .i64 0,.int .i64 0,.int .i64 0]]:Array Value).toList 8=some ([.agg [.lit (.int .i64 0),.lit (.int .i64 0),.lit (.int .i64 0),.lit (.int .i64 0),.lit (.int .i64 0)],.lit (.int .i64 0),.agg [.lit (.int .i64 0),.lit (.string []),.nil,.lit (.int .i64 0),.lit (.int .i64 0),.lit (.int .i64 0)]],[],places):=
 ⟨[],by kernel_rfl⟩
set_option maxRecDepth 100000 in
theorem lifted (os:Os) (started:os.Started) (H:Type) (enc:TypeId × Value→H) (F:Stop.Interp):
  ReturnsInHanded {} Tryz.checked os 3 .any ((OpenSpec.ofChange Rows.bankCallsSpec).preRow enc Tryz.prog Tryz.f3 Rows.bankCallsRow.domain false Rows.bankCallsRow.laid) (((OpenSpec.ofChange Rows.bankCallsSpec).at F).post enc Tryz.prog Tryz.f3 false true false false):=by
 obtain ⟨places,hx⟩:=reads os enc
 refine returnsInHanded_of_row (C:=Tryz.checked) (s:=OpenSpec.ofChange Rows.bankCallsSpec) own started (by kernel_rfl) Tryz.func3
  (witness_row_at (enc:=enc) (C:=Tryz.checked) false (laidWorld os) #[.agg #[.int .i64 0,.int .i64 0,.int .i64 0,.int .i64 0,.int .i64 0],.int .i64 0,.agg #[.int .i64 0,.string .empty,.slice none 0 0,.int .i64 0,.int .i64 0,.int .i64 0]] rfl (by kernel_rfl) (by kernel_rfl) (by kernel_rfl)
   (OpenSpec.preRow_of_cond 8 hx (by kernel_rfl) (fun k hk=>by cases hk) (by kernel_rfl) (laid_met os))) ?_
 intro W base args ds gs before hval hW _ _ _ hL _ _
 exact contract H enc W base args ds gs before hval hW hL
theorem fStops:(Tryz.prog.stops==[])=true:=by kernel_rfl
theorem fKnobs:(Tryz.prog.stopKnobs==[])=true:=by kernel_rfl
theorem fPlace:(Rows.bankCallsRow.inPlace==Tryz.prog.inPlace 3)=true:=by kernel_rfl
theorem fUnfollowed:(Rows.bankCallsRow.unfollowed==Tryz.prog.unfollowed 3)=true:=by kernel_rfl
theorem fRecurses:(Rows.bankCallsRow.recurses==Tryz.prog.recurses 3)=true:=by kernel_rfl
theorem fNamed:(Rows.bankCallsRow.named==Tryz.prog.varsNamed 3)=true:=by kernel_rfl
set_option maxRecDepth 100000 in
theorem closed:joinedFacts Tryz.pinned.checked.prog 3 Tryz.f3 (OpenSpec.ofChange Rows.bankCallsSpec).bare Rows.bankCallsRow=true:=by
 show joinedFacts Tryz.prog 3 Tryz.f3 Rows.bankCallsSpec Rows.bankCallsRow=true
 unfold joinedFacts
 rw [fStops,fKnobs,fPlace,fUnfollowed,fRecurses,fNamed]
 kernel_rfl
theorem goes_no:Tryz.prog.funcs.any Func.goes=false:=by kernel_rfl
theorem goes_of {P:Program} (h:P.funcs.any Func.goes=false) (f:FuncId):P.goes f=false:=by
 unfold Program.goes
 rw [h,Bool.and_false,Bool.or_false]
 rw [List.any_eq_false]
 intro g _
 cases hg:P.funcs[g]? with
 |none=>simp
 |some fn=>
  obtain ⟨hlt,e⟩:=Array.getElem?_eq_some_iff.1 hg
  have:=Array.any_eq_false.1 h g hlt
  rw [e] at this
  simpa using this
theorem goesBy_no:false=Rows.bankCallsRow.goesBy Tryz.prog:=by
 have h:∀o:Option FuncId,o.any Tryz.prog.goes=false:=fun o=>by cases o<;>simp [goes_of goes_no]
 unfold OpenClaim.goesBy Program.goesAt Program.goesFrom
 rw [h]
 rfl
set_option maxRecDepth 100000 in
theorem said:Rows.BankCallsSaid:=
 OpenClaim.holds_of_cond 3 Tryz.f3 rfl rfl rfl rfl rfl rfl rfl ⟨rfl,rfl,rfl,rfl,rfl⟩ rfl rfl rfl rfl rfl (by kernel_rfl) Tryz.func3 closed
  (of_decide_eq_true (by kernel_rfl)) (by unfold Func.isWrapper;first|(rw [if_pos (by decide+kernel)];kernel_rfl)|(rw [if_neg (by decide+kernel)];exact ⟨rfl,rfl⟩))
  (fun os started H enc _ F=>by rw [OpenClaim.pre_eq_preRow];exact lifted os started H enc F)
theorem plain (f:FuncId) (fn:Func) (hf:Tryz.pinned.checked.prog.funcNamed "moneyer/moneyerlaw28.BankCalls" =some f) (hfn:Tryz.pinned.checked.prog.funcs[f]?=some fn):
  false=Tryz.pinned.checked.prog.looks []∧∀(j:Nat) t,fn.params[j]?=some t→Tryz.pinned.checked.prog.wantsStandIn t=false:=by
 obtain rfl:f=3:=Option.some.inj ((show Tryz.prog.funcNamed "moneyer/moneyerlaw28.BankCalls" =some 3 by kernel_rfl).symm.trans hf) |>.symm
 obtain rfl:fn=Tryz.f3:=(Option.some.inj (Tryz.func3.symm.trans hfn)).symm
 refine ⟨by kernel_rfl,fun j t ht=>?_⟩
 rw [Tryz.params3] at ht
 have ht':=Array.mem_of_getElem? ht
 simp at ht'
 rcases ht' with rfl|rfl|rfl
 ·exact (show Tryz.prog.wantsStandIn 23=false by kernel_rfl)
 ·exact (show Tryz.prog.wantsStandIn 3=false by kernel_rfl)
 ·exact (show Tryz.prog.wantsStandIn 26=false by kernel_rfl)
theorem card:Rows.BankCallsCardSaid:=
 Claim7.holds_tied_plain_at .later [] _ _ _ _ said (fun _ h=>by cases h) (by kernel_rfl) (fun _ h=>by cases h) bankCalls_row_tie rfl ⟨rfl,rfl⟩ (by kernel_rfl) rfl plain goesBy_no
#print axioms card
end Go.Proofs.YtnkjkgmohmcobaaGreatDoor.bankCalls
