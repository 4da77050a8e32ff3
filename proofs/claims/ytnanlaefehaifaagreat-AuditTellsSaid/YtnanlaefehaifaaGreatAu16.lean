/-
  Texts of this claim, joined: DL, DM, DV, DW, DX, EA.
-/
import Derived.Test.YtnanlaefehaifaaGreatAu15
set_option maxHeartbeats 6400000
set_option maxRecDepth 100000
namespace Go.Proofs.YtnanlaefehaifaaGreat
open Go.RowKit Go.Maps Go.Shelf
attribute [local go_sem] Oper.semAt_some
theorem askCatch (args : Array Value) (w : World) (n : Nat) : CallsDIn Fence.wide n Tryz.prog 238 args .returning w (fun e u' w' => (∃ v, e = .returned v) ∧ u' = .returning ∧ w' = w) := by
  refine callsDIn_of_wpSIn Tryz.func238 rfl trivial (fun c₀ cs hu => ?_)
  have hz : ∃ T : Array Value, T = args ++ Array.replicate (Tryz.f238.ntmps - args.size) undef ∧ 5 ≤ T.size := ⟨_, rfl, by rw [Tryz.ntmps238]; simp; omega⟩
  obtain ⟨T, hT, hTs⟩ := hz
  rw [← hT]
  have h2 : 2 < T.size := by omega
  have h3 : 3 < T.size := by omega
  apply wpSIn_seq
  apply wpSIn_region
  simp [wpOpsSIn, go_sem, recoverD, hu, Exit.thenS, h2]
  refine wpSIn_cond (t := false) (by simp [Act.eval, h3]) ?_
  simp only [Bool.false_eq_true, if_false]
  refine wpSIn_of_wpIn rfl (wpIn_skip ?_)
  cases c₀
  simp_all [bodyPostS, results, Tryz.results238]
theorem StR.own {s : StN} {A B C : World} (h : StR s A B) {r : Nat} {t : TypeId} {cs : Array Value} (k : Blk B r t cs) (ht : stTy t = false) (hr : A.heap.size ≤ r) (T : Turn (fun q => q = r) B C) : StR s A C := by
  refine ⟨h.1.new T hr, h.2.1, h.2.2.keep T ?_ ?_⟩
  · exact fun e => h.2.2.dev.hm.ne k e.symm
  · rintro q t' cs' rfl k'
    have e := (show B.heap[q]? = _ from k).symm.trans (show B.heap[q]? = _ from k')
    injection e with e
    injection e with _ e _
    rw [← e]
    exact ht
theorem results_cells_2 {fn : Func} {p q : Tmp} {ty t2 : TypeId} (h : fn.results = #[.cell p ty, .cell q t2]) (tmps : Array Value) (w : World) (g g2 : Nat) (cs : Array Value) (v : Value)
    (hp : tmps.getD p undef = .pointer (some ⟨g, 0, none⟩)) (hq : tmps.getD q undef = .pointer (some ⟨g2, 0, none⟩)) (hl : (loadVar ty ⟨g, 0, none⟩).run Tryz.prog w = .ok (.agg cs) w) (hl2 : (loadVar t2 ⟨g2, 0, none⟩).run Tryz.prog w = .ok v w) :
    (results fn tmps).run Tryz.prog w = .ok (.tuple #[.agg cs, v]) w := by
  have hp' : tmps[p]?.getD undef = .pointer (some ⟨g, 0, none⟩) := by simpa using hp
  have hq' : tmps[q]?.getD undef = .pointer (some ⟨g2, 0, none⟩) := by simpa using hq
  simp [results, h, hp', hq', asAddr, hl, hl2]
def getF (b : Nat) : Value := .func (.func 36) #[.pointer (some ⟨b, 0, none⟩)] #[]
theorem ask_in (n : Nat) (s : StN) (hB : StB_ s) (no : Nat) (w : World) (h : StoreI s w) (hno : (no : Int) < s.x.p) (hr : rightP (s.pg no) no = true) :
    CallsIn Fence.wide n Tryz.prog 200 #[getF s.b, .int .i64 (no : Nat)] w fun e w' => e = .returned (.tuple #[pgV (s.pg no), .int .i64 0]) ∧ StR s w w' := by
  have hl : (s.pg no).length = 512 := pgOf_length h.dev (by have := hB.p; omega)
  have HG := hide (fun W (hs : StoreI s W) => show Calls Tryz.prog 36 #[ptrV s.b, .int .i64 (no : Nat)] W fun e w' => e = .returned (.tuple #[pgV (s.pg no), .int .i64 0]) ∧ StR s W w' from by
    have := bGet_any s hB no W hs hno
    rw [show getV (s.pg no) no = .tuple #[pgV (s.pg no), .int .i64 0] from if_pos hr] at this
    exact this)
  have HS := hide h
  obtain ⟨bs, hbs⟩ : ∃ bs, bs = s.pg no := ⟨_, rfl⟩
  rw [← hbs] at HG hl ⊢
  have HX := hide (show (Tryz.prog.info? 63).map (·.size) = some (bs.map byteV).toArray.size by rw [List.size_toArray, List.length_map, hl]; exact info_pg)
  have HXZ := hide (show Tryz.zeroCells63.size = (bs.map byteV).toArray.size by rw [zeros_page, List.size_toArray, List.length_map, hl])
  have HX1 := hide (row_one bs)
  have hmf : ∀ (fn : Fn) (first cap : Array Value) (w : World), (Instr.makeFunc fn first cap).run Tryz.prog w = .ok (.func fn first cap) w := fun _ _ _ _ => rfl
  clear hbs hr h hl
  unfold pgV at *
  generalize (bs.map byteV).toArray = X at *
  unfold ptrV at *
  unfold getF
  refine callsIn_of_wp_marks Tryz.func200 rfl trivial ?_ rfl
  simp only [Tryz.ntmps200, List.size_toArray, List.length_cons, List.length_nil, Nat.reduceAdd, Nat.reduceSub, Array.replicate_succ, Array.replicate_zero, List.push_toArray, List.append_toArray, List.nil_append, List.cons_append]
  refine wpIn_wide.2 ?_
  go_wp2_with fail
  refine gen2 (R := fun W => Calls Tryz.prog _ _ W _) (fun W1 kp ke hb1 hz1 => ?_)
  have HKP := hide kp
  have HKE := hide ke
  have HB1 := hide hb1
  clear kp ke hb1
  refine (HG.out W1 (HS.out.via HB1.out)).mono ?_
  rintro e w2 ⟨rfl, hR2⟩
  have hdl : s.d < w.heap.size ∧ s.p < w.heap.size := by
    obtain ⟨⟨_, _, h1⟩, _, _, h2⟩ := HS.out.cells
    exact ⟨h1.lt, h2.lt⟩
  have HKP2 := hide (hR2.1.blk HKP.out (by omega) (by omega) (by decide))
  have ke2 := hR2.blk HKE.out (by decide)
  have HKE2 := hide ke2
  have hs1 := HS.out.via HB1.out
  have HPL := hide (show ∀ W', Turn (fun q => q = w.heap.size) w2 W' → StR s w W' from fun W' ht => by
    have h3 := (StR.of_below HS.out HB1.out).trans hR2
    refine ⟨h3.1.new ht (Nat.le_refl _), HS.out, h3.2.2.setPg HKP2.out (fun q hq e => ?_) ht⟩
    have := DevS.lt HS.out.dev q hq
    omega)
  have ke3 : Blk (w2.setRow w.heap.size X) (w.heap.size + 1) 25 #[.int .i64 0] := (touch_setRow w2 w.heap.size X).blk HKE2.out (.inr (Nat.le_refl _))
  have HKE3 := hide ke3
  have e0 : (w2.setRow w.heap.size X).cell? ⟨w.heap.size + 1, 0, none⟩ = some (.int .i64 0) := ke3.cell 0
  have e1 := ke3.frozen 0
  have e2 := ke3.lt
  clear hR2 hs1 ke2 ke3
  go_wp2_with (refine wpList_store_row rfl 63 (.tmp 4) (.tmp 10) rfl w.heap.size X rfl rfl 63 _ HKP2.out HX.out HXZ.out HX1.out ?_)
  have kp3 : Blk (w2.setRow w.heap.size X) w.heap.size 63 X := setRow_heap w2 w.heap.size _ _ _ _ HKP2.out
  have ke4 : Blk ((w2.setRow w.heap.size X).setCell ⟨w.heap.size + 1, 0, none⟩ (.int .i64 0)) (w.heap.size + 1) 25 #[.int .i64 0] := HKE3.out.set_ 0 _
  have kp4 : Blk ((w2.setRow w.heap.size X).setCell ⟨w.heap.size + 1, 0, none⟩ (.int .i64 0)) w.heap.size 63 X := (Below.heap_setCell _ ⟨w.heap.size + 1, 0, none⟩ _ w.heap.size (by simp)).trans kp3
  have HF := hide (show StR s w ((w2.setRow w.heap.size X).setCell ⟨w.heap.size + 1, 0, none⟩ (.int .i64 0)) from (HPL.out _ (Turn.setRow' _ _ _)).own HKE3.out (by decide) (by omega) (Turn.set (S := fun q => q = w.heap.size + 1) (Turn.of_below (Below.refl _ _)) (p := ⟨w.heap.size + 1, 0, none⟩) (.inl rfl) _))
  refine ⟨by simp, .inr ⟨fun h => (by cases h), _, _, _, _, rfl, ?inv, ?leads, (askCatch #[.pointer (some ⟨w.heap.size, 0, none⟩), .pointer (some ⟨w.heap.size + 1, 0, none⟩)] _ _).mono ?_⟩⟩
  case inv => simp [invoke, go_sem]
  case leads => intro f' hf'; trivial
  rintro e u' w' ⟨⟨v, rfl⟩, rfl, rfl⟩
  exact ⟨_, results_cells_2 Tryz.results200 _ _ w.heap.size (w.heap.size + 1) X (.int .i64 0) rfl rfl (run_loadVar_row _ _ _ _ X (0, 0) _ kp4 Tryz.underlying63 rfl HX.out) (by simp [loadVar, go_sem, ke4.cell 0]), rfl, HF.out⟩
theorem wpListIn_load_row {F : Fence} {nf : Nat} {P : Program} {ops : Array Oper} {rest : List Oper} {o : Oper} {a : Act} {w : World} {Q : Exit → Act → World → Prop} (hgd : o.guard = none) (ty : TypeId) (x : Operand) (ho : o.op = .load ty x)
    (g : Nat) (hx : a.eval x = .pointer (some ⟨g, 0, none⟩)) (t : TypeId) (cs : Array Value) (d : TypeDesc) (hg : w.heap[g]? = some (.cells cs t (0, 0))) (hu : P.underlying ty = some d) (hd : (match d with | .struct _ | .array _ _ => true | _ => false) = true) (hi : (P.info? ty).map (·.size) = some cs.size)
    (h : wpListIn F nf P ops Q rest (a.put o.dst (.agg cs)) w) : wpListIn F nf P ops Q (o :: rest) a w := by
  refine wpListIn_plain hgd fun K hK' => ?_
  have hrun := run_loadVar_row w g t ty cs (0, 0) d hg hu hd hi
  unfold Oper.wpIn
  refine ⟨?_, ?_⟩
  · simp [Oper.about, ho]
  · rw [Oper.semAt_plain F _ _ (by rw [ho]; intro c hc'; cases hc')]
    have h1 := hK' _ _ h
    simp only [execOp, ho, hx, Instr.loadAt, Instr.sureAddr, Sem.run_bind, Sem.run_pure, Result.andThen_ok, hrun]
    exact h1
theorem walk_in (n : Nat) (f : Value) (hf : ∃ a b c, f = .func a b c) (head used : Int) (w : World) :
    CallsIn Fence.wide n Tryz.prog 145 #[f, .int .i64 head, .int .i64 used] w fun e w' => e = .returned (.func (.func 199) #[] #[.pointer (some ⟨w.heap.size, 0, none⟩), .pointer (some ⟨w.heap.size + 1, 0, none⟩), .pointer (some ⟨w.heap.size + 1 + 1, 0, none⟩)]) ∧ w' = ((w.alloc (.cells #[f] 283)).alloc (.cells #[.int .i64 head] 3)).alloc (.cells #[.int .i64 used] 3) := by
  obtain ⟨a, b, c, rfl⟩ := hf
  refine callsIn_of_wp Tryz.func145 rfl trivial ?_ rfl
  simp only [Tryz.ntmps145, List.size_toArray, List.length_cons, List.length_nil, Nat.reduceAdd, Nat.reduceSub, Array.replicate_succ, Array.replicate_zero, List.push_toArray, List.append_toArray, List.nil_append, List.cons_append]
  gi_wp2
  go_ret
  exact ⟨rfl, rfl⟩
theorem numI_two (bs : List UInt8) (i : Nat) (h : i + 2 ≤ bs.length) : 0 ≤ numI (cutB bs i 2) ∧ numI (cutB bs i 2) < 65536 := by
  obtain ⟨a, b, hab⟩ : ∃ a b, cutB bs i 2 = [a, b] := by
    have hl : (cutB bs i 2).length = 2 := by unfold cutB; rw [List.length_take, List.length_drop]; omega
    match hc : cutB bs i 2, hl with
    | [a, b], _ => exact ⟨a, b, rfl⟩
  rw [hab]
  have ha := a.toNat_lt
  have hb := b.toNat_lt
  have hn : numB [a, b] = 256 * a.toNat + b.toNat := by simp [numB]
  unfold numI
  rw [hn]
  unfold wrap64
  omega
def nxI (s : StN) (no : Nat) : Nat := (numI (cutB (s.pg no) 14 2)).toNat
def elemsD (s : StN) (r : List Nat × Bool) : List (List UInt8 × Int) := r.1.map (fun no => (s.pg no, (0 : Int))) ++ if r.2 = true then [] else [(zPg, 14)]
def elArg (x : List UInt8 × Int) : Array Value := #[pgV x.1, .int .i64 x.2]
end Go.Proofs.YtnanlaefehaifaaGreat
namespace Go.Proofs.YtnanlaefehaifaaGreat
open Go.RowKit Go.Maps Go.Shelf
attribute [local go_sem] Oper.semAt_some
theorem wpListIn_store_row {F : Fence} {nf : Nat} {P : Program} {ops : Array Oper} {rest : List Oper} {o : Oper} {a : Act} {w : World} {Q : Exit → Act → World → Prop} (hgd : o.guard = none) (ty : TypeId) (x y : Operand) (ho : o.op = .store ty x y)
    (g : Nat) (cells : Array Value) (hx : a.eval x = .pointer (some ⟨g, 0, none⟩)) (hy : a.eval y = .agg cells)
    (t : TypeId) (old : Array Value) (hg : w.heap[g]? = some (.cells old t (0, 0))) (hi : (P.info? ty).map (·.size) = some cells.size)
    (hold : old.size = cells.size) (h1 : cells.all (·.oneCell') = true)
    (h : wpListIn F nf P ops Q rest (a.put o.dst undef) (w.setRow g cells)) : wpListIn F nf P ops Q (o :: rest) a w := by
  refine wpListIn_plain hgd fun K hK' => ?_
  have h2 := hK' _ _ h
  unfold Oper.wpIn
  refine ⟨?_, ?_⟩
  · simp [Oper.about, ho]
  · rw [Oper.semAt_plain F _ _ (by rw [ho]; intro c hc'; cases hc')]
    simp only [execOp, ho, hx, hy, Instr.storeAt, Instr.sureAddr, Sem.run_bind, Sem.run_pure, Result.andThen_ok, run_storeVar_row w g t ty old cells hg hi hold h1]
    exact h2
theorem elems_stop (s : StN) : elemsD s ([], false) = [(zPg, 14)] := rfl
theorem elems_one (s : StN) (no : Nat) : elemsD s ([no], true) = [(s.pg no, 0)] := rfl
theorem elems_more (s : StN) (no : Nat) (r : List Nat × Bool) : elemsD s (no :: r.1, r.2) = (s.pg no, 0) :: elemsD s r := rfl
theorem walkP_zero (nx : Nat → Nat) (u no : Nat) : walkP nx u 0 no = ([], false) := rfl
theorem walkP_out {nx : Nat → Nat} {u k no : Nat} (h : no < 1 ∨ u ≤ no) : walkP nx u k no = ([], false) := by
  cases k with
  | zero => rfl
  | succ k => unfold walkP; rw [if_pos h]
theorem walkP_last {nx : Nat → Nat} {u k no : Nat} (h : ¬ (no < 1 ∨ u ≤ no)) (hk : 0 < k) (hn : nx no = 0) : walkP nx u k no = ([no], true) := by
  obtain ⟨k, rfl⟩ : ∃ j, k = j + 1 := ⟨k - 1, by omega⟩
  unfold walkP
  rw [if_neg h, if_pos hn]
theorem walkP_on {nx : Nat → Nat} {u k no : Nat} (h : ¬ (no < 1 ∨ u ≤ no)) (hk : 0 < k) (hn : nx no ≠ 0) : walkP nx u k no = (no :: (walkP nx u (k - 1) (nx no)).1, (walkP nx u (k - 1) (nx no)).2) := by
  obtain ⟨k, rfl⟩ : ∃ j, k = j + 1 := ⟨k - 1, by omega⟩
  conv => lhs; unfold walkP
  rw [if_neg h, if_neg hn]
  rfl
def TNext {α : Type} (full pre : List α) (x : α) : Prop := ∃ r, full = pre ++ x :: r
def SPre {α : Type} (full pre : List α) : Prop := ∃ r, full = pre ++ r
def WkI (s : StN) (u : Nat) (full : List (List UInt8 × Int)) (J : List (List UInt8 × Int) → World → Prop) (j no : Nat) (wr : World) : Prop := ∃ pre, full = pre ++ elemsD s (walkP (nxI s) u (u - j) no) ∧ J pre wr
theorem walk1_in (n : Nat) (hn : 2 ≤ n) (s : StN) (u : Nat) (hK : StK s u) (hu : u ≤ 100000) (hrt : ∀ no : Nat, 1 ≤ no → no < u → rightP (s.pg no) no = true) (lp Bg Bh Bu head : Nat) (full : List (List UInt8 × Int)) (hfull : full = elemsD s (walkP (nxI s) u u head)) (Bs : Nat → Prop)
    (J Jx : List (List UInt8 × Int) → World → Prop) (w : World) (hBs : ∀ q, Bs q → q < w.heap.size) (hb1 : ¬ Bs Bg) (hb3 : ¬ Bs Bu) (hI : ∀ pre A, J pre A → StoreI s A)
    (hJR : ∀ pre A B, J pre A → StR s A B → J pre B)
    (hY : ∀ pre x W1, J pre W1 → TNext full pre x → YieldAt Fence.wide (n - 1) Tryz.prog lp (elArg x) W1 fun e W' =>
      (e = .returned (.bool true) ∧ J (pre ++ [x]) W' ∧ Turn Bs W1 W') ∨ (e = .returned (.bool false) ∧ Jx (pre ++ [x]) W'))
    (kg : Blk w Bg 283 #[getF s.b]) (kh : Blk w Bh 3 #[.int .i64 (head : Nat)]) (ku : Blk w Bu 3 #[.int .i64 (u : Nat)]) (h0 : J [] w) (hhd : head ≤ 100000) :
    CallsIn Fence.wide n Tryz.prog 199 #[.func (.yield lp) #[] #[], .pointer (some ⟨Bg, 0, none⟩), .pointer (some ⟨Bh, 0, none⟩), .pointer (some ⟨Bu, 0, none⟩)] w fun e W' => (∃ v, e = .returned v) ∧ ((∃ xs, xs = full ∧ J xs W') ∨ (∃ pre, SPre full pre ∧ Jx pre W')) := by
  have c1 : w.cell? ⟨Bg, 0, none⟩ = some (getF s.b) := kg.cell 0
  have c2 : w.cell? ⟨Bh, 0, none⟩ = some (.int .i64 (head : Nat)) := kh.cell 0
  unfold getF at c1
  have HKG := hide kg
  have HKU := hide ku
  have HJ0 := hide h0
  have HF := hide hfull
  have HRT := hide hrt
  have HP : Hid (∀ no : Nat, no < u → (no : Int) < s.x.p) := hide (fun no h => by have := hK.ul; omega)
  have HLEN := hide (fun (no : Nat) (h : no < u) => show (s.pg no).length = 512 from pgOf_length (hI _ _ h0).dev (by have := hK.b.p; have := hK.ul; omega))
  clear kg kh ku h0 hfull hrt
  have hneq : ∀ W : World, (binOp BinOp.eql 283 (.func (.func 36) #[.pointer (some ⟨s.b, 0, none⟩)] #[]) Value.nilFunc).run Tryz.prog W = .ok (.bool false) W := fun W => by
    have h : ∀ d, (Op.equalIn (d + 1) 283 (.func (.func 36) #[.pointer (some ⟨s.b, 0, none⟩)] #[]) Value.nilFunc).run Tryz.prog W = .ok false W := fun d => by simp [Op.equalIn, run_underlying Tryz.underlying283]
    have h2 : (Op.equal 283 (.func (.func 36) #[.pointer (some ⟨s.b, 0, none⟩)] #[]) Value.nilFunc).run Tryz.prog W = .ok false W := h 9999
    simp only [binOp]
    simp [h2]
  refine callsIn_of_wp Tryz.func199 rfl trivial ?_ rfl
  simp only [Tryz.ntmps199, List.size_toArray, List.length_cons, List.length_nil, Nat.reduceAdd, Nat.reduceSub, Array.replicate_succ, Array.replicate_zero, List.push_toArray, List.append_toArray, List.nil_append, List.cons_append]
  gi_wp2_with fail
  gi_loopw [5, 6] (fun i t wr => ∃ no j : Nat, j ≤ u ∧ i = .int .i64 no ∧ t = .int .i64 j ∧ no ≤ 100000 ∧ WkI s u full J j no wr ∧ Blk wr Bg 283 #[getF s.b] ∧ Blk wr Bu 3 #[.int .i64 (u : Nat)] ∧ w.heap.size ≤ wr.heap.size)
    (fun _ t _ => u - (intOf t).toNat)
  case atStart => exact ⟨head, 0, Nat.zero_le _, rfl, rfl, hhd, ⟨[], HF.out, HJ0.out⟩, HKG.out, HKU.out, Nat.le_refl _⟩
  case round =>
    obtain ⟨no, j, hju, rfl, rfl, hno, ⟨pre, hfl, hJp⟩, kg, ku, hz⟩ := hrel
    have hn1 : 1 ≤ n := by omega
    have HFL := hide hfl
    have HKGr := hide kg
    have HKUr := hide ku
    have u0 : wr.cell? ⟨Bu, 0, none⟩ = some (.int .i64 (u : Nat)) := ku.cell 0
    have g0 : wr.cell? ⟨Bg, 0, none⟩ = some (getF s.b) := kg.cell 0
    unfold getF at g0
    clear hfl kg ku c1 c2
    by_cases hstop : no < 1 ∨ u ≤ no ∨ u ≤ j
    · have HFE := hide (show full = pre ++ [(zPg, 14)] by
        rw [HFL.out]
        rcases hstop with h | h | h
        · rw [walkP_out (.inl h), elems_stop]
        · rw [walkP_out (.inr h), elems_stop]
        · rw [show u - j = 0 by omega, walkP_zero, elems_stop])
      obtain ⟨fn, tmps, assign, body, hy, hR⟩ := hY pre (zPg, 14) wr hJp ⟨[], HFE.out⟩
      rw [show elArg (zPg, 14) = #[.agg Tryz.zeroCells63, .int .i64 14] by unfold elArg pgV; rw [zPg_zero]] at hy
      by_cases h1 : no < 1
      · have t1 : (no : Int) < 1 := by omega
        clear hstop
        gi_wp2
        refine hR.mono ?_
        rintro e W3 (⟨rfl, hJ4, hT⟩ | ⟨rfl, hJx⟩)
        · gi_wp2
          refine bodyPost_ret (results_none rfl _ _ _) rfl ?_
          exact ⟨⟨_, rfl⟩, .inl ⟨_, HFE.out.symm, hJ4⟩⟩
        · gi_wp2
          refine bodyPost_ret (results_none rfl _ _ _) rfl ?_
          exact ⟨⟨_, rfl⟩, .inr ⟨_, ⟨[], by rw [List.append_nil]; exact HFE.out⟩, hJx⟩⟩
      · have t1 : ¬ (no : Int) < 1 := by omega
        by_cases h2 : u ≤ no
        · have t2 : (u : Int) ≤ no := by omega
          clear hstop
          gi_wp2
          refine hR.mono ?_
          rintro e W3 (⟨rfl, hJ4, hT⟩ | ⟨rfl, hJx⟩)
          · gi_wp2
            refine bodyPost_ret (results_none rfl _ _ _) rfl ?_
            exact ⟨⟨_, rfl⟩, .inl ⟨_, HFE.out.symm, hJ4⟩⟩
          · gi_wp2
            refine bodyPost_ret (results_none rfl _ _ _) rfl ?_
            exact ⟨⟨_, rfl⟩, .inr ⟨_, ⟨[], by rw [List.append_nil]; exact HFE.out⟩, hJx⟩⟩
        · have t2 : ¬ (u : Int) ≤ no := by omega
          have t3 : (u : Int) ≤ j := by omega
          clear hstop
          gi_wp2
          refine hR.mono ?_
          rintro e W3 (⟨rfl, hJ4, hT⟩ | ⟨rfl, hJx⟩)
          · gi_wp2
            refine bodyPost_ret (results_none rfl _ _ _) rfl ?_
            exact ⟨⟨_, rfl⟩, .inl ⟨_, HFE.out.symm, hJ4⟩⟩
          · gi_wp2
            refine bodyPost_ret (results_none rfl _ _ _) rfl ?_
            exact ⟨⟨_, rfl⟩, .inr ⟨_, ⟨[], by rw [List.append_nil]; exact HFE.out⟩, hJx⟩⟩
    · have h1 : 1 ≤ no := by omega
      have h2 : no < u := by omega
      have h3 : j < u := by omega
      have t1 : ¬ (no : Int) < 1 := by omega
      have t2 : ¬ (u : Int) ≤ no := by omega
      have t3 : ¬ (u : Int) ≤ j := by omega
      have hr := HRT.out no h1 h2
      have hl := HLEN.out no h2
      have HAS := hide (ask_in (n - 1) s hK.b no wr (hI _ _ hJp) (HP.out no h2) hr)
      obtain ⟨bs, hbs⟩ : ∃ bs, bs = s.pg no := ⟨_, rfl⟩
      have HBS := hide hbs
      rw [← hbs] at HAS hr hl
      have HNX := hide (fun W => pNext_any bs hl W)
      obtain ⟨hx0, hx1⟩ := numI_two bs 14 (by omega)
      have HNI := hide (show (numI (cutB bs 14 2)) = ((nxI s no : Nat) : Int) by unfold nxI; rw [← hbs]; omega)
      have hxl : nxI s no < 65536 := by unfold nxI; rw [← hbs]; omega
      rw [HNI.out] at HNX
      have HX := hide (show (Tryz.prog.info? 63).map (·.size) = some (bs.map byteV).toArray.size by rw [List.size_toArray, List.length_map, hl]; exact info_pg)
      have HXZ := hide (show Tryz.zeroCells63.size = (bs.map byteV).toArray.size by rw [zeros_page, List.size_toArray, List.length_map, hl])
      have HX1 := hide (row_one bs)
      obtain ⟨X, hX⟩ : ∃ X, X = (bs.map byteV).toArray := ⟨_, rfl⟩
      have HXX := hide hX
      unfold pgV at HAS HNX
      unfold getF at HAS
      rw [← hX] at HAS HNX HX HXZ HX1
      have HSTP := hide hstop
      have HJP := hide hJp
      clear hstop hbs hr hl hx0 hx1 hX
      gi_wp2_with fail
      refine ⟨trivial, ?_⟩
      refine HAS.out.mono ?_
      rintro e w2 ⟨rfl, hR2⟩
      have hz2 := hR2.1.size
      have hb3 : Below w2.heap.size w2 ((w2.alloc (.cells Tryz.zeroCells63 63)).setRow w2.heap.size X) := (touch_setRow _ w2.heap.size X).below ((Below.refl w2.heap.size w2).alloc (Nat.le_refl _) _) (Nat.le_refl _)
      have hR3 := hR2.trans (StR.of_below hR2.2.2 hb3)
      have hJ3 := hJR _ _ _ HJP.out hR3
      have kq3 : Blk ((w2.alloc (.cells Tryz.zeroCells63 63)).setRow w2.heap.size X) w2.heap.size 63 X := setRow_heap _ w2.heap.size _ _ _ _ (Blk.new w2 _ _)
      have HG3 := hide (hR3.blk HKGr.out (by decide))
      have HU3 := hide (hR3.blk HKUr.out (by decide))
      have HTN := hide (show ∃ r, full = (pre ++ [(bs, (0 : Int))]) ++ r ∧ (nxI s no = 0 → r = []) ∧ (nxI s no ≠ 0 → r = elemsD s (walkP (nxI s) u (u - (j + 1)) (nxI s no))) by
        by_cases hnx : nxI s no = 0
        · refine ⟨[], ?_, fun _ => rfl, fun h => absurd hnx h⟩
          rw [HFL.out, walkP_last (by omega) (by omega) hnx, elems_one, HBS.out, List.append_nil]
        · refine ⟨_, ?_, fun h => absurd h hnx, fun _ => rfl⟩
          rw [HFL.out, walkP_on (by omega) (by omega) hnx, elems_more, HBS.out, show u - j - 1 = u - (j + 1) by omega, List.append_assoc]
          rfl)
      have hTX : TNext full pre (bs, (0 : Int)) := by
        obtain ⟨r, h1, _⟩ := HTN.out
        exact ⟨r, by rw [h1, List.append_assoc]; rfl⟩
      obtain ⟨fn, tmps, assign, body, hy, hR⟩ := hY pre (bs, 0) _ hJ3 hTX
      rw [show elArg (bs, 0) = #[.agg X, .int .i64 0] by unfold elArg pgV; rw [← HXX.out]] at hy
      have HQ3 := hide kq3
      clear hR2 hb3 hR3 hJ3 kq3 hTX
      gi_wp2_with (first
        | (refine wpListIn_store_row rfl 63 (.tmp 7) (.tmp 36) rfl w2.heap.size X rfl rfl 63 _ (Blk.new w2 _ _) HX.out HXZ.out HX1.out ?_)
        | (refine wpListIn_load_row rfl 63 (.tmp 7) rfl w2.heap.size rfl 63 X _ HQ3.out Tryz.underlying63 rfl HX.out ?_))
      refine hR.mono ?_
      rintro e W4 (⟨rfl, hJ4, hT⟩ | ⟨rfl, hJx⟩)
      · have HJ4 := hide hJ4
        have hz3 := hT.size
        have hz33 : w2.heap.size < ((w2.alloc (.cells Tryz.zeroCells63 63)).setRow w2.heap.size X).heap.size := HQ3.out.lt
        have HQ4 := hide (hT.blk HQ3.out (fun h => by have := hBs _ h; omega))
        have HG4 := hide (hT.blk HG3.out hb1)
        have HU4 := hide (hT.blk HU3.out hb3)
        have hz4 : w.heap.size ≤ W4.heap.size := by omega
        clear hT hJ4
        by_cases hnx : nxI s no = 0
        · have hnx' : ((nxI s no : Nat) : Int) = 0 := by omega
          have HFE := hide (show full = pre ++ [(bs, (0 : Int))] by obtain ⟨r, h1, h2, _⟩ := HTN.out; rw [h1, h2 hnx, List.append_nil])
          clear hnx
          gi_wp2_with (first
            | (refine wpListIn_load_row rfl 63 (.tmp 7) rfl w2.heap.size rfl 63 X _ HQ4.out Tryz.underlying63 rfl HX.out ?_)
            | (refine ⟨trivial, ?_⟩; gi_at_call 140; refine (callsIn_wide.2 (HNX.out _)).mono ?_; rintro e w5 ⟨rfl, hb5⟩))
          refine bodyPost_ret (results_none rfl _ _ _) rfl ?_
          exact ⟨⟨_, rfl⟩, .inl ⟨_, HFE.out.symm, hJR _ _ _ HJ4.out (StR.of_below (hI _ _ HJ4.out) hb5)⟩⟩
        · have hnx' : ¬ ((nxI s no : Nat) : Int) = 0 := by omega
          have HFE := hide (show full = (pre ++ [(bs, (0 : Int))]) ++ elemsD s (walkP (nxI s) u (u - (j + 1)) (nxI s no)) by obtain ⟨r, h1, _, h2⟩ := HTN.out; rw [h1, h2 hnx])
          clear hnx
          gi_wp2_with (first
            | (refine wpListIn_load_row rfl 63 (.tmp 7) rfl w2.heap.size rfl 63 X _ HQ4.out Tryz.underlying63 rfl HX.out ?_)
            | (refine ⟨trivial, ?_⟩; gi_at_call 140; refine (callsIn_wide.2 (HNX.out _)).mono ?_; rintro e w5 ⟨rfl, hb5⟩))
          go_roundw
          case rel => exact ⟨nxI s no, j + 1, by omega, rfl, by go_num, by omega, ⟨_, HFE.out, hJR _ _ _ HJ4.out (StR.of_below (hI _ _ HJ4.out) hb5)⟩, Blk.via hb5 HG4.out, Blk.via hb5 HU4.out, Nat.le_trans hz4 hb5.size⟩
          case measure => simp [intOf]; omega
      · obtain ⟨r, hr1, _⟩ := HTN.out
        gi_wp2
        refine bodyPost_ret (results_none rfl _ _ _) rfl ?_
        exact ⟨⟨_, rfl⟩, .inr ⟨_, ⟨r, hr1⟩, hJx⟩⟩
theorem walk_seq (n : Nat) (hn : 2 ≤ n) (s : StN) (u : Nat) (hK : StK s u) (hu : u ≤ 100000) (hrt : ∀ no : Nat, 1 ≤ no → no < u → rightP (s.pg no) no = true) (Bg Bh Bu head : Nat) (Bs : Nat → Prop) (w : World) (hBs : ∀ q, Bs q → q < w.heap.size) (hb1 : ¬ Bs Bg) (hb3 : ¬ Bs Bu)
    (kg : Blk w Bg 283 #[getF s.b]) (kh : Blk w Bh 3 #[.int .i64 (head : Nat)]) (ku : Blk w Bu 3 #[.int .i64 (u : Nat)]) (hhd : head ≤ 100000) :
    SeqW Fence.wide n Tryz.prog 199 #[.pointer (some ⟨Bg, 0, none⟩), .pointer (some ⟨Bh, 0, none⟩), .pointer (some ⟨Bu, 0, none⟩)] elArg (StR s) (StoreI s) Bs (TNext (elemsD s (walkP (nxI s) u u head))) (fun xs => xs = elemsD s (walkP (nxI s) u u head)) (SPre (elemsD s (walkP (nxI s) u u head))) w :=
  fun l J Jx W hW hI hJR hY h0 => walk1_in n hn s u hK hu hrt l Bg Bh Bu head _ rfl Bs J Jx W (fun q hq => Nat.lt_of_lt_of_le (hBs q hq) hW.size) hb1 hb3 hI hJR hY (Blk.via hW kg) (Blk.via hW kh) (Blk.via hW ku) h0 hhd
end Go.Proofs.YtnanlaefehaifaaGreat
namespace Go.Proofs.YtnanlaefehaifaaGreat
open Go.RowKit Go.Maps Go.Shelf
theorem info_int : (Tryz.prog.info? 3).map (fun i => (i.zero, i.size, i.bytes)) = some (some (.int .i64 0), 1, 8) := by kernel_rfl
theorem walkP_out0 {nx : Nat → Nat} {u k no : Nat} (h : no < 1 ∨ u ≤ no) : walkP nx u k no = ([], false) := by
  cases k with
  | zero => rfl
  | succ k => unfold walkP; rw [if_pos h]
def nxL (ps : List (List UInt8)) (no : Nat) : Nat := (numI (cutB (ps.getD no []) 14 2)).toNat
def slLen : Value → Nat
  | .slice _ n _ => n
  | _ => 0
def natV (n : Nat) : Value := .int .i64 (n : Nat)
def WayP (w : World) (r : List Nat × Bool) (e : Ending) (w' : World) : Prop := ∃ A c, e = .returned (.tuple #[.slice A r.1.length c, .int .i64 (errI r.2)]) ∧ w'.ownsRow w.heap.size 3 1 (.slice A r.1.length c) r.1.length (r.1.map natV) ∧ Below w.heap.size w w'
theorem rWalk_any (A : Option Addr) (n c : Nat) (ps : List (List UInt8)) (head u : Nat) (B : Nat) (w : World) (hB : B ≤ w.heap.size) (h : PgsR w B A n ps) (hu : u ≤ n) (hn : n ≤ 100000) (hh : head ≤ 100000) :
    Calls Tryz.prog 84 #[.slice A n c, .int .i64 (head : Nat), .int .i64 (u : Nat)] w (WayP w (walkP (nxL ps) u u head)) := by
  obtain ⟨i0, hi, hz0, hz1, hz2⟩ := info_parts info_int
  have HP := hide h
  obtain ⟨full, hfull⟩ : ∃ r, r = walkP (nxL ps) u u head := ⟨_, rfl⟩
  rw [← hfull]
  have HF := hide hfull
  clear hfull h
  go_enter Tryz.func84, Tryz.ntmps84
  go_wp2
  go_loopw [8, 1] (fun t i wr => ∃ (pre : List Nat) (no : Nat), pre.length ≤ u ∧ no ≤ 100000 ∧ i = .int .i64 (no : Nat) ∧ wr.ownsRow w.heap.size 3 1 t pre.length (pre.map natV) ∧ Below w.heap.size w wr ∧ Hid (full = (pre ++ (walkP (nxL ps) u (u - pre.length) no).1, (walkP (nxL ps) u (u - pre.length) no).2))) (fun t _ _ => u - slLen t)
  case atStart => exact ⟨[], head, Nat.zero_le _, hh, rfl, World.ownsRow_nil _ _ _ _, Below.refl _ _, hide (by rw [HF.out]; rfl)⟩
  case round =>
    obtain ⟨pre, no, hpl, hno, rfl, hown, hbw, HFL⟩ := hrel
    obtain ⟨A3, c3, rfl, hcap3, _, _, hR, _⟩ := own_slice hown
    by_cases hstop : no < 1 ∨ u ≤ no ∨ u ≤ pre.length
    · have HFE := hide (show full = (pre, false) by
        rw [HFL.out]
        rcases hstop with h | h | h
        · rw [walkP_out0 (.inl h), List.append_nil]
        · rw [walkP_out0 (.inr h), List.append_nil]
        · rw [show u - pre.length = 0 by omega]
          show (pre ++ [], false) = _
          rw [List.append_nil])
      have hfin : WayP w full (.returned (.tuple #[.slice A3 pre.length c3, .int .i64 14])) wr := by
        rw [HFE.out]
        exact ⟨A3, c3, rfl, hown, hbw⟩
      have HFIN := hide hfin
      clear hfin hR hown hcap3
      by_cases h1 : no < 1
      · have t1 : (no : Int) < 1 := by omega
        clear hstop
        go_wp2
        go_ret2
        exact HFIN.out
      · have t1 : ¬ (no : Int) < 1 := by omega
        by_cases h2 : u ≤ no
        · have t2 : (u : Int) ≤ no := by omega
          clear hstop
          go_wp2
          go_ret2
          exact HFIN.out
        · have t2 : ¬ (u : Int) ≤ no := by omega
          have t3 : (u : Int) ≤ pre.length := by omega
          clear hstop
          go_wp2
          go_ret2
          exact HFIN.out
    · have h1 : ¬ (no < 1 ∨ u ≤ no) := by omega
      have t1 : ¬ (no : Int) < 1 := by omega
      have t2 : ¬ (u : Int) ≤ no := by omega
      have t3 : ¬ (u : Int) ≤ pre.length := by omega
      have t4 : ¬ (n : Int) ≤ no := by omega
      have s1 : (0 : Int) ≤ no := by omega
      have s2 : (no : Int) < n := by omega
      have hz := hbw.size
      obtain ⟨b, o, A', c', p, rfl, hp, hl, hc0, hc1, hc2, hr⟩ := HP.out.at_ (k := no) (by omega)
      clear hc1 hc2
      have hbl : b < w.heap.size := by
        obtain ⟨o', g1, g2⟩ := cells_of_cell hc0
        exact (Array.getElem?_eq_some_iff.1 g1).1
      have hnp : ps.getD no [] = p := by rw [List.getD_eq_getElem?_getD, hp]; rfl
      obtain ⟨hx0, hx1⟩ := numI_two p 14 (by omega)
      have hni : numI (cutB p 14 2) = ((nxL ps no : Nat) : Int) := by unfold nxL; rw [hnp]; exact (Int.toNat_of_nonneg hx0).symm
      have hxl : nxL ps no < 65536 := by unfold nxL; rw [hnp]; exact (Int.toNat_lt hx0).2 hx1
      have HNX := hide (fun W (hb : Below w.heap.size w W) => rNext_any A' 512 c' p B W (by omega) hl.symm (hr.below hb hB) rfl)
      rw [hni] at HNX
      have HC0 := hide hc0
      have HR0 := hide (World.ownsRow.lt hown)
      clear hstop hc0 hr hx0 hx1 hni hnp hp hR hcap3 hl
      go_wp2_with (at_builtin; refine wpList_append_any _ rfl (.tmp 28) (.tmp 30) _ rfl w.heap.size 3 i0 _ 1 8 Tryz.underlying30 hi hz0 hz1 hz2 rfl (by omega) _ _ _ rfl (hown.alloc _) (wr.heap.size + 1) (some ⟨wr.heap.size, 0, none⟩) 1 1 [natV no] rfl ?c2 ?c3 ?c4 ?c5 ?c6 ?_)
      case c2 => exact Reads.of_blk (size := 1) (n := 1) (Blk.new wr 3 #[.int .i64 (no : Nat)]) rfl
      case c3 => simp [natV, Value.oneCell']
      case c4 => unfold maxLen; omega
      case c5 => omega
      case c6 => first | omega | (simp; omega)
      intro v' w1 hown1 hg hat
      have hbw1 : Below w.heap.size w w1 := (hbw.alloc hz _).grown hg (by simp; omega) (fun q hq => (HR0.out q hq).1)
      obtain ⟨A4, c4, rfl, hcap4, _, _, hR4, _⟩ := own_slice hown1
      have hmap : pre.map natV ++ [natV no] = (pre ++ [no]).map natV := by rw [List.map_append]; rfl
      rw [hmap] at hown1 hR4
      have z0 : w1.cell? ⟨b, o + no, none⟩ = some (.slice A' 512 c') := (hbw1.cell (p := ⟨b, o + no, none⟩) hbl).trans HC0.out
      have z1 : b < w1.heap.size := by have := hbw1.size; omega
      have HO1 := hide hown1
      have HB1 := hide hbw1
      have HR1 := hide hR4
      clear hown1 hg hat hbw1 hR4 hmap hcap4
      by_cases hnx : nxL ps no = 0
      · have HFE := hide (show full = (pre ++ [no], true) by rw [HFL.out, walkP_last h1 (by omega) hnx])
        have hnx' : ((nxL ps no : Nat) : Int) = 0 := by omega
        go_wp2_with (go_at_call 100; refine (HNX.out _ HB1.out).mono ?_; rintro e w' ⟨rfl, hw'⟩; obtain rfl := hw'.symm)
        go_ret2
        rw [HFE.out]
        exact ⟨A4, c4, by rw [List.length_append]; rfl, by rw [List.length_append]; exact HO1.out, HB1.out⟩
      · have HFE := hide (show full = ((pre ++ [no]) ++ (walkP (nxL ps) u (u - (pre.length + 1)) (nxL ps no)).1, (walkP (nxL ps) u (u - (pre.length + 1)) (nxL ps no)).2) by
          rw [HFL.out, walkP_on h1 (by omega) hnx, show u - pre.length - 1 = u - (pre.length + 1) by omega, List.append_assoc]
          rfl)
        have hnx' : ¬ ((nxL ps no : Nat) : Int) = 0 := by omega
        go_wp2_with (go_at_call 100; refine (HNX.out _ HB1.out).mono ?_; rintro e w' ⟨rfl, hw'⟩; obtain rfl := hw'.symm)
        go_roundw
        case rel => exact ⟨pre ++ [no], nxL ps no, by rw [List.length_append]; simp; omega, by omega, rfl, by rw [List.length_append]; exact HO1.out, HB1.out, hide (by rw [List.length_append]; exact HFE.out)⟩
        case measure => simp [slLen]; omega
end Go.Proofs.YtnanlaefehaifaaGreat
namespace Go.Proofs.YtnanlaefehaifaaGreat
open Go.RowKit Go.Maps Go.Shelf
theorem hasK_take {ks : List ByteArray} {k x : ByteArray} {i : Nat} (h : ks[i]? = some x) (hn : hasK (ks.take i) k = false) : hasK (ks.take (i + 1)) k = (x.data == k.data) := by
  obtain ⟨q1, q2⟩ := List.getElem?_eq_some_iff.1 h
  rw [List.take_succ_eq_append_getElem q1, q2]
  unfold hasK at *
  rw [List.any_append, hn]
  simp
theorem hasK_at {ks : List ByteArray} {k x : ByteArray} {i : Nat} (h : ks[i]? = some x) (he : x = k) : hasK ks k = true := by
  unfold hasK
  rw [List.any_eq_true]
  exact ⟨x, List.mem_of_getElem? h, by rw [he]; simp⟩
theorem rHas_any (A : Option Addr) (n c : Nat) (ks : List ByteArray) (k : ByteArray) (B : Nat) (w : World) (hn : n = ks.length) (hl : n ≤ 1000000) (h : Reads w B 1 A n (ks.map Value.string)) :
    Calls Tryz.prog 86 #[.slice A n c, .string k] w fun e w' => e = .returned (.bool (hasK ks k)) ∧ w' = w := by
  have HR := hide h
  clear h
  go_enter Tryz.func86, Tryz.ntmps86
  go_wp2
  go_loopw [5] (fun i wr => wr = w ∧ ∃ j : Nat, j ≤ n ∧ i = .int .i64 j ∧ Hid (hasK (ks.take j) k = false)) (fun i _ => n - (intOf i).toNat)
  case atStart => exact ⟨rfl, 0, Nat.zero_le _, rfl, hide rfl⟩
  case round =>
    obtain ⟨rfl, j, hj, rfl, HN⟩ := hrel
    have HNL := hide hn
    by_cases hlt : j < n
    · obtain ⟨x, hx⟩ : ∃ x, ks[j]? = some x := ⟨_, List.getElem?_eq_getElem (by omega)⟩
      obtain ⟨b, o, rfl, hb, hc⟩ := HR.out.plain (by omega) (by omega)
      have c0 : wr.cell? ⟨b, o + j, none⟩ = some (.string x) := hc j _ (by rw [List.getElem?_map, hx]; rfl)
      have s1 : (j : Int) < n := by omega
      have s2 : (0 : Int) ≤ j := by omega
      have hbl : b < wr.heap.size := by
        obtain ⟨o', g1, g2⟩ := cells_of_cell c0
        exact (Array.getElem?_eq_some_iff.1 g1).1
      by_cases he : x = k
      · have HT := hide (hasK_at hx he)
        clear hc hx hn
        subst he
        go_wp2
        go_ret
        exact ⟨by rw [HT.out]; rfl, rfl⟩
      · have HF := hide (show hasK (ks.take (j + 1)) k = false by
          rw [hasK_take hx HN.out, beq_eq_false_iff_ne]
          intro e
          exact he (by cases x; cases k; simp_all))
        have t1 : (x.toList == k.toList) = false := by rw [beq_eq_false_iff_ne]; exact fun e => he (toList_inj e)
        clear hc hx hn
        go_wp2
        go_roundw
        case rel => exact ⟨by trivial, j + 1, by omega, by go_num, HF⟩
        case measure => simp [intOf]; omega
    · obtain rfl : j = n := by omega
      have hkl := HNL.out
      have HF := hide (show hasK ks k = false by have := HN.out; rwa [List.take_of_length_le (by omega)] at this)
      clear hkl
      clear hn
      go_wp2
      go_ret
      exact ⟨by rw [HF.out]; rfl, rfl⟩
end Go.Proofs.YtnanlaefehaifaaGreat
namespace Go.Proofs.YtnanlaefehaifaaGreat
open Go.RowKit Go.Maps Go.Shelf
def liveI (l : List ItemD) : List ItemD := l.filter (fun x => x.st != 0)
theorem liveI_append (a b : List ItemD) : liveI (a ++ b) = liveI a ++ liveI b := by unfold liveI; rw [List.filter_append]
theorem keysD_live (hd : ByteArray → Int) (head : Int) (l : List ItemD) : ∀ ks, keysD hd head l ks = keysD hd head (liveI l) ks := by
  induction l with
  | nil => exact fun _ => rfl
  | cons x r ih =>
    intro ks
    by_cases hx : x.st = 0
    · have e : liveI (x :: r) = liveI r := by unfold liveI; rw [List.filter_cons_of_neg (by simp [hx])]
      rw [e, ← ih]
      conv => lhs; unfold keysD
      rw [if_pos hx]
    · have e : liveI (x :: r) = x :: liveI r := by unfold liveI; rw [List.filter_cons_of_pos (by simpa using hx)]
      rw [e]
      unfold keysD
      rw [if_neg hx, if_neg hx]
      split
      · rfl
      · exact ih _
theorem catD_zero {x : ItemD} : catD x = 4 ↔ x.st = 0 := by
  unfold catD
  split
  · simp [*]
  · split
    · simp [*]
    · split <;> simp [*]
theorem tallyD_live (l : List ItemD) {c : Nat} (hc : c ≠ 4) : tallyD (liveI l) c = tallyD l c := by
  unfold tallyD liveI
  rw [List.countP_filter]
  congr 1
  funext x
  by_cases hx : x.st = 0
  · have := catD_zero.2 hx
    simp [hx, this]
    omega
  · simp [hx]
theorem tallyD_empty (l : List ItemD) : tallyD l 4 + (liveI l).length = l.length := by
  induction l with
  | nil => rfl
  | cons x r ih =>
    have h1 : tallyD (x :: r) 4 = tallyD r 4 + if x.st = 0 then 1 else 0 := by
      unfold tallyD
      rw [List.countP_cons]
      congr 1
      by_cases hx : x.st = 0
      · rw [if_pos hx, if_pos (by simpa using catD_zero.2 hx)]
      · rw [if_neg hx, if_neg (by simpa using fun e => hx (catD_zero.1 e))]
    have h2 : (liveI (x :: r)).length = (liveI r).length + if x.st = 0 then 0 else 1 := by
      by_cases hx : x.st = 0
      · unfold liveI; rw [List.filter_cons_of_neg (by simp [hx]), if_pos hx]; rfl
      · unfold liveI; rw [List.filter_cons_of_pos (by simpa using hx), if_neg hx]; rfl
    rw [h1, h2, List.length_cons]
    split <;> omega
theorem slotsOk_all {bs : List UInt8} : ∀ (n : Nat), (∀ i, i < n → (slotG (slotB bs i)).isSome = true) → slotsOk bs n = true := by
  intro n
  induction n with
  | zero => exact fun _ => rfl
  | succ n ih =>
    intro h
    show (slotsOk bs n && (slotG (slotB bs n)).isSome) = true
    rw [ih (fun i hi => h i (by omega)), h n (by omega)]
    rfl
theorem auI_ref {s : StN} {u no : Nat} (h1 : 1 ≤ no) (h2 : no < u) : (auI s u no == 0) = (rightP (s.pg no) no && pageOk (s.pg no) no 0) := by
  unfold auI
  rw [if_neg (by omega), Int.toNat_natCast]
  cases hr : rightP (s.pg no) no with
  | false => simp
  | true =>
    obtain ⟨q1, q2⟩ := rightP_no hr
    have q3 := slotsOk_all 7 q2
    unfold pageOk
    rw [q1, q3]
    by_cases hz : numI (cutB (s.pg no) 4 8) = 0
    · simp [hz]
    · rw [if_neg (fun e => hz e.2)]
      by_cases hn : numI (cutB (s.pg no) 4 8) < 0
      · simp [hn]
      · have : (0 : Int) < numI (cutB (s.pg no) 4 8) := by omega
        simp [this]
end Go.Proofs.YtnanlaefehaifaaGreat
namespace Go.Proofs.YtnanlaefehaifaaGreat
open Go.RowKit Go.Maps Go.Shelf
structure SpotV where
  p : Nat
  k : Nat
  x : ItemD
  A : Option Addr
  n : Nat
  c : Nat
def SpotV.cells (s : SpotV) : List Value := [natV s.p, natV s.k, .int .i64 s.x.st, .string s.x.key, .int .i64 s.x.cell.kind, .slice s.A s.n s.c, .int .i64 s.x.cell.lo, .int .i64 s.x.cell.hi, .int .i64 s.x.cell.val]
def itL (ps : List (List UInt8)) (n : Nat) : List ItemD := (List.range 7).map fun k => (slotG (slotB (ps.getD n []) k)).getD item0
theorem itL_len (ps : List (List UInt8)) (n : Nat) : (itL ps n).length = 7 := by unfold itL; simp
theorem itL_at {ps : List (List UInt8)} {n k : Nat} (hk : k < 7) {x : ItemD} (h : slotG (slotB (ps.getD n []) k) = some x) : (itL ps n)[k]? = some x := by
  unfold itL
  rw [List.getElem?_map, List.getElem?_range hk, Option.map_some, h]
  rfl
theorem itL_flat (ps : List (List UInt8)) : ∀ l : List Nat, (l.flatMap (itL ps)).length = 7 * l.length
  | [] => rfl
  | x :: l => by rw [List.flatMap_cons, List.length_append, itL_len, itL_flat ps l, List.length_cons]; omega
theorem liveI_len (l : List ItemD) : (liveI l).length ≤ l.length := List.length_filter_le _ _
theorem liveI_one {x : ItemD} (h : x.st ≠ 0) : liveI [x] = [x] := by
  unfold liveI
  rw [List.filter_cons_of_pos (by simpa using h)]
  rfl
theorem liveI_none {x : ItemD} (h : x.st = 0) : liveI [x] = [] := by
  unfold liveI
  rw [List.filter_cons_of_neg (by simp [h])]
  rfl
theorem info_spot : (Tryz.prog.info? 161).map (fun i => (i.zero, i.size, i.bytes)) = some (some (.agg #[.int .i64 0, .int .i64 0, .int .i64 0, .string ⟨#[]⟩, .int .i64 0, .slice none 0 0, .int .i64 0, .int .i64 0, .int .i64 0]), 9, 96) := by kernel_rfl
def soFar (ps : List (List UInt8)) (way : List Nat) (j k : Nat) : List ItemD := (way.take j).flatMap (itL ps) ++ (itL ps (way.getD j 0)).take k
theorem soFar_next {ps : List (List UInt8)} {way : List Nat} {j k : Nat} {x : ItemD} (h : (itL ps (way.getD j 0))[k]? = some x) : soFar ps way j (k + 1) = soFar ps way j k ++ [x] := by
  obtain ⟨q1, q2⟩ := List.getElem?_eq_some_iff.1 h
  unfold soFar
  rw [List.take_succ_eq_append_getElem q1, q2, List.append_assoc]
theorem soFar_page {ps : List (List UInt8)} {way : List Nat} {j : Nat} (hj : j < way.length) : soFar ps way j 7 = soFar ps way (j + 1) 0 := by
  unfold soFar
  rw [List.take_of_length_le (Nat.le_of_eq (itL_len ps _)), List.take_succ_eq_append_getElem hj, List.flatMap_append, List.flatMap_singleton, List.take_zero, List.append_nil, List.getD_eq_getElem?_getD, List.getElem?_eq_getElem hj]
  rfl
theorem soFar_all {ps : List (List UInt8)} {way : List Nat} : soFar ps way way.length 0 = way.flatMap (itL ps) := by
  unfold soFar
  rw [List.take_zero, List.append_nil, List.take_length]
theorem soFar_len (ps : List (List UInt8)) (way : List Nat) (j k : Nat) (hj : j ≤ way.length) : (soFar ps way j k).length ≤ 7 * way.length + 7 := by
  unfold soFar
  rw [List.length_append, itL_flat, List.length_take, List.length_take, itL_len]
  omega
theorem Turn.belowT {S : Nat → Prop} {a w w' : World} {B : Nat} (h : Turn S w w') (hb : Below B a w) (hS : ∀ q, S q → B ≤ q) (hB : B ≤ w.heap.size) : Below B a w' :=
  ⟨h.os.trans hb.os, h.tape.trans hb.tape, h.output.trans hb.output, Nat.le_trans hb.size h.size, fun k hk => (h.block k (Nat.lt_of_lt_of_le hk hB) (fun hs => by have := hS k hs; omega)).trans (hb.block k hk)⟩
theorem cell_same {W W' : World} {b o : Nat} (h : W'.heap[b]? = W.heap[b]?) : W'.cell? ⟨b, o, none⟩ = W.cell? ⟨b, o, none⟩ := by
  unfold World.cell?
  simp only [h]
theorem own_lower {w : World} {base base' : Nat} {e : TypeId} {size : Nat} {v : Value} {n : Nat} {xs : List Value} (h : w.ownsRow base e size v n xs) (hb : base' ≤ base) : w.ownsRow base' e size v n xs := by
  obtain ⟨h1, h2 | ⟨g, cap, cur, e, hg, r⟩⟩ := h
  · exact ⟨h1, .inl h2⟩
  · exact ⟨h1, .inr ⟨g, cap, cur, e, Nat.le_trans hb hg, r⟩⟩
def ItemsP (w : World) (ps : List (List UInt8)) (r : List Nat × Bool) (e : Ending) (w' : World) : Prop := ∃ (A : Option Addr) (c : Nat) (ss : List SpotV), e = .returned (.tuple #[.slice A ss.length c, .int .i64 (errI r.2)]) ∧ w'.ownsRow w.heap.size 161 9 (.slice A ss.length c) ss.length (ss.flatMap SpotV.cells) ∧ ss.map (·.x) = liveI (r.1.flatMap (itL ps)) ∧ Below w.heap.size w w'
theorem rItems_any (A : Option Addr) (n c : Nat) (ps : List (List UInt8)) (head u : Nat) (B : Nat) (w0 : World) (hB : B ≤ w0.heap.size) (h : PgsR w0 B A n ps) (hu : u ≤ n) (hn : n ≤ 1000) (hh : head ≤ 100000)
    (hok : ∀ (no : Nat) (p : List UInt8), 1 ≤ no → ps[no]? = some p → ∀ k, k < 7 → (slotG (slotB p k)).isSome = true) :
    Calls Tryz.prog 85 #[.slice A n c, .int .i64 (head : Nat), .int .i64 (u : Nat)] w0 (ItemsP w0 ps (walkP (nxL ps) u u head)) := by
  obtain ⟨i0, hi, hz0, hz1, hz2⟩ := info_parts info_spot
  have HWK := hide (rWalk_any A n c ps head u B w0 hB h hu (by omega) hh)
  have HIN := hide (fun q (hq : q ∈ (walkP (nxL ps) u u head).1) => walkP_in hq)
  have HP := hide h
  have HOK := hide hok
  have HWL := hide (show (walkP (nxL ps) u u head).1.length ≤ 1000 by
    have : ∀ (k no : Nat), (walkP (nxL ps) u k no).1.length ≤ k := by
      intro k
      induction k with
      | zero => intro no; exact Nat.le_refl _
      | succ k ih =>
        intro no
        unfold walkP
        split
        · exact Nat.zero_le _
        · split
          · show 1 ≤ k + 1; omega
          · have := ih (nxL ps no)
            show _ + 1 ≤ _
            omega
    have := this u head
    omega)
  obtain ⟨r, hr⟩ : ∃ r, r = walkP (nxL ps) u u head := ⟨_, rfl⟩
  rw [← hr] at HWK HIN HWL ⊢
  obtain ⟨way, ok⟩ := r
  clear h hok hr
  go_enter Tryz.func85, Tryz.ntmps85
  go_wp2_with fail
  refine HWK.out.mono ?_
  rintro e w1 ⟨A1, c1, rfl, how, hb1⟩
  have hrw := Reads.of_own how
  have HRW := hide hrw
  have HB1 := hide hb1
  have hz1' := hb1.size
  obtain ⟨m, hm⟩ : ∃ m, m = way.length := ⟨_, rfl⟩
  have HML := hide hm
  have hm1000 : m ≤ 1000 := by rw [hm]; exact HWL.out
  dsimp only at hrw HRW ⊢
  rw [← hm] at HRW ⊢
  clear hrw how hb1 hm HWK
  go_wp2
  go_loopw [10, 11] (fun t i wr => ∃ (j : Nat) (ss : List SpotV), j ≤ m ∧ i = .int .i64 j ∧ Hid (wr.ownsRow w1.heap.size 161 9 t ss.length (ss.flatMap SpotV.cells)) ∧ Hid (ss.map (·.x) = liveI (soFar ps way j 0)) ∧ Hid (Below w1.heap.size w1 wr)) (fun _ i _ => m - (intOf i).toNat)
  case atStart => exact ⟨0, [], Nat.zero_le _, rfl, hide (World.ownsRow_nil _ _ _ _), hide rfl, hide (Below.refl _ _)⟩
  case round =>
    obtain ⟨j, ss, hj, rfl, HOW, HSS, HBW⟩ := hrel
    obtain ⟨A3, c3, rfl, -, -, -, -, -⟩ := own_slice HOW.out
    by_cases hlt : j < m
    · obtain ⟨no, hno⟩ : ∃ no, way[j]? = some no := ⟨_, List.getElem?_eq_getElem (by have := HML.out; omega)⟩
      have hin := HIN.out no (List.mem_of_getElem? hno)
      have hgd : way.getD j 0 = no := by rw [List.getD_eq_getElem?_getD, hno]; rfl
      obtain ⟨bw, ow, rfl, hbw, hcw⟩ := HRW.out.plain (by omega) (by omega)
      have hbw1 : bw < w1.heap.size := hbw
      have HCW := hide (show w1.cell? ⟨bw, ow + j, none⟩ = some (natV no) from hcw j _ (by rw [List.getElem?_map, hno]; rfl))
      obtain ⟨bp, op, A', c', p, rfl, hp, hl, hc0, hc1, hc2, hr⟩ := HP.out.at_ (k := no) (by omega)
      have hbl : bp < w0.heap.size := by
        obtain ⟨o', g1, g2⟩ := cells_of_cell hc0
        exact (Array.getElem?_eq_some_iff.1 g1).1
      have hnp : ps.getD no [] = p := by rw [List.getD_eq_getElem?_getD, hp]; rfl
      have HCP := hide ((HB1.out.cell (p := ⟨bp, op + no, none⟩) hbl).trans hc0)
      have HSL := hide (fun (i : Nat) (hi : i < 7) (W : World) (hb : Below w1.heap.size w1 W) => pSlotR_any A' c' p B W (Nat.le_trans hB (Nat.le_trans hz1' hb.size)) hc1 hc2 hl ((hr.below HB1.out hB).below hb (Nat.le_trans hB hz1')) i hi)
      have HSO := hide (HOK.out no p hin.1 hp)
      have hbp1 : bp < w1.heap.size := by omega
      have HIN1 := hide hin
      have HGD := hide hgd
      have HNP := hide hnp
      have t1 : (j : Int) < m := by omega
      clear hno hin hgd hbw hcw hp hl hc0 hc1 hc2 hr hnp
      go_wp2
      go_loopw [10, 12] (fun t i wr => ∃ (k : Nat) (ss : List SpotV), k ≤ 7 ∧ i = .int .i64 k ∧ Hid (wr.ownsRow w1.heap.size 161 9 t ss.length (ss.flatMap SpotV.cells)) ∧ Hid (ss.map (·.x) = liveI (soFar ps way j k)) ∧ Hid (Below w1.heap.size w1 wr)) (fun _ i _ => 7 - (intOf i).toNat)
      case atStart => exact ⟨0, ss, Nat.zero_le _, rfl, HOW, HSS, HBW⟩
      case round =>
        obtain ⟨k, ss, hk, rfl, HOW, HSS, HBW⟩ := hrel
        obtain ⟨A3, c3, rfl, -, -, -, -, -⟩ := own_slice HOW.out
        by_cases hkl : k < 7
        · obtain ⟨x, hx⟩ := Option.isSome_iff_exists.1 (HSO.out k hkl)
          have HX := hide (show (itL ps (way.getD j 0))[k]? = some x from by rw [HGD.out]; exact itL_at hkl (by rw [HNP.out]; exact hx))
          have HS1 := hide (HSL.out k hkl wr HBW.out)
          rw [hx] at HS1
          have hzr := HBW.out.size
          have d0 : wr.cell? ⟨bw, ow + j, none⟩ = some (.int .i64 no) := (HBW.out.cell (p := ⟨bw, ow + j, none⟩) hbw1).trans HCW.out
          have d1 : wr.cell? ⟨bp, op + no, none⟩ = some (.slice A' 512 c') := (HBW.out.cell (p := ⟨bp, op + no, none⟩) hbp1).trans HCP.out
          have t2 : (k : Int) < 7 := by omega
          have t3 : (no : Int) < n := by have := HIN1.out; omega
          have d2 : bw < wr.heap.size := by omega
          have d3 : bp < wr.heap.size := by omega
          clear hx
          go_wp2_with fail
          refine HS1.out.mono ?_
          intro e w2 hP
          obtain ⟨y, A2, n2, c2, er, rfl, hby, hor⟩ := slotGP_one hP
          obtain ⟨rfl, rfl⟩ : y = x ∧ er = 0 := by
            rcases hor with ⟨h1, _⟩ | ⟨h1, h2⟩
            · cases h1
            · injection h1 with h1
              exact ⟨h1.symm, h2⟩
          have HB2 := hide (HBW.out.trans (hP.2.mono hzr))
          have HO2 := hide (row_keep HOW.out (fun q hq => hP.2.block q (World.ownsRow.lt HOW.out q hq).2))
          have hz2' := hP.2.size
          clear hby hor hP d0 d1 d2 d3
          obtain ⟨xs, xk, y1, y2, y3, y4, y5⟩ := y
          unfold itemC
          dsimp only at *
          go_upto_region 10 with (fail)
          refine gen1 (R := fun W => Code.wp _ _ _ _ W) (fun w ki hb3 hz3 => ?_)
          have HB3 := hide (HB2.out.trans (hb3.mono HB2.out.size))
          have HO := hide (row_keep HO2.out (fun q hq => hb3.block q (World.ownsRow.lt HO2.out q hq).2))
          obtain ⟨gi, hgi⟩ : ∃ g, g = w2.heap.size := ⟨_, rfl⟩
          rw [← hgi] at ki ⊢
          have KI := hide ki
          have e0 : w.cell? ⟨gi, 0, none⟩ = some (.int .i64 xs) := ki.cell 0
          have el := ki.lt
          clear ki hb3 HO2 HB2 hgi
          by_cases hx0 : xs = 0
          · have HN := hide (show ss.map (·.x) = liveI (soFar ps way j (k + 1)) by rw [soFar_next HX.out, liveI_append, liveI_none hx0, List.append_nil]; exact HSS.out)
            subst hx0
            go_wp2
            go_roundw
            case rel => exact ⟨k + 1, ss, by omega, by go_num, HO, HN, HB3⟩
            case measure => simp [intOf]; omega
          · have hx0' : ¬ (xs : Int) = 0 := by omega
            have HN := hide (show (ss ++ [(⟨no, k, ⟨xs, xk, ⟨y1, y2, y3, y4, y5⟩⟩, A2, n2, c2⟩ : SpotV)]).map (·.x) = liveI (soFar ps way j (k + 1)) by rw [soFar_next HX.out, liveI_append, liveI_one hx0, List.map_append, HSS.out]; rfl)
            have HLN := hide (show ss.length ≤ 7007 by
              have h1 : ss.length = (ss.map (·.x)).length := by rw [List.length_map]
              have h2 := liveI_len (soFar ps way j k)
              have h3 := soFar_len ps way j k (by have := HML.out; omega)
              have h4 := HML.out
              rw [h1, HSS.out]
              omega)
            have hni : ¬ some gi = Value.ownBlock (.slice A3 ss.length c3) := row_ne HO.out KI.out (by decide)
            have hnw : ¬ some bw = Value.ownBlock (.slice A3 ss.length c3) := fun e => by have := (World.ownsRow.lt HO.out bw e.symm).1; omega
            have hbw2 : bw < w.heap.size := by omega
            have HKI := hide (fun W (h : Turn (fun q => some q = Value.ownBlock (.slice A3 ss.length c3)) w W) => h.blk KI.out hni)
            have HKW := hide (fun W (h : Turn (fun q => some q = Value.ownBlock (.slice A3 ss.length c3)) w W) => (show W.cell? ⟨bw, ow + j, none⟩ = some (.int .i64 no) from by
              rw [cell_same (h.block bw hbw2 hnw), HB3.out.cell (p := ⟨bw, ow + j, none⟩) hbw1]
              exact HCW.out))
            have HLT := hide (fun q (hq : Value.ownBlock (.slice A3 ss.length c3) = some q) => (World.ownsRow.lt HO.out q hq).2)
            go_upto_region 13 with (fail)
            clear e0 el
            refine wp_region_inv_tailE 10 [fun v _ => v = .slice A3 ss.length c3, fun v _ => v = .slice (some ⟨bw, ow, none⟩) m c1, fun v _ => v = .int .i64 j, fun v _ => v = .pointer (some ⟨bw, ow + j, none⟩), fun v _ => v = .int .i64 no, fun v _ => v = .int .i64 k, fun v _ => v = .agg #[.int .i64 xs, .string xk, .int .i64 y1, .slice A2 n2 c2, .int .i64 y3, .int .i64 y4, .int .i64 y5], fun v _ => v = .agg #[.int .i64 no, .int .i64 k, .int .i64 xs, .string xk, .int .i64 y1, .slice A2 n2 c2, .int .i64 y3, .int .i64 y4, .int .i64 y5], fun v W => ∃ g, v = .slice (some ⟨g, 0, none⟩) 1 1 ∧ w.heap.size ≤ g ∧ Blk W g 161 #[.int .i64 no, .int .i64 k, .int .i64 xs, .string xk, .int .i64 y1, .slice A2 n2 c2, .int .i64 y3, .int .i64 y4, .int .i64 y5], fun v W => W.ownsRow w1.heap.size 161 9 v (ss.length + 1) (ss.flatMap SpotV.cells ++ (⟨no, k, ⟨xs, xk, ⟨y1, y2, y3, y4, y5⟩⟩, A2, n2, c2⟩ : SpotV).cells) ∧ (v.ownBlock = Value.ownBlock (.slice A3 ss.length c3) ∨ ∃ g, v.ownBlock = some g ∧ w.heap.size ≤ g)] (Turn (fun q => some q = Value.ownBlock (.slice A3 ss.length c3)) w) (fun i W => i = 9 → W.ownsRow w1.heap.size 161 9 (.slice A3 ss.length c3) ss.length (ss.flatMap SpotV.cells)) (EOne 9 (Value.ownBlock (.slice A3 ss.length c3))) EOne.turn EOne.pre (Turn.of_below (Below.refl _ _).drew) (fun _ _ => row_keep HO.out (fun _ _ => rfl)) (by kernel_rfl) (by kernel_rfl) (by kernel_rfl) (by kernel_rfl) (by kernel_rfl) (by first | simp | decide) (by kernel_rfl) ?st ?steps ?fin
            case st =>
              intro i j v W W' hij hE h
              match i with
              | 0 | 1 | 2 | 3 | 4 | 5 | 6 | 7 => exact h
              | 8 => obtain ⟨g, h1, h2, h3⟩ := h; exact ⟨g, h1, h2, hE.blk h3 (fun e => by have := HLT.out g e.symm; omega)⟩
              | 9 => rcases hE with ⟨hj, _⟩ | hb; exact absurd hj.symm hij; exact ⟨own_via h.1 hb, h.2⟩
              | (i + 10) => exact h
            case steps =>
              simp only [stepsE, List.take_succ_cons, List.take_zero]
              refine ⟨?_, ?_, ?_, ?_, ?_, ?_, ?_, ?_, ?_, ?_, trivial⟩
              · intro f W hG hP hdp
                simp only [fS, Nat.reduceAdd]
                go_wp2
                exact ⟨rfl, _, rfl, rfl, .inr (Below.refl _ _)⟩
              · intro f W hG hP hdp
                simp only [fS, Nat.reduceAdd]
                go_wp2
                exact ⟨rfl, _, rfl, rfl, .inr (Below.refl _ _)⟩
              · intro f W hG hP hdp
                simp only [fS, Nat.reduceAdd]
                go_wp2
                exact ⟨rfl, _, rfl, rfl, .inr (Below.refl _ _)⟩
              · intro f W hG hP hdp
                have e1 : f 1 = .slice (some ⟨bw, ow, none⟩) m c1 := hdp ⟨1, .data⟩ (mfl (by simp) rfl)
                have e2 : f 2 = .int .i64 j := hdp ⟨2, .data⟩ (mfl (by simp) rfl)
                simp only [fS, Nat.reduceAdd, e1, e2]
                go_wp2
                exact ⟨rfl, _, rfl, rfl, .inr (Below.refl _ _)⟩
              · intro f W hG hP hdp
                have e3 : f 3 = .pointer (some ⟨bw, ow + j, none⟩) := hdp ⟨3, .data⟩ (mfl (by simp) rfl)
                have q : W.cell? ⟨bw, ow + j, none⟩ = some (.int .i64 no) := HKW.out W hG
                simp only [fS, Nat.reduceAdd, e3]
                go_wp2
                exact ⟨rfl, _, rfl, rfl, .inr (Below.refl _ _)⟩
              · intro f W hG hP hdp
                simp only [fS, Nat.reduceAdd]
                go_wp2
                exact ⟨rfl, _, rfl, rfl, .inr (Below.refl _ _)⟩
              · intro f W hG hP hdp
                have kk := HKI.out W hG
                have q0 : W.cell? ⟨gi, 0, none⟩ = some _ := kk.cell 0
                have q1 : W.cell? ⟨gi, 1, none⟩ = some _ := kk.cell 1
                have q2 : W.cell? ⟨gi, 2, none⟩ = some _ := kk.cell 2
                have q3 : W.cell? ⟨gi, 3, none⟩ = some _ := kk.cell 3
                have q4 : W.cell? ⟨gi, 4, none⟩ = some _ := kk.cell 4
                have q5 : W.cell? ⟨gi, 5, none⟩ = some _ := kk.cell 5
                have q6 : W.cell? ⟨gi, 6, none⟩ = some _ := kk.cell 6
                simp only [fS, Nat.reduceAdd]
                go_wp2
                exact ⟨rfl, _, rfl, rfl, .inr (Below.refl _ _)⟩
              · intro f W hG hP hdp
                have e4 : f 4 = .int .i64 no := hdp ⟨4, .data⟩ (mfl (by simp) rfl)
                have e5 : f 5 = .int .i64 k := hdp ⟨5, .data⟩ (mfl (by simp) rfl)
                have e6 : f 6 = .agg #[.int .i64 xs, .string xk, .int .i64 y1, .slice A2 n2 c2, .int .i64 y3, .int .i64 y4, .int .i64 y5] := hdp ⟨6, .data⟩ (mfl (by simp) rfl)
                simp only [fS, Nat.reduceAdd, e4, e5, e6]
                go_wp2
                exact ⟨rfl, _, rfl, rfl, .inr (Below.refl _ _)⟩
              · intro f W hG hP hdp
                have e7 : f 7 = .agg #[.int .i64 no, .int .i64 k, .int .i64 xs, .string xk, .int .i64 y1, .slice A2 n2 c2, .int .i64 y3, .int .i64 y4, .int .i64 y5] := hdp ⟨7, .data⟩ (mfl (by simp) rfl)
                simp only [fS, Nat.reduceAdd, e7]
                refine wpList_buildSlice rfl 157 161 1 _ rfl #[.int .i64 no, .int .i64 k, .int .i64 xs, .string xk, .int .i64 y1, .slice A2 n2 c2, .int .i64 y3, .int .i64 y4, .int .i64 y5] i0 _ Tryz.underlying157 hi hz0 (by rw [hz1]; decide) (by rw [hz1]; decide) (by rw [hz1]; refine Eq.trans (congrArg (Instr.fill (fun i => some (i * 9, 9)) _) (a₂ := [(0, Value.agg #[.int .i64 no, .int .i64 k, .int .i64 xs, .string xk, .int .i64 y1, .slice A2 n2 c2, .int .i64 y3, .int .i64 y4, .int .i64 y5])]) ?_) (fill_one (n := 9) _ _ ?_ ?_) <;> simp [Act.eval]) ?_
                exact ⟨rfl, _, rfl, ⟨_, rfl, hG.size, Blk.new _ _ _⟩, .inr ((Below.refl _ _).alloc (Nat.le_refl _) _)⟩
              · intro f W hG hP hdp
                have e0 : f 0 = .slice A3 ss.length c3 := hdp ⟨0, .data⟩ (mfl (by simp) rfl)
                have e8 : ∃ g, (f 8) = .slice (some ⟨g, 0, none⟩) 1 1 ∧ w.heap.size ≤ g ∧ Blk W g 161 #[.int .i64 no, .int .i64 k, .int .i64 xs, .string xk, .int .i64 y1, .slice A2 n2 c2, .int .i64 y3, .int .i64 y4, .int .i64 y5] := hdp ⟨8, .data⟩ (mfl (by simp) rfl)
                simp only [fS, Nat.reduceAdd, e0]
                obtain ⟨g, e8', hg, kg⟩ := e8
                simp only [e8']
                refine wpList_append_any W rfl _ _ _ rfl w1.heap.size 161 i0 _ 9 96 Tryz.underlying157 hi hz0 hz1 hz2 (by rfl) (by omega) (.slice A3 ss.length c3) ss.length _ rfl (hP rfl) (g + 1) (some ⟨g, 0, none⟩) 1 1 _ rfl (Reads.of_blk (n := 1) (size := 9) kg rfl) (by simp [Value.oneCell']) (by have := HLN.out; unfold maxLen; omega) (by have := HLN.out; omega) (by have := hG.size; omega) ?_
                intro v' W' ho' hg' hloc
                exact ⟨rfl, v', rfl, ⟨ho', hloc.imp id (fun h => ⟨_, h, hG.size⟩)⟩, .inl ⟨rfl, hg'⟩⟩
            case fin =>
              intro f W hG hA
              have a9 : W.ownsRow w1.heap.size 161 9 (f 9) (ss.length + 1) (ss.flatMap SpotV.cells ++ (⟨no, k, ⟨xs, xk, ⟨y1, y2, y3, y4, y5⟩⟩, A2, n2, c2⟩ : SpotV).cells) ∧ ((f 9).ownBlock = Value.ownBlock (.slice A3 ss.length c3) ∨ ∃ g, (f 9).ownBlock = some g ∧ w.heap.size ≤ g) := hA 9 (by omega)
              simp only [List.drop_succ_cons, List.drop_zero, List.take_succ_cons, List.take_zero, fillF, Act.put, List.setIfInBounds_toArray, List.set_cons_succ, List.set_cons_zero, Nat.reduceAdd]
              clear hA
              obtain ⟨ho', hloc⟩ := a9
              have HBN := hide (show Below w1.heap.size w1 W from hG.belowT HB3.out (fun q hq => (World.ownsRow.lt HO.out q hq.symm).1) (by omega))
              have HON := hide (show W.ownsRow w1.heap.size 161 9 (f 9) (ss ++ [(⟨no, k, ⟨xs, xk, ⟨y1, y2, y3, y4, y5⟩⟩, A2, n2, c2⟩ : SpotV)]).length ((ss ++ [(⟨no, k, ⟨xs, xk, ⟨y1, y2, y3, y4, y5⟩⟩, A2, n2, c2⟩ : SpotV)]).flatMap SpotV.cells) by
                rw [List.length_append, List.flatMap_append, List.flatMap_singleton]
                exact ho')
              clear hG ho' hloc
              generalize f 9 = vn at HON ⊢
              go_wp2
              go_roundw
              case rel => exact ⟨k + 1, _, by omega, by go_num, HON, HN, HBN⟩
              case measure => simp [intOf]; omega
        · obtain rfl : k = 7 := by omega
          have HN := hide (show ss.map (·.x) = liveI (soFar ps way (j + 1) 0) by rw [← soFar_page (by have := HML.out; omega)]; exact HSS.out)
          go_wp2
          go_roundw
          case rel => exact ⟨j + 1, ss, by omega, by go_num, HOW, HN, HBW⟩
          case measure => simp [intOf]; omega
    · obtain rfl : j = m := by omega
      have HN := hide (show ss.map (·.x) = liveI (way.flatMap (itL ps)) by have := HSS.out; rw [HML.out, soFar_all] at this; exact this)
      have t1 : ¬ (j : Int) < j := by omega
      go_wp2
      go_ret2
      exact ⟨A3, c3, ss, rfl, own_lower HOW.out hz1', HN.out, HB1.out.trans (HBW.out.mono HB1.out.size)⟩
end Go.Proofs.YtnanlaefehaifaaGreat
