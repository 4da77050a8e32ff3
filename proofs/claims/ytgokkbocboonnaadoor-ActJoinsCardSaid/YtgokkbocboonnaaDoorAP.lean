/-
  WALK OF THE PROGRAM: act.Parse: the words of a text; the loop over them.
-/
import Derived.Test.YtgokkbocboonnaaDoorNC
import Derived.Test.YtgokkbocboonnaaDoorAC
import Derived.Test.YtgokkbocboonnaaDoorAK
import Derived.Test.YtgokkbocboonnaaDoorAO
namespace Go.Proofs.YtgokkbocboonnaaDoor
open Go.RowKit Go.Shelf

attribute [local go_sem] Oper.semAt_some

theorem wwords_in (F : Fence) (n : Nat) (hf : F.fn 20) (hro : F.round = none) (s : ByteArray) (w : World) :
    CallsIn F n Tryd.prog 20 #[.string s] w fun e w' => e = .returned (.func (.func 40) #[] #[.pointer (some ⟨w.heap.size, 0, none⟩)]) ∧ w' = w.alloc (.cells #[.string s] 9) := by
  refine callsIn_of_wp Tryd.func20 rfl hf ?_ hro
  simp only [Tryd.ntmps20, List.size_toArray, List.length_cons, List.length_nil, Nat.reduceAdd, Nat.reduceSub, Array.replicate_succ, Array.replicate_zero, List.push_toArray, List.append_toArray, List.nil_append, List.cons_append]
  gi_wp2
  go_ret
  exact ⟨rfl, rfl⟩
/-- A goal at which the walk stops. -/
def HeldG (p : Prop) : Prop := p
theorem heldG {p : Prop} (h : HeldG p) : p := h
theorem unheldG {p : Prop} (h : p) : HeldG p := h
/-- What a round keeps: the library's bound. -/
def KeepZ (W W' : World) : Prop := W'.cell? ⟨0, 0, none⟩ = W.cell? ⟨0, 0, none⟩
theorem KeepZ.of_below {B : Nat} {W W' : World} (h : Below B W W') (hB : 0 < B) : KeepZ W W' := h.cell (p := ⟨0, 0, none⟩) hB
theorem words_stops (n : Nat) (hn : 1 ≤ n) (Bs : Nat) (s : ByteArray) (m : Int) (w : World) (hsz : s.size ≤ 1000000) (h0 : w.cell? ⟨0, 0, none⟩ = some (.int .i64 m)) (hBs : Blk w Bs 9 #[.string s]) :
    SeqStopsK Fence.wide n Tryd.prog 40 #[.pointer (some ⟨Bs, 0, none⟩)] (fun x : List UInt8 => #[.string ⟨x.toArray⟩]) KeepZ (fun ys => ys = wordsT s.data.toList) (fun pre => ∃ k, k ≤ (wordsT s.data.toList).length ∧ pre = (wordsT s.data.toList).take k) (wordsT s.data.toList).length w := by
  intro l J Jx W hW hJ hJx hY hJ0
  have hlt0 : 0 < w.heap.size := by
    rcases Nat.lt_or_ge 0 w.heap.size with h | h
    · exact h
    · rw [World.cell?, Array.getElem?_eq_none h] at h0
      cases h0
  have hz : W.cell? ⟨0, 0, none⟩ = some (.int .i64 m) := (hW.cell (p := ⟨0, 0, none⟩) hlt0).trans h0
  refine (words1_in n hn l Bs s (wordsT s.data.toList) m (fun pre W => J pre W ∧ W.cell? ⟨0, 0, none⟩ = some (.int .i64 m)) Jx rfl hsz
    (fun pre W q h => ⟨hJ pre W _ none h.1 ⟨rfl, rfl, rfl, Nat.le_refl _, fun _ _ _ => rfl⟩ (fun r e => by cases e), h.2⟩) (fun pre W h => h.2)
    (fun pre x W h hl => (hY pre x W h.1 hl).mono fun e w' hr => ?_) W (Blk.via hW hBs) ⟨hJ0, hz⟩).mono ?_
  · rcases hr with ⟨h1, h2, h3⟩ | hr
    · exact .inl ⟨h1, h2, h3.trans h.2⟩
    · exact .inr hr
  · rintro e W' ⟨hv, h | ⟨k, hk, h⟩⟩
    · exact ⟨hv, .inl ⟨_, rfl, h.1⟩⟩
    · exact ⟨hv, .inr ⟨_, ⟨k, hk, rfl⟩, h⟩⟩
theorem set11 {B g : Nat} {w W : World} (h : Below B w W) (hg : B ≤ g) (v0 v1 v2 v3 v4 v5 v6 v7 v8 v9 v10 : Value) : Below B w (((((((((((W.setCell ⟨g, 0, none⟩ v0).setCell ⟨g, 1, none⟩ v1).setCell ⟨g, 2, none⟩ v2).setCell ⟨g, 3, none⟩ v3).setCell ⟨g, 4, none⟩ v4).setCell ⟨g, 5, none⟩ v5).setCell ⟨g, 6, none⟩ v6).setCell ⟨g, 7, none⟩ v7).setCell ⟨g, 8, none⟩ v8).setCell ⟨g, 9, none⟩ v9).setCell ⟨g, 10, none⟩ v10) := (((((((((((h.setCell (p := ⟨g, 0, none⟩) hg _).setCell (p := ⟨g, 1, none⟩) hg _).setCell (p := ⟨g, 2, none⟩) hg _).setCell (p := ⟨g, 3, none⟩) hg _).setCell (p := ⟨g, 4, none⟩) hg _).setCell (p := ⟨g, 5, none⟩) hg _).setCell (p := ⟨g, 6, none⟩) hg _).setCell (p := ⟨g, 7, none⟩) hg _).setCell (p := ⟨g, 8, none⟩) hg _).setCell (p := ⟨g, 9, none⟩) hg _).setCell (p := ⟨g, 10, none⟩) hg _)
theorem touch_put (W : World) (g : Nat) (vs : List Value) : Touch g (g + 1) W (putL W g 0 vs) := putL_touch g vs W W 0 (Touch.refl _)
theorem touch_keeps {W W' : World} {g : Nat} {t : TypeId} {cs : Array Value} (k : Blk W g t cs) (ht : Touch g (g + 1) W W') (B : Nat) : KeepsFrom B W W' :=
  ⟨Nat.le_of_eq ht.size.symm, fun q o _ hq ho => (ht.block q (by
    rcases Nat.lt_trichotomy q g with h1 | h1 | h1
    · exact .inl h1
    · subst h1
      unfold Blk at k
      rw [k] at hq
      injection hq with hq
      subst hq
      cases ho
    · exact .inr h1)).trans hq⟩
/-- How a function that held a loop over an iterator leaves. -/
theorem leave_mark {F : Fence} {n D : Nat} {P : Program} {fn : Func} {tmps : Array Value} {R : Ending → World → Prop} {W : World} {v : Value} (hK : W.heap[D]? = some (.deferred (some [])))
    (hres : (results fn tmps).run P (W.putObj D (.deferred none)) = .ok v (W.putObj D (.deferred none))) (hR : R (.returned v) (W.putObj D (.deferred none))) :
    LeavesInM F n P fn tmps R [{ target := .collected D, args := #[] }] .returning W :=
  ⟨by simp, .inl ⟨_, _, rfl, run_takeDeferred hK, _, hres, hR⟩⟩
def zeroAct : Array Value := #[.int .i64 0, .int .i64 0, .int .i64 0, .string ⟨#[]⟩, .slice none 0 0, .int .i64 0, .int .i64 0, .int .i64 0, .int .i64 0, .slice none 0 0, .int .i64 0]
/-- What act.actOf told, as one case. -/
theorem actOf_told {w : World} {o : Option ActD} {e : Ending} {w' : World} (h : ActPost w o e w') : ∃ d A n c A' n' c' ok, e = .returned (.tuple #[.agg #[.int .i64 d.act, .int .i64 d.client, .int .i64 d.op.act, .string d.op.key, .slice A n c, .int .i64 d.op.lo, .int .i64 d.op.hi, .int .i64 d.op.n, .int .i64 d.n, .slice A' n' c', .int .i64 d.log], .bool ok]) ∧ Below w.heap.size w w' ∧
    Hid ((o = none ∧ ok = false) ∨ (o = some d ∧ ok = true ∧ OwnA w' w.heap.size ⟨d, .slice A n c, .slice A' n' c'⟩)) := by
  obtain ⟨hb, ⟨h1, ⟨d, dv, pv⟩, A, n, c, A', n', c', h2, h3, h4⟩ | ⟨⟨d, dv, pv⟩, h1, h2, h3⟩⟩ := h
  · dsimp only at h3 h4
    subst h3 h4
    exact ⟨d, A, n, c, A', n', c', false, h2, hb, .inl ⟨h1, rfl⟩⟩
  · obtain ⟨A, n, c, e1⟩ := h3.1.form
    obtain ⟨A', c', e2⟩ := h3.2.form
    dsimp only at e1 e2 h1
    subst e1 e2
    exact ⟨d, A, n, c, A', _, c', true, h2, hb, .inr ⟨h1, rfl, h3⟩⟩
/-- Behind the call of actOf: what it told, laid in a block of its own. -/
def ActCut (w : World) (o : Option ActD) (s6 s7 : Value) (wx : World) : Prop :=
  ∃ b6 d A n c A' n' c' ok, s7 = .bool ok ∧ s6 = .pointer (some ⟨b6, 0, none⟩) ∧ w.heap.size ≤ b6 ∧ Blk wx b6 30 #[.int .i64 d.act, .int .i64 d.client, .int .i64 d.op.act, .string d.op.key, .slice A n c, .int .i64 d.op.lo, .int .i64 d.op.hi, .int .i64 d.op.n, .int .i64 d.n, .slice A' n' c', .int .i64 d.log] ∧ Below w.heap.size w wx ∧
    ((o = none ∧ ok = false) ∨ (o = some d ∧ ok = true ∧ OwnA wx w.heap.size ⟨d, .slice A n c, .slice A' n' c'⟩))
theorem OwnA.put {W W' : World} {g base : Nat} {t : TypeId} {cs : Array Value} {x : ActV} (h : OwnA W base x) (k : Blk W g t cs) (h1 : t ≠ 5) (h2 : t ≠ 3) (ht : Touch g (g + 1) W W') : OwnA W' base x :=
  ⟨own_put h.1 k h1 ht, own_putI h.2 k h2 ht⟩
theorem OwnA.obj {W : World} {D base : Nat} {o o' : Obj} {x : ActV} (h : OwnA W base x) (hK : W.heap[D]? = some o) (ho : o.isCells = false) : OwnA (W.putObj D o') base x :=
  ⟨h.1.keep fun q hq => by
    obtain ⟨cur, e⟩ := row_obj h.1 hq
    exact World.putObj_heap_other (fun e2 => by subst e2; rw [hK] at e; injection e with e; subst e; cases ho),
   h.2.keep fun q cs _ k => (World.putObj_heap_other (fun e2 => by subst e2; unfold Blk at k; rw [hK] at k; injection k with k; subst k; cases ho)).trans k⟩
theorem Blk.obj {W : World} {D g : Nat} {t : TypeId} {cs : Array Value} {o o' : Obj} (k : Blk W g t cs) (hK : W.heap[D]? = some o) (ho : o.isCells = false) : Blk (W.putObj D o') g t cs :=
  (World.putObj_heap_other (fun e2 => by subst e2; unfold Blk at k; rw [hK] at k; injection k with k; subst k; cases ho)).trans k
/-- What act.Parse holds between two rounds. -/
def ParI (w w1 : World) (pre : List (List UInt8)) (W : World) : Prop :=
  ∃ v, Blk W (w.heap.size + 1 + 1) 51 #[v] ∧ W.ownsRow w1.heap.size 9 1 v pre.length (pre.map wordV) ∧ pre.length ≤ 63 ∧ Blk W w.heap.size 30 zeroAct ∧ Blk W (w.heap.size + 1) 31 #[.int .i64 0] ∧ Below w.heap.size w W ∧ w1.heap.size ≤ W.heap.size
/-- Too many words. -/
def ParX (w w1 : World) (c : Code) (pre : List (List UInt8)) (W : World) : Prop :=
  c = .ret ∧ 63 < pre.length ∧ Blk W w.heap.size 30 zeroAct ∧ Blk W (w.heap.size + 1) 31 #[.int .i64 12] ∧ Below w.heap.size w W ∧ w1.heap.size ≤ W.heap.size
theorem parI_own (w w1 : World) (hw : w.heap.size ≤ w1.heap.size) : OwnFrom w1.heap.size (ParI w w1) := by
  rintro pre W W' row ⟨v, k1, k2, k3, k4, k5, k6, k7⟩ hg hr
  refine ⟨v, k1.grown hg (nc_ne hr k1), row_keep k2 (fun q hq => ?_), k3, k4.grown hg (nc_ne hr k4), k5.grown hg (nc_ne hr k5), k6.grown hg k6.size (fun q hq => by have := (hr q hq).1; omega), Nat.le_trans k7 hg.size⟩
  obtain ⟨cur, e⟩ := row_obj k2 hq
  exact hg.block q (Array.getElem?_eq_some_iff.1 e).1 (nc_ne hr e)
theorem parX_own (w w1 : World) (hw : w.heap.size ≤ w1.heap.size) (c : Code) : OwnFrom w1.heap.size (ParX w w1 c) := by
  rintro pre W W' row ⟨k1, k2, k4, k5, k6, k7⟩ hg hr
  exact ⟨k1, k2, k4.grown hg (nc_ne hr k4), k5.grown hg (nc_ne hr k5), k6.grown hg k6.size (fun q hq => by have := (hr q hq).1; omega), Nat.le_trans k7 hg.size⟩
theorem gen4 {w : World} {c0 c1 c2 c3 : Array Value} {t0 t1 t2 t3 : TypeId} {R : World → Prop} (h : ∀ W, Blk W w.heap.size t0 c0 → Blk W (w.heap.size + 1) t1 c1 → Blk W (w.heap.size + 1 + 1) t2 c2 → Blk W (w.heap.size + 1 + 1 + 1) t3 c3 → Below w.heap.size w W → W.heap.size = w.heap.size + 4 → R W) :
    R ((((w.alloc (.cells c0 t0)).alloc (.cells c1 t1)).alloc (.cells c2 t2)).alloc (.cells c3 t3)) := by
  refine h _ ((((Blk.new w t0 c0).alloc _).alloc _).alloc _) ?_ ?_ ?_ ?_ (by simp)
  · exact (((by simpa using Blk.new (w.alloc (.cells c0 t0)) t1 c1 : Blk _ (w.heap.size + 1) t1 c1).alloc _).alloc _)
  · exact ((by simpa using Blk.new ((w.alloc (.cells c0 t0)).alloc (.cells c1 t1)) t2 c2 : Blk _ (w.heap.size + 1 + 1) t2 c2).alloc _)
  · exact (by simpa using Blk.new (((w.alloc (.cells c0 t0)).alloc (.cells c1 t1)).alloc (.cells c2 t2)) t3 c3 : Blk _ (w.heap.size + 1 + 1 + 1) t3 c3)
  · exact ((((Below.refl _ _).alloc (Nat.le_refl _) _).alloc (by simp) _).alloc (by simp; omega) _).alloc (by simp; omega) _
/-- What act.Parse tells. -/
def ParsePost (w : World) (s : List UInt8) (e : Ending) (w' : World) : Prop :=
  Below w.heap.size w w' ∧ ((parseD s = none ∧ e = .returned (.tuple #[.agg zeroAct, .int .i64 12])) ∨
    ∃ x, parseD s = some x.d ∧ e = .returned (.tuple #[actV x, .int .i64 0]) ∧ OwnA w' w.heap.size x)
set_option maxRecDepth 100000 in
set_option maxHeartbeats 8000000 in
theorem parse_any (s : ByteArray) (m : Int) (w : World) (hsz : s.size ≤ 1000000) (h0 : w.cell? ⟨0, 0, none⟩ = some (.int .i64 m)) (hv : ErrV w) (ht : PTab w) :
    Calls Tryd.prog 8 #[.string s] w (ParsePost w s.data.toList) := by
  have hmf : ∀ (fn : Fn) (first cap : Array Value) (w : World), (Instr.makeFunc fn first cap).run Tryd.prog w = .ok (.func fn first cap) w := fun _ _ _ _ => rfl
  have hlt0 : 0 < w.heap.size := by
    rcases Nat.lt_or_ge 0 w.heap.size with h | h
    · exact h
    · rw [World.cell?, Array.getElem?_eq_none h] at h0
      cases h0
  have H0 := hide h0
  clear h0
  refine (callsIn_wide (n := 9)).1 ?_
  refine callsIn_of_wp_marks Tryd.func8 rfl trivial ?_ rfl
  simp only [Tryd.ntmps8, List.size_toArray, List.length_cons, List.length_nil, Nat.reduceAdd, Nat.reduceSub, Array.replicate_succ, Array.replicate_zero, List.push_toArray, List.append_toArray, List.nil_append, List.cons_append]
  gi_wp2_with (refine ⟨trivial, ?_⟩; gi_at_call 20; refine (wwords_in Fence.wide _ trivial rfl s _).mono ?_; rintro e w' ⟨rfl, rfl⟩)
  refine gen4 (fun w1 k2 k3 k4 kb hb1 hz1 => ?_)
  obtain ⟨hz1, hz2⟩ := Nat.le_antisymm_iff.1 hz1
  have hz0 : w1.cell? ⟨0, 0, none⟩ = some (.int .i64 m) := (hb1.cell (p := ⟨0, 0, none⟩) hlt0).trans H0.out
  refine wpIn_rangeFunc_ownH (α := List UInt8) rfl (by omega) (gf := 40) (lb := #[.pointer (some ⟨w.heap.size + 1 + 1 + 1, 0, none⟩)]) rfl trivial (enters_of Tryd.func40 (by kernel_rfl) rfl)
    (words_stops 8 (by omega) (w.heap.size + 1 + 1 + 1) s m w1 hsz hz0 kb)
    (fun h1 h2 => h2.trans h1) ?kb (Below.refl _ _) (fun _ => rfl)
    (ParI w w1) (ParX w w1) (parI_own w w1 (by omega)) (parX_own w w1 (by omega)) ?start
    (fun x a' W => a' = { tmps := #[.string s, undef, .pointer (some ⟨w.heap.size, 0, none⟩), .pointer (some ⟨w.heap.size + 1, 0, none⟩), .pointer (some ⟨w.heap.size + 1 + 1, 0, none⟩), .string ⟨x.toArray⟩, undef, undef, undef, undef, .string s, .func (.func 40) #[] #[.pointer (some ⟨w.heap.size + 1 + 1 + 1, 0, none⟩)], .string ⟨x.toArray⟩, undef, undef, undef, undef, undef, undef, undef, undef, undef, undef, undef, undef, undef, undef, undef, undef, undef, undef, undef, undef, undef, undef, undef, undef, undef, undef, undef, undef, undef, undef, undef, undef, undef, undef], defers := [] }) ?ax ?assign ?body ?done ?stop
  case kb =>
    intro W l o o' hl ho hc _
    exact World.cell?_of_block (World.putObj_heap_other (by show (0 : Nat) ≠ l; omega))
  case start => exact ⟨_, k4, World.ownsRow_nil _ _ _ _, by simp, k2, k3, hb1, Nat.le_refl _⟩
  case ax =>
    rintro x a' _ W W' row h _ _
    exact h
  case assign =>
    rintro l pre x W K hI hK
    gi_wp2
    exact hK _ _ (KeepsFrom.refl _ _) rfl hI rfl
  case body =>
    rintro l pre x a' W hl ⟨r, hr⟩ ⟨v, i1, i2, i3, i4, i5, i6, i7⟩ rfl hpl
    obtain ⟨A, c, rfl, hnc, _⟩ := own_slice i2
    have q1 := i1.cell 0
    have f1 := i1.frozen 0
    have l1 := i1.lt
    by_cases h62 : 62 < pre.length
    · have s1 : (62 : Int) < pre.length := by omega
      have q4 := i4.cell
      have f4 := i4.frozen
      have l4 := i4.lt
      have q5 := i5.cell 0
      have f5 := i5.frozen 0
      have l5 := i5.lt
      simp only [zeroAct] at q4
      gi_wp2
      refine genPut (vs := [.int .i64 0, .int .i64 0, .int .i64 0, .string ⟨#[]⟩, .slice none 0 0, .int .i64 0, .int .i64 0, .int .i64 0, .int .i64 0, .slice none 0 0, .int .i64 0]) (R := fun X => ownPostG w1.heap.size KeepZ (ParI w w1) (ParX w w1) (pre ++ [x]) W Exit.ret _ (X.setCell ⟨w.heap.size + 1, 0, none⟩ (.int .i64 12))) i4 rfl i6 (Nat.le_refl _) (fun W' k6 hb6 ht => ?_)
      have k35 : Blk W' (w.heap.size + 1) 31 #[.int .i64 0] := ht.blk i5 (.inr (Nat.le_refl _))
      exact ⟨(touch_keeps i4 ht _).trans ((KeepsOthers.setCell _ _ _).from _), rfl, by rw [List.length_append, List.length_singleton]; omega, k6.far (by simp) _, k35.set_ 0 _, hb6.setCell (p := ⟨w.heap.size + 1, 0, none⟩) (by simp) _, by have := ht.size; simp [World.setCell]; omega⟩
    · have s1 : ¬ (62 : Int) < pre.length := by omega
      have HI2 := hide i2
      obtain ⟨i0, hi, hz0', hz1', hz2'⟩ := info_parts info_stringA
      clear i2
      gi_wp2_with (gi_at_builtin; refine heldG ?_)
      refine unheldG ?_
      gi_at_builtin
      refine wpListIn_append_own _ rfl _ _ _ rfl w1.heap.size 9 i0 _ 1 16 Tryd.underlying51 hi hz0' hz1' hz2' rfl (by omega) (.slice A pre.length c) pre.length _ rfl (row_alloc HI2.out _) ⟨W.heap.size, 0, none⟩ 1 1 [wordV x] rfl rfl ?c2 ?c3 ?c4 ?c5 ?c6 ?_
      case c2 => intro j u hu; rw [add_plain, Nat.zero_add, (Blk.new W 9 _).cell]; simpa [wordV, tx] using hu
      case c3 => intro u hu; rw [List.mem_singleton] at hu; subst hu; rfl
      case c4 => unfold maxLen; omega
      case c5 => omega
      case c6 => simp; omega
      intro v' w2 hown2 hg2 _
      have hrow : ∀ q, Value.ownBlock (.slice A pre.length c) = some q → w1.heap.size ≤ q := fun q hq => (World.ownsRow.lt HI2.out q hq).1
      have i12 := (i1.alloc (.cells #[.string ⟨x.toArray⟩] 9)).grown hg2 (fun e => by have := hrow _ e.symm; omega)
      have q12 := i12.cell 0
      have f12 := i12.frozen 0
      have l12 := i12.lt
      obtain ⟨A2, c2, rfl, _⟩ := own_slice hown2
      have HO2 := hide hown2
      clear hown2 q1 f1 l1
      gi_wp2_with fail
      have hb2 : Below w.heap.size W w2 := ((Below.refl w.heap.size W).alloc (by omega) _).grown hg2 (by simp; omega) (fun q hq => by have := hrow q hq; omega)
      have hO : KeepsOthers (W.alloc (.cells #[.string ⟨x.toArray⟩] 9)) w2 := KeepsOthers.of_grownBy hg2 (fun j o e ho => by
        obtain ⟨cur, e'⟩ := row_obj (row_alloc HI2.out (.cells #[.string ⟨x.toArray⟩] 9)) e
        rw [e'] at ho
        injection ho with ho
        subst ho
        rfl)
      have kk : ∀ (g : Nat) (t : TypeId) (cs : Array Value), g < w1.heap.size → Blk W g t cs → Blk w2 g t cs := fun g t cs hg k => (k.alloc _).grown hg2 (fun e => by have := hrow _ e.symm; omega)
      refine ⟨((KeepsOthers.alloc _ _).from _).trans ((hO.from _).trans ((KeepsOthers.setCell _ _ _).from _)), KeepZ.of_below (hb2.setCell (p := ⟨w.heap.size + 1 + 1, 0, none⟩) (by simp; omega) _) hlt0, _, i12.set_ 0 _, ?_, by rw [List.length_append, List.length_singleton]; omega, (kk _ _ _ (by omega) i4).far (by simp; omega) _, (kk _ _ _ (by omega) i5).far (by simp) _, (i6.trans hb2).setCell (p := ⟨w.heap.size + 1 + 1, 0, none⟩) (by simp; omega) _, by have := hb2.size; simp [World.setCell]; omega⟩
      have h2 : (w2.setCell ⟨w.heap.size + 1 + 1, 0, none⟩ (.slice A2 (pre.length + 1) c2)).ownsRow w1.heap.size 9 1 (.slice A2 (pre.length + 1) c2) (pre.length + 1) (pre.map wordV ++ [wordV x]) := row_keep HO2.out fun q hq => Below.heap_setCell w2 ⟨w.heap.size + 1 + 1, 0, none⟩ _ q (by have := (World.ownsRow.lt HO2.out q hq).1; simp; omega)
      simpa using h2
  case done =>
    rintro D ys W hD rfl ⟨v, i1, i2, i3, i4, i5, i6, i7⟩ hK
    gi_wp2_with fail
    refine wpIn_wide.2 ?_
    obtain ⟨nm, r, hw⟩ : ∃ nm r, wordsT s.data.toList = nm :: r := ⟨_, _, wordsOf'_step _ _⟩
    have hwl : ∀ x ∈ nm :: r, x.length ≤ 1000000 := fun x hx => Nat.le_trans (words_len _ _ x (by rw [← hw] at hx; exact hx)) (by have : s.data.toList.length = s.size := Array.length_toList (xs := s.data); omega)
    rw [hw] at i2 i3
    have HW := hide hw
    obtain ⟨A, c, rfl, hnc, _⟩ := own_slice i2
    obtain ⟨g, cap, hvv, _, hglt⟩ := i2.form (by simp)
    injection hvv with e1 e2 e3
    subst e1 e3
    have hst : Strs W W.heap.size (some ⟨g, 0, none⟩) (r.length + 1) (nm :: r) := ⟨rfl, Reads.of_own i2⟩
    obtain ⟨A', hsl, hr⟩ := strs_tail hst (by simpa using hnc)
    have c0 : W.cell? ⟨g, 0, none⟩ = some (.string (tx nm)) := by
      have := i2.cells (g := g) rfl 0 (wordV nm) rfl
      rw [add_plain] at this
      exact this
    simp only [List.length_cons] at i3
    have hvW := hv.below i6
    have htW := ht.below i6
    have HOP := hide (fun W' (hbW : Below W.heap.size W W') => tx_data nm ▸ actOf_any (tx nm) A' r.length (c - 1) r W.heap.size W' hbW.size (by omega) (by simp at hnc; omega) (hr.below hbW (Nat.le_refl _)) (fun x hx => hwl x (List.mem_cons_of_mem _ hx)) (hvW.below hbW))
    have HIN := hide (fun (a : ActD) (ha : actOfD nm r = some a) => actOfD_in ha (fun l hl => hwl l (List.mem_cons_of_mem _ hl)))
    have HTW := hide htW
    have q1 := i1.cell 0
    have i1l := i1.lt
    have hDl : D < W.heap.size := (Array.getElem?_eq_some_iff.1 hK).1
    have HK := hide hK
    have HLN := hide i3
    simp only [List.length_cons] at *
    clear hst hr hvW htW hv ht hw hwl hnc i2 hK
    go_cut [6, 7] from 21 to 29 (fun s6 s7 wx => ActCut W (actOfD nm r) s6 s7 wx)
    case first =>
      have jb := (Below.refl W.heap.size W).drew
      have C1 := hide (fun W' (hW : Below W.heap.size W W') => (show W'.cell? ⟨w.heap.size + 1 + 1, 0, none⟩ = some (.slice (some ⟨g, 0, none⟩) (r.length + 1) c) ∧ W'.cell? ⟨g, 0, none⟩ = some (.string (tx nm)) from ⟨(hW.cell (p := ⟨w.heap.size + 1 + 1, 0, none⟩) i1l).trans q1, (hW.cell (p := ⟨g, 0, none⟩) hglt).trans c0⟩))
      have p1 : (0 : Int) < (r.length : Int) + 1 := by omega
      clear c0 q1
      go_region_held3 (fun w' => w'.cell? ⟨w.heap.size + 1 + 1, 0, none⟩ = some (.slice (some ⟨g, 0, none⟩) (r.length + 1) c) ∧ w'.cell? ⟨g, 0, none⟩ = some (.string (tx nm)))
        (first | (with_reducible exact C1.out _ jb) | (with_reducible exact C1.out _ (((Below.refl W.heap.size W).alloc (Nat.le_refl _) _).drew)) | (with_reducible exact C1.out _ jq) | (with_reducible exact C1.out _ (jq.alloc jq.size _)) | (with_reducible exact C1.out _ (set11 jq (Nat.le_refl _) _ _ _ _ _ _ _ _ _ _ _)))
        ((go_at_call 21; refine (HOP.out _ (by (first | (with_reducible exact jb) | (with_reducible exact (((Below.refl W.heap.size W).alloc (Nat.le_refl _) _).drew))))).mono ?_; rintro e wq hq; obtain ⟨d, A2, n2, c2, A3, n3, c3, ok, rfl, hbq, HQ⟩ := actOf_told hq; have jq : Below W.heap.size W wq := (by (first | exact below_via jb hbq jb.size | exact below_via (((Below.refl W.heap.size W).alloc (Nat.le_refl _) _).drew) hbq (by simp))); try (have k8 := Blk.via hbq ((Blk.new W _ _).drew); have q8 := k8.cell; have f8 := k8.frozen; have l8 := k8.lt)))
      all_goals go_wp2_with fail
      all_goals go_meet
      · refine ⟨wq.heap.size, d, A2, n2, c2, A3, n3, c3, ok, rfl, rfl, jq.size, Blk.new _ _ _, jq.alloc jq.size _, ?_⟩
        rcases HQ.out with h | ⟨h1, h2, h3⟩
        · exact .inl h
        · exact .inr ⟨h1, h2, (h3.via ((Below.refl _ _).alloc (Nat.le_refl _) _)).low (Nat.le_refl _)⟩
      · refine genPut (vs := [.int .i64 d.act, .int .i64 d.client, .int .i64 d.op.act, .string d.op.key, .slice A2 n2 c2, .int .i64 d.op.lo, .int .i64 d.op.hi, .int .i64 d.op.n, .int .i64 d.n, .slice A3 n3 c3, .int .i64 d.log]) k8 rfl jq (Nat.le_refl _) (fun W' k6 hb6 ht => ⟨W.heap.size, d, A2, n2, c2, A3, n3, c3, ok, rfl, rfl, Nat.le_refl _, k6, hb6, ?_⟩)
        rcases HQ.out with h | ⟨h1, h2, h3⟩
        · exact .inl h
        · exact .inr ⟨h1, h2, (h3.put k8 (by decide) (by decide) ht).low (by simp)⟩
    case rest =>
      obtain ⟨b6, d, A2, n2, c2, A3, n3, c3, ok, rfl, rfl, hb6, k6, hbx, HQ⟩ := hcut
      rename World => wx
      have HQ := hide HQ
      have x2 := Blk.via hbx i4
      have x3 := Blk.via hbx i5
      have hbwx : Below w.heap.size w wx := below_via i6 hbx i6.size
      have hKx : wx.heap[D]? = some (.deferred (some [])) := (hbx.block D hDl).trans HK.out
      have HKX := hide hKx
      clear hKx c0 q1
      have y6 := k6.cell
      have z6 := k6.lt
      have y2 := x2.cell
      have e2 := x2.frozen
      have l2 := x2.lt
      have y3 := x3.cell 0
      have e3 := x3.frozen 0
      have l3 := x3.lt
      simp only [zeroAct] at y2
      cases ok
      · have HP := hide (show parseD s.data.toList = none by
          rcases HQ.out with ⟨h1, _⟩ | ⟨_, h2, _⟩
          · unfold parseD
            rw [if_neg (by rw [HW.out]; simp only [List.length_cons]; omega), HW.out]
            simp only [h1]
          · cases h2)
        go_wp2_with fail
        refine wpIn_wide.2 ?_
        go_wp2
        refine genPut (vs := [.int .i64 0, .int .i64 0, .int .i64 0, .string ⟨#[]⟩, .slice none 0 0, .int .i64 0, .int .i64 0, .int .i64 0, .int .i64 0, .slice none 0 0, .int .i64 0]) (R := fun X => bodyPostM Fence.wide 9 Tryd.prog _ _ Exit.ret _ (X.setCell ⟨w.heap.size + 1, 0, none⟩ (.int .i64 12))) x2 rfl hbwx (Nat.le_refl _) (fun W' k7 hb7 ht => ?_)
        have k37 : Blk W' (w.heap.size + 1) 31 #[.int .i64 0] := ht.blk x3 (.inr (Nat.le_refl _))
        have hK7 : (W'.setCell ⟨w.heap.size + 1, 0, none⟩ (.int .i64 12)).heap[D]? = some (.deferred (some [])) := (Below.heap_setCell _ _ _ D (by simp; omega)).trans ((ht.block D (by omega)).trans (HKX).out)
        have u2 := ((k7.far (p := ⟨w.heap.size + 1, 0, none⟩) (by simp) (.int .i64 12)).obj (o' := .deferred none) hK7 rfl).cell
        have u3 := ((k37.set_ 0 (.int .i64 12)).obj (o' := .deferred none) hK7 rfl).cell
        have b7 : Below w.heap.size w (W'.setCell ⟨w.heap.size + 1, 0, none⟩ (.int .i64 12)) := hb7.setCell (p := ⟨w.heap.size + 1, 0, none⟩) (by simp) _
        refine leave_mark (v := .tuple #[.agg zeroAct, .int .i64 12]) hK7 (by simp [results, Tryd.results8, go_sem, zeroAct, u2, u3]) ⟨b7.grown (grownBy_putObj' _ D _) b7.size (fun k hk => by injection hk with hk; omega), .inl ⟨HP.out, rfl⟩⟩
      · go_wp2_with fail
        refine wpIn_wide.2 ?_
        have hd : actOfD nm r = some d ∧ OwnA wx W.heap.size ⟨d, .slice A2 n2 c2, .slice A3 n3 c3⟩ := by
          rcases HQ.out with ⟨_, h⟩ | ⟨h1, _, h3⟩
          · cases h
          · exact ⟨h1, h3⟩
        obtain ⟨hi, hdl, hkl, hpl⟩ := HIN.out d hd.1
        have hdp := actOfD_plain hd.1
        have hok := hd.2.ok
        have HD := hide hd
        have HPD := hide (show parseD s.data.toList = if lineD d = some s.data.toList then some d else none by
          unfold parseD
          rw [if_neg (by rw [HW.out]; simp only [List.length_cons]; omega), HW.out]
          simp only [hd.1])
        cases hB : isActB d
        · have hn2 : n2 = d.op.data.length := by obtain ⟨_, _, _, e, _, _, h, _⟩ := hok.1; injection e with _ e; rw [e, h]
          have hn3 : n3 = d.pages.length := by obtain ⟨_, _, e, _⟩ := hok.2; injection e
          have HL := hide (fun W' => actLine_no d.act d.client d.n d.log d.op d.pages A2 A3 n2 c2 n3 c3 W' hn2 hn3 (by omega) (by omega) hB)
          have HP := hide (show parseD s.data.toList = none by rw [HPD.out, if_neg (by unfold lineD; rw [hB]; intro h; cases h)])
          clear hd hi hdl hkl hpl hdp hok hn2 hn3 hB
          go_wp2_with (go_at_call 14; refine (HL.out _).mono ?_; rintro e wl ⟨rfl, hbl⟩; have xl2 := Blk.via hbl x2; have xl3 := Blk.via hbl x3; have xl6 := Blk.via hbl k6; have ql2 := xl2.cell; have el2 := xl2.frozen; have ll2 := xl2.lt; have ql3 := xl3.cell 0; have el3 := xl3.frozen 0; have ll3 := xl3.lt; have ql6 := xl6.cell; have ll6 := xl6.lt; simp only [zeroAct] at ql2; have hbwl := below_via hbwx hbl hbwx.size; have HKL := hide ((hbl.block D (Nat.lt_of_lt_of_le hDl hbx.size)).trans HKX.out))
          refine genPut (vs := [.int .i64 0, .int .i64 0, .int .i64 0, .string ⟨#[]⟩, .slice none 0 0, .int .i64 0, .int .i64 0, .int .i64 0, .int .i64 0, .slice none 0 0, .int .i64 0]) (R := fun X => bodyPostM Fence.wide 9 Tryd.prog _ _ Exit.ret _ (X.setCell ⟨w.heap.size + 1, 0, none⟩ (.int .i64 12))) xl2 rfl hbwl (Nat.le_refl _) (fun W' k7 hb7 ht => ?_)
          have k37 : Blk W' (w.heap.size + 1) 31 #[.int .i64 0] := ht.blk xl3 (.inr (Nat.le_refl _))
          have hK7 : (W'.setCell ⟨w.heap.size + 1, 0, none⟩ (.int .i64 12)).heap[D]? = some (.deferred (some [])) := (Below.heap_setCell _ _ _ D (by simp; omega)).trans ((ht.block D (by omega)).trans (HKL).out)
          have u2 := ((k7.far (p := ⟨w.heap.size + 1, 0, none⟩) (by simp) (.int .i64 12)).obj (o' := .deferred none) hK7 rfl).cell
          have u3 := ((k37.set_ 0 (.int .i64 12)).obj (o' := .deferred none) hK7 rfl).cell
          have b7 : Below w.heap.size w (W'.setCell ⟨w.heap.size + 1, 0, none⟩ (.int .i64 12)) := hb7.setCell (p := ⟨w.heap.size + 1, 0, none⟩) (by simp) _
          refine leave_mark (v := .tuple #[.agg zeroAct, .int .i64 12]) hK7 (by simp [results, Tryd.results8, go_sem, zeroAct, u2, u3]) ⟨b7.grown (grownBy_putObj' _ D _) b7.size (fun k hk => by injection hk with hk; omega), .inl ⟨HP.out, rfl⟩⟩
        · have hL := fun W' (hW : Below wx.heap.size wx W') => actLine_any ⟨d, .slice A2 n2 c2, .slice A3 n3 c3⟩ wx.heap.size W' hW.size (opSm_of hdp hB hi hdl) hi (hok.below hW (Nat.le_refl _)) (by have := HLN.out; dsimp only; omega) ((HTW.out.below hbx).below hW)
          obtain ⟨sT, HT1, HT2, hTs⟩ := letter (actT d)
          have HL := hide (fun W' (hW : Below wx.heap.size wx W') => (hL W' hW).mono fun e w' h => (show e = .returned (.tuple #[.string sT, .int .i64 0]) ∧ Below W'.heap.size W' w' from ⟨by
            obtain ⟨_, ⟨h1, _⟩ | ⟨_, h2⟩⟩ := h
            · rw [hB] at h1; cases h1
            · rw [h2, lineV, HT1.out], h.1⟩))
          cases hcmp : sT.toList == s.toList
          · have hc2 : (sT.toList != s.toList) = true := by rw [bne, hcmp]; rfl
            have HP := hide (show parseD s.data.toList = none by
              rw [HPD.out, if_neg]
              unfold lineD
              rw [if_pos hB]
              intro h
              injection h with h
              rw [ByteArray.toList_eq, ByteArray.toList_eq, HT2.out, h, beq_self_eq_true] at hcmp
              cases hcmp)
            clear hd hi hdl hkl hpl hdp hok hB hL
            go_wp2_with (go_at_call 14; refine (HL.out _ (Below.refl _ _)).mono ?_; rintro e wl ⟨rfl, hbl⟩; have xl2 := Blk.via hbl x2; have xl3 := Blk.via hbl x3; have xl6 := Blk.via hbl k6; have ql2 := xl2.cell; have el2 := xl2.frozen; have ll2 := xl2.lt; have ql3 := xl3.cell 0; have el3 := xl3.frozen 0; have ll3 := xl3.lt; have ql6 := xl6.cell; have ll6 := xl6.lt; simp only [zeroAct] at ql2; have hbwl := below_via hbwx hbl hbwx.size; have HKL := hide ((hbl.block D (Nat.lt_of_lt_of_le hDl hbx.size)).trans HKX.out))
            refine genPut (vs := [.int .i64 0, .int .i64 0, .int .i64 0, .string ⟨#[]⟩, .slice none 0 0, .int .i64 0, .int .i64 0, .int .i64 0, .int .i64 0, .slice none 0 0, .int .i64 0]) (R := fun X => bodyPostM Fence.wide 9 Tryd.prog _ _ Exit.ret _ (X.setCell ⟨w.heap.size + 1, 0, none⟩ (.int .i64 12))) xl2 rfl hbwl (Nat.le_refl _) (fun W' k7 hb7 ht => ?_)
            have k37 : Blk W' (w.heap.size + 1) 31 #[.int .i64 0] := ht.blk xl3 (.inr (Nat.le_refl _))
            have hK7 : (W'.setCell ⟨w.heap.size + 1, 0, none⟩ (.int .i64 12)).heap[D]? = some (.deferred (some [])) := (Below.heap_setCell _ _ _ D (by simp; omega)).trans ((ht.block D (by omega)).trans (HKL).out)
            have u2 := ((k7.far (p := ⟨w.heap.size + 1, 0, none⟩) (by simp) (.int .i64 12)).obj (o' := .deferred none) hK7 rfl).cell
            have u3 := ((k37.set_ 0 (.int .i64 12)).obj (o' := .deferred none) hK7 rfl).cell
            have b7 : Below w.heap.size w (W'.setCell ⟨w.heap.size + 1, 0, none⟩ (.int .i64 12)) := hb7.setCell (p := ⟨w.heap.size + 1, 0, none⟩) (by simp) _
            refine leave_mark (v := .tuple #[.agg zeroAct, .int .i64 12]) hK7 (by simp [results, Tryd.results8, go_sem, zeroAct, u2, u3]) ⟨b7.grown (grownBy_putObj' _ D _) b7.size (fun k hk => by injection hk with hk; omega), .inl ⟨HP.out, rfl⟩⟩
          · have hc2 : (sT.toList != s.toList) = false := by rw [bne, hcmp]; rfl
            have HP := hide (show parseD s.data.toList = some d by
              rw [HPD.out, if_pos]
              unfold lineD
              rw [if_pos hB]
              rw [beq_iff_eq, ByteArray.toList_eq, ByteArray.toList_eq, HT2.out] at hcmp
              rw [hcmp])
            clear hd hi hdl hkl hpl hdp hok hB hL
            go_wp2_with (go_at_call 14; refine (HL.out _ (Below.refl _ _)).mono ?_; rintro e wl ⟨rfl, hbl⟩; have xl2 := Blk.via hbl x2; have xl3 := Blk.via hbl x3; have xl6 := Blk.via hbl k6; have ql2 := xl2.cell; have el2 := xl2.frozen; have ll2 := xl2.lt; have ql3 := xl3.cell 0; have el3 := xl3.frozen 0; have ll3 := xl3.lt; have ql6 := xl6.cell; have ll6 := xl6.lt; simp only [zeroAct] at ql2; have hbwl := below_via hbwx hbl hbwx.size; have HKL := hide ((hbl.block D (Nat.lt_of_lt_of_le hDl hbx.size)).trans HKX.out))
            refine genPut (vs := [.int .i64 d.act, .int .i64 d.client, .int .i64 d.op.act, .string d.op.key, .slice A2 n2 c2, .int .i64 d.op.lo, .int .i64 d.op.hi, .int .i64 d.op.n, .int .i64 d.n, .slice A3 n3 c3, .int .i64 d.log]) (R := fun X => bodyPostM Fence.wide 9 Tryd.prog _ _ Exit.ret _ (X.setCell ⟨w.heap.size + 1, 0, none⟩ (.int .i64 0))) xl2 rfl hbwl (Nat.le_refl _) (fun W' k7 hb7 ht => ?_)
            have k37 : Blk W' (w.heap.size + 1) 31 #[.int .i64 0] := ht.blk xl3 (.inr (Nat.le_refl _))
            have hK7 : (W'.setCell ⟨w.heap.size + 1, 0, none⟩ (.int .i64 0)).heap[D]? = some (.deferred (some [])) := (Below.heap_setCell _ _ _ D (by simp; omega)).trans ((ht.block D (by omega)).trans HKL.out)
            have u2 := ((k7.far (p := ⟨w.heap.size + 1, 0, none⟩) (by simp) (.int .i64 0)).obj (o' := .deferred none) hK7 rfl).cell
            have u3 := ((k37.set_ 0 (.int .i64 0)).obj (o' := .deferred none) hK7 rfl).cell
            have b7 : Below w.heap.size w (W'.setCell ⟨w.heap.size + 1, 0, none⟩ (.int .i64 0)) := hb7.setCell (p := ⟨w.heap.size + 1, 0, none⟩) (by simp) _
            have ho : OwnA ((W'.setCell ⟨w.heap.size + 1, 0, none⟩ (.int .i64 0)).putObj D (.deferred none)) w.heap.size ⟨d, .slice A2 n2 c2, .slice A3 n3 c3⟩ := ((((HD.out.2.via hbl).put xl2 (by decide) (by decide) ht).put (g := w.heap.size + 1) k37 (by decide) (by decide) (Touch.set (p := ⟨w.heap.size + 1, 0, none⟩) (Touch.refl _) (by simp) _)).obj hK7 rfl).low i6.size
            refine leave_mark (v := .tuple #[actV ⟨d, .slice A2 n2 c2, .slice A3 n3 c3⟩, .int .i64 0]) hK7 (by simp [results, Tryd.results8, go_sem, actV, u2, u3]) ⟨b7.grown (grownBy_putObj' _ D _) b7.size (fun k hk => by injection hk with hk; omega), .inr ⟨_, HP.out, rfl, ho⟩⟩
  case stop =>
    rintro D c' pre W hD ⟨k, hk, hpre⟩ ⟨rfl, x1, x2, x3, x4, x5⟩ hK
    have hl := congrArg List.length hpre
    rw [List.length_take] at hl
    have HP := hide (show parseD s.data.toList = none by unfold parseD; rw [if_pos (by omega)])
    clear hl hpre
    gi_wp2
    have hne : ∀ (g : Nat) (t : TypeId) (cs : Array Value), Blk W g t cs → Blk (W.putObj D (.deferred none)) g t cs := fun g t cs k => (World.putObj_heap_other (fun e => by
      subst e
      unfold Blk at k
      rw [hK] at k
      cases k)).trans k
    have y2 := (hne _ _ _ x2).cell
    have y3 := (hne _ _ _ x3).cell
    simp only [zeroAct] at y2
    refine leave_mark (v := .tuple #[.agg zeroAct, .int .i64 12]) hK (by simp [results, Tryd.results8, go_sem, zeroAct, y2, y3]) ⟨x4.grown (grownBy_putObj' W D _) x4.size (fun k hk => by injection hk with hk; omega), .inl ⟨HP.out, rfl⟩⟩
end Go.Proofs.YtgokkbocboonnaaDoor
