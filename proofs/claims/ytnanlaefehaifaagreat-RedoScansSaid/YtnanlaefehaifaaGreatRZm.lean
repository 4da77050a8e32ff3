/-
  WALK OF THE PROGRAM: redo.Commits.
-/
import Derived.Test.YtnanlaefehaifaaGreatRZl
import Derived.Test.YtnanlaefehaifaaGreatRB
namespace Go.Proofs.YtnanlaefehaifaaGreat
open Go.RowKit Go.Shelf

attribute [local go_sem] Oper.semAt_some

theorem wpListIn_append_any {F : Fence} {nf : Nat} {P : Program} (w : World) {ops : Array Oper} {rest : List Oper} {o : Oper} {a : Act} {Q : Exit → Act → World → Prop} (hgd : o.guard = none) (s x : Operand) (t : TypeId)
    (ho : o.op = .call { callee := .builtin .append, args := #[s, x], argTypes := #[t, t] })
    (base : Nat) (e : TypeId) (i : TypeInfo) (z : Value) (size bytes : Nat) (ht : P.underlying t = some (.slice e)) (hi : P.info? e = some i) (hz : i.zero = some z)
    (hsize : i.size = size) (hby : i.bytes = bytes) (hzs : z.cells.size = size) (hsz : 0 < size)
    (v : Value) (n : Nat) (xs : List Value) (hs : a.eval s = v) (hown : w.ownsRow base e size v n xs)
    (B : Nat) (A : Option Addr) (m c : Nat) (news : List Value) (hx : a.eval x = .slice A m c) (hr : Reads w B size A m news) (h1 : ∀ u ∈ news, u.oneCell' = true)
    (h63 : n + m ≤ maxLen) (hbytes : (n + m) * bytes ≤ 140737488355328) (hbase : base ≤ w.heap.size)
    (h : ∀ v' w', w'.ownsRow base e size v' (n + m) (xs ++ news) → w.grownBy w' v.ownBlock → (v'.ownBlock = v.ownBlock ∨ v'.ownBlock = some w.heap.size) → wpListIn F nf P ops Q rest (a.put o.dst v') w') : wpListIn F nf P ops Q (o :: rest) a w := by
  refine wpListIn_plain hgd fun K hK' => ?_
  obtain ⟨v', w', hrun, r1, r2, r3⟩ := run_append_any (P := P) w base t o.type e i z size bytes ht hi hz hsize hby hzs hsz v n xs hown B A m c news hr h1 h63 hbytes hbase
  unfold Oper.wpIn
  refine ⟨?_, ?_⟩
  · simp [Oper.about, ho, resolve, Target.leads, Sem.run_pure]
  · rw [Oper.semAt_plain F _ _ (by rw [ho]; intro c hc'; cases hc')]
    simp [execOp, ho, resolve, invoke, builtin, hs, hx, hrun, Result.andThen]
    exact hK' _ _ (h v' w' r1 r2 r3)
/-- One more in a row of the caller's own, whose slice lies in its box. -/
theorem KeepS.append {Fs : Nat → Prop} {bx N1 : Nat} {W W1 W2 : World} {t : TypeId} {v v' : Value} (hbx : Fs bx) (k : Blk W bx t #[v]) (hb : Below W.heap.size W W1) (hg : W1.grownBy W2 v.ownBlock) (hv : v.ownBlock ≠ some bx) (hloc : v'.ownBlock = v.ownBlock ∨ ∃ g, v'.ownBlock = some g ∧ W.heap.size ≤ g) : KeepS Fs bx N1 W (W2.setCell ⟨bx, 0, none⟩ v') := by
  have k2 : Blk W2 bx t #[v] := (hg.block bx (Nat.lt_of_lt_of_le k.lt hb.size) (fun e => hv e.symm)).trans (Blk.via hb k)
  have k3 : Blk (W2.setCell ⟨bx, 0, none⟩ v') bx t #[v'] := k2.set_ 0 v'
  refine ⟨by simpa [World.setCell] using Nat.le_trans hb.size hg.size, fun q hq hn _ => ?_, fun q hq => ?_⟩
  · have h1 : q ≠ bx := fun e => hn (.inl (e ▸ hbx))
    have h2 : some q ≠ v.ownBlock := fun e => hn (.inr ⟨v, t, _, k, e.symm⟩)
    exact (Below.heap_setCell W2 ⟨bx, 0, none⟩ v' q h1).trans ((hg.block q (Nat.lt_of_lt_of_le hq hb.size) h2).trans (hb.block q hq))
  · rcases hq with hq | ⟨u, t', fr, h1, h2⟩
    · exact .inl (.inl hq)
    · rw [show (W2.setCell ⟨bx, 0, none⟩ v').heap[bx]? = _ from k3] at h1
      injection h1 with h1
      injection h1 with h1 _ _
      injection h1 with h1
      injection h1 with h1
      subst h1
      rcases hloc with h3 | ⟨g, h3, hg'⟩
      · exact .inl (.inr ⟨v, t, _, k, by rw [← h3]; exact h2⟩)
      · rw [h3] at h2
        injection h2 with h2
        exact .inr (h2 ▸ hg')
/-- What redo.Commits holds between two rounds. -/
def CmI (w w1 : World) (hs : List Hnd) (W : World) : Prop :=
  ∃ v, Blk W w.heap.size 30 #[v] ∧ W.ownsRow w1.heap.size 3 1 v (commitsD (hs.map Hnd.ent)).length ((commitsD (hs.map Hnd.ent)).map (Value.int .i64)) ∧ Below w.heap.size w W ∧ w1.heap.size ≤ W.heap.size
theorem cmI_own (w w1 : World) (hw : w.heap.size ≤ w1.heap.size) : OwnFrom w1.heap.size (CmI w w1) := by
  rintro hs W W' row ⟨v, k1, k2, k3, k4⟩ hg hr
  exact ⟨v, k1.grown hg (nc_ne hr k1), row_keep k2 (fun q hq => by obtain ⟨cur, e⟩ := row_obj k2 hq; exact hg.block q (World.ownsRow.lt k2 q hq).2 (nc_ne hr e)), k3.grown hg k3.size (fun q hq => by have := (hr q hq).1; omega), Nat.le_trans k4 hg.size⟩
theorem keepB {W W' : World} (hb : Below W.heap.size W W') (B : Nat) : KeepsFrom B W W' := ⟨hb.size, fun k _ _ hk _ => (hb.block k (Array.getElem?_eq_some_iff.1 hk).1).trans hk⟩
/-- What is handed, cell by cell. -/
theorem Hnd.form (hd : Hnd) : ∃ (pr nx : Int) (A1 : Option Addr) (n1 c1 : Nat) (z1 : Int) (s2 : ByteArray) (z3 : Int) (s4 : ByteArray) (d1 : Int) (A2 : Option Addr) (n2 c2 : Nat) (d3 d4 d5 u7 : Int),
    recV hd.x = .agg #[.int .i64 hd.x.kind, .int .i64 hd.x.txn, .int .i64 pr, .int .i64 nx, .slice A1 n1 c1, .int .i64 z1, .string s2, .int .i64 z3, .string s4, .int .i64 d1, .slice A2 n2 c2, .int .i64 d3, .int .i64 d4, .int .i64 d5, .int .i64 u7] ∧
    hd.x.cells.toArray = #[.int .i64 hd.x.kind, .int .i64 hd.x.txn, .int .i64 pr, .int .i64 nx, .slice A1 n1 c1, .int .i64 z1, .string s2, .int .i64 z3, .string s4, .int .i64 d1, .slice A2 n2 c2, .int .i64 d3, .int .i64 d4, .int .i64 d5, .int .i64 u7] := by
  obtain ⟨p, x, hx2, hx3, hx4⟩ := hd
  
  obtain ⟨A1, n1, c1, e1⟩ := hx3
  obtain ⟨A2, n2, c2, e2⟩ := hx4
  refine ⟨x.prev, x.next, A1, n1, c1, x.undo.act, x.undo.key, x.undo.state, x.undo.ikey, x.undo.cell.kind, A2, n2, c2, x.undo.cell.lo, x.undo.cell.hi, x.undo.cell.val, x.undo.n, ?_, ?_⟩
  · dsimp only at *
    rw [← e1, ← e2]
    rfl
  · dsimp only at *
    rw [← e1, ← e2]
    rfl
/-- The frame of a round. -/
def cmA (lp : Option Addr) (N Bx : Nat) (p : Int) (xv : Value) : Act := { tmps := #[.pointer lp, undef, .slice none 0 0, .pointer (some ⟨N, 0, none⟩), undef, .pointer (some ⟨Bx, 0, none⟩), .pointer lp, .func (.func 123) #[] #[.pointer (some ⟨N + 1, 0, none⟩)], .int .i64 p, xv, undef, undef, undef, undef, undef, undef, undef, undef, undef], defers := [] }
set_option maxRecDepth 100000 in
set_option maxHeartbeats 8000000 in
theorem wCommits_gen (lp : Option Addr) (es : List EntD) (w : World) (hlen : es.length ≤ 1000)
    (hSq : ∀ w1, Below w.heap.size w w1 → (∀ q, OwnS (fun q => q = w.heap.size) w.heap.size w1 q → q = w.heap.size) → Blk w1 (w.heap.size + 1) 24 #[.pointer lp] → w.heap.size + 2 ≤ w1.heap.size →
      SeqStopsK Fence.wide 8 Tryz.prog 123 #[.pointer (some ⟨w.heap.size + 1, 0, none⟩)] hndArg (KeepS (fun q => q = w.heap.size) w.heap.size w1.heap.size) (fun hs => hs.map Hnd.ent = es) (fun hs => ∃ k, k ≤ es.length ∧ hs.map Hnd.ent = es.take k) es.length w1) :
    Calls Tryz.prog 16 #[.pointer lp] w fun e w' => (∃ A2 c2, e = .returned (.slice A2 (commitsD es).length c2) ∧ w'.ownsRow w.heap.size 3 1 (.slice A2 (commitsD es).length c2) (commitsD es).length ((commitsD es).map (Value.int .i64))) ∧ Below w.heap.size w w' := by
  have hmf : ∀ (fn : Fn) (first cap : Array Value) (w : World), (Instr.makeFunc fn first cap).run Tryz.prog w = .ok (.func fn first cap) w := fun _ _ _ _ => rfl
  refine (callsIn_wide (n := 9)).1 ?_
  refine callsIn_of_wp_marks Tryz.func16 rfl trivial ?_ rfl
  simp only [Tryz.ntmps16, List.size_toArray, List.length_cons, List.length_nil, Nat.reduceAdd, Nat.reduceSub, Array.replicate_succ, Array.replicate_zero, List.push_toArray, List.append_toArray, List.nil_append, List.cons_append]
  gi_wp2_with (refine ⟨trivial, ?_⟩; gi_at_call 54; refine (wAll_in Fence.wide _ trivial rfl _ ⟨_, rfl⟩ _).mono ?_; rintro e w' ⟨rfl, rfl⟩)
  refine gen2 (fun w1 k0 kb hb1 hz1 => ?_)
  have hown1 : ∀ q, OwnS (fun q => q = w.heap.size) w.heap.size w1 q → q = w.heap.size := by
    rintro q (h | ⟨v, t, fr, h1, h2⟩)
    · exact h
    · rw [show w1.heap[w.heap.size]? = _ from k0] at h1
      injection h1 with h1
      injection h1 with h1 _ _
      injection h1 with h1
      injection h1 with h1
      subst h1
      cases h2
  have hSeq := hSq w1 hb1 hown1 kb hz1
  refine wpIn_rangeFunc_ownH (α := Hnd) rfl (by omega) (gf := 123) (lb := #[.pointer (some ⟨w.heap.size + 1, 0, none⟩)]) rfl trivial (enters_of Tryz.func123 (by kernel_rfl) rfl) hSeq
    (fun h1 h2 => h1.trans h2) ?kb (Below.refl _ _) (fun _ => rfl)
    (CmI w w1) (fun _ _ _ => False) (cmI_own w w1 (by omega)) (fun _ _ _ _ _ hs _ _ => hs) ?start
    (fun hd a' W => ∃ Bx, w1.heap.size ≤ Bx ∧ Blk W Bx 41 hd.x.cells.toArray ∧ a' = cmA lp w.heap.size Bx hd.place (recV hd.x)) ?ax ?assign ?body ?done ?stop
  case kb =>
    intro W l' o o' hl ho hc hw'
    exact KeepS.putObj (w := w1) (Nat.le_refl _) (by omega) W l' o o' hl ho hc hw'
  case start => exact ⟨_, k0, World.ownsRow_nil _ _ _ _, hb1, Nat.le_refl _⟩
  case ax =>
    rintro hd a' s W W' row ⟨Bx, h1, h2, h3⟩ hg hr
    exact ⟨Bx, h1, h2.grown hg (nc_ne hr h2), h3⟩
  case assign =>
    rintro l' pre hd W K hI hK
    obtain ⟨v, i1, i2, i3, i4⟩ := hI
    have HK := hide hK
    clear hK
    obtain ⟨pr, nx, A1, n1, c1, z1, s2, z3, s4, d1, A2, n2, c2, d3, d4, d5, u7, hf1, hf2⟩ := hd.form
    have hlt := i1.lt
    have HF := hide (And.intro hf1 hf2)
    rw [show hndArg hd = #[.int .i64 hd.place, recV hd.x] from rfl, hf1]
    clear hf1 hf2
    gi_wp2
    exact HK.out _ _ ((KeepsOthers.alloc _ _).from _) (KeepS.of_below ((Below.refl _ W).alloc (Nat.le_refl _) _) hlt) ⟨v, i1.alloc _, own_via i2 ((Below.refl _ _).alloc (Nat.le_refl _) _), i3.alloc i3.size _, by simp; omega⟩ ⟨W.heap.size, i4, by rw [HF.out.2]; exact Blk.new W _ _, by rw [HF.out.1]; rfl⟩
  case body =>
    rintro l' pre hd a' W hl ⟨r, hr⟩ ⟨v, i1, i2, i3, i4⟩ ⟨Bx, hBx, kx, rfl⟩ hpl
    have hcl : (commitsD (pre.map Hnd.ent)).length ≤ 1000 := Nat.le_trans (commitsD_length _) (by rw [List.length_map]; omega)
    have HCS := hide (show commitsD ((pre ++ [hd]).map Hnd.ent) = commitsD (pre.map Hnd.ent) ++ (if hd.x.kind = 3 then [hd.x.txn] else []) by rw [List.map_append, List.map_singleton, commitsD_snoc]; rfl)
    have b0 : W.cell? ⟨Bx, 0, none⟩ = some (.int .i64 hd.x.kind) := kx.cell 0
    have b1 : W.cell? ⟨Bx, 1, none⟩ = some (.int .i64 hd.x.txn) := kx.cell 1
    have lx := kx.lt
    have q1 := i1.cell 0
    have f1 := i1.frozen 0
    have l1 := i1.lt
    unfold cmA
    generalize hkd : hd.x.kind = kd at *
    generalize htx : hd.x.txn = tx at *
    generalize recV hd.x = xv
    cases h3 : (kd == 3)
    · have HCS : Hid (commitsD ((pre ++ [hd]).map Hnd.ent) = commitsD (pre.map Hnd.ent)) := hide (by rw [HCS.out, if_neg (by simpa using h3), List.append_nil])
      gi_wp2
      exact ⟨KeepsFrom.refl _ _, KeepS.refl _, v, i1, by rw [HCS.out]; exact i2, i3, i4⟩
    · have HCS : Hid (commitsD ((pre ++ [hd]).map Hnd.ent) = commitsD (pre.map Hnd.ent) ++ [tx]) := hide (by rw [HCS.out, if_pos (by simpa using h3)])
      obtain ⟨A, cc, rfl, hnc, _⟩ := own_slice i2
      have HI2 := hide i2
      obtain ⟨i0, hi, hz0', hz1', hz2'⟩ := info_parts info_intR
      clear i2
      generalize hcm : commitsD (pre.map Hnd.ent) = zs at *
      have HCM := hide hcm
      clear hcm
      gi_wp2_with (gi_at_builtin; refine heldG ?_)
      refine unheldG ?_
      gi_at_builtin
      refine wpListIn_append_any _ rfl _ _ _ rfl w1.heap.size 3 i0 _ 1 8 Tryz.underlying30 hi hz0' hz1' hz2' rfl (by omega) (.slice A zs.length cc) zs.length _ rfl (HI2.out.alloc _) (W.heap.size + 1) (some ⟨W.heap.size, 0, none⟩) 1 1 [.int .i64 tx] rfl (Reads.of_blk (n := 1) (size := 1) (Blk.new _ _ _) rfl) (fun u hu => by rw [List.mem_singleton] at hu; subst hu; rfl) (by unfold maxLen; omega) (by omega) (by simp; omega) ?_
      intro v' w4 hown4 hg4 hloc4
      have hbA : Below W.heap.size W (W.alloc (.cells #[.int .i64 tx] 3)) := (Below.refl _ _).alloc (Nat.le_refl _) _
      have hne : (Value.slice A zs.length cc).ownBlock ≠ some w.heap.size := fun e => by have := (World.ownsRow.lt HI2.out _ e).1; omega
      have j1 : Blk w4 w.heap.size 30 #[.slice A zs.length cc] := (i1.alloc _).keepB (HI2.out.alloc _) (by decide) hg4
      have q14 := j1.cell 0
      have f14 := j1.frozen 0
      have l14 := j1.lt
      obtain ⟨A2, c2, rfl, _⟩ := own_slice hown4
      have HO4 := hide hown4
      have HKP := hide (KeepS.append (Fs := fun q => q = w.heap.size) (bx := w.heap.size) (N1 := w1.heap.size) rfl i1 hbA hg4 hne (show (Value.slice A2 (zs.length + 1) c2).ownBlock = (Value.slice A zs.length cc).ownBlock ∨ ∃ g, (Value.slice A2 (zs.length + 1) c2).ownBlock = some g ∧ W.heap.size ≤ g from hloc4.imp id (fun h => ⟨_, h, by simp⟩)))
      have hO : KeepsOthers (W.alloc (.cells #[.int .i64 tx] 3)) w4 := KeepsOthers.of_grownBy hg4 (fun j o e ho => by
        obtain ⟨cur, e'⟩ := row_obj (HI2.out.alloc (.cells #[.int .i64 tx] 3)) e
        rw [e'] at ho
        injection ho with ho
        subst ho
        rfl)
      have hb4 : Below w.heap.size w w4 := (i3.alloc i3.size _).grown hg4 (by simp; omega) (fun q hq => by have := (World.ownsRow.lt HI2.out q hq).1; omega)
      have hz4 : W.heap.size ≤ w4.heap.size := by have := hg4.size; simp at this; omega
      have HKO := hide hO
      clear hown4 hg4 q1 f1 hO hloc4
      gi_wp2_with fail
      refine ⟨((KeepsOthers.alloc _ _).from _).trans ((HKO.out.from _).trans ((KeepsOthers.setCell _ _ _).from _)), HKP.out, _, j1.set_ 0 _, ?_, hb4.setCell (p := ⟨w.heap.size, 0, none⟩) (Nat.le_refl _) _, by simp [World.setCell]; omega⟩
      rw [HCS.out, List.length_append, List.map_append]
      exact own_farK HO4.out j1 (by decide) _
  case done =>
    rintro D hs W hD hS ⟨v, i1, i2, i3, i4⟩ hK
    rw [hS] at i2
    obtain ⟨A3, c3, rfl, _⟩ := own_slice i2
    have q1 := i1.cell 0
    have f1 := i1.frozen 0
    have l1 := i1.lt
    have HI2 := hide i2
    clear i2
    dsimp only
    gi_wp2
    refine leave_mark (v := .slice A3 (commitsD es).length c3) hK (by simp [results, Tryz.results16, go_sem]) ⟨⟨A3, c3, rfl, ?_⟩, i3.grown (grownBy_putObj' W D _) i3.size (fun k hk => by injection hk with hk; omega)⟩
    refine own_low' (row_keep HI2.out fun q hq => World.putObj_heap_other (fun e => ?_)) (by omega)
    subst e
    obtain ⟨cur, e2⟩ := row_obj HI2.out hq
    rw [hK] at e2
    cases e2
  case stop =>
    rintro D c pre W hD _ hF _
    exact hF.elim
theorem wCommits_any (l m kk L : Nat) (cs : Array Value) (pv : Value) (f : Int → Option Value) (es : List EntD) (w : World) (hlen : es.length ≤ 1000) (hR : LogR w w.heap.size l m kk L cs pv f es) :
    Calls Tryz.prog 16 #[.pointer (some ⟨l, 0, none⟩)] w fun e w' => (∃ A2 c2, e = .returned (.slice A2 (commitsD es).length c2) ∧ w'.ownsRow w.heap.size 3 1 (.slice A2 (commitsD es).length c2) (commitsD es).length ((commitsD es).map (Value.int .i64))) ∧ Below w.heap.size w w' :=
  wCommits_gen _ es w hlen fun w1 hb1 hown1 kb hz1 => all_stops 8 (by omega) (w.heap.size + 1) w.heap.size w1.heap.size w.heap.size l m kk L (fun q => q = w.heap.size) cs pv f es w1 (by omega) (by omega) (Nat.le_refl _) (by omega) (fun q hq => by have := hown1 q hq; omega) kb (fun h => by have := hown1 _ h; omega) (by omega) (hR.via hb1 (Nat.le_refl _))
set_option maxRecDepth 100000 in
set_option maxHeartbeats 8000000 in
/-- The iterator over no log at all. -/
theorem all1_nil (n : Nat) (lp Bl : Nat) (w : World) (hBl : Blk w Bl 24 #[.pointer none]) :
    CallsIn Fence.wide n Tryz.prog 123 #[.func (.yield lp) #[] #[], .pointer (some ⟨Bl, 0, none⟩)] w fun e W' => (∃ v, e = .returned v) ∧ W' = w := by
  have b0 : w.cell? ⟨Bl, 0, none⟩ = some (.pointer none) := hBl.cell 0
  refine callsIn_of_wp Tryz.func123 rfl trivial ?_ rfl
  simp only [Tryz.ntmps123, List.size_toArray, List.length_cons, List.length_nil, Nat.reduceAdd, Nat.reduceSub, Array.replicate_succ, Array.replicate_zero, List.push_toArray, List.append_toArray, List.nil_append, List.cons_append]
  gi_wp2
  exact bodyPost_ret (v := .tuple #[]) (by simp [results, Tryz.results123, go_sem]) rfl ⟨⟨_, rfl⟩, rfl⟩
theorem nil_stops (n : Nat) (Bl : Nat) (Kp : World → World → Prop) (Sp : List Hnd → Prop) (w : World) (hBl : Blk w Bl 24 #[.pointer none]) :
    SeqStopsK Fence.wide n Tryz.prog 123 #[.pointer (some ⟨Bl, 0, none⟩)] hndArg Kp (fun hs => hs.map Hnd.ent = []) Sp 0 w := fun l' J Jx W hW hJ _ _ h0 =>
  (all1_nil n l' Bl W (Blk.via hW hBl)).mono (by rintro e W' ⟨hv, rfl⟩; exact ⟨hv, .inl ⟨[], rfl, h0⟩⟩)
theorem wCommits_nil (w : World) :
    Calls Tryz.prog 16 #[.pointer none] w fun e w' => (∃ A2 c2, e = .returned (.slice A2 0 c2)) ∧ Below w.heap.size w w' :=
  (wCommits_gen none [] w (by simp) fun w1 _ _ kb _ => nil_stops 8 _ _ _ w1 kb).mono (by rintro e w' ⟨⟨A2, c2, rfl, _⟩, hb⟩; exact ⟨⟨A2, c2, rfl⟩, hb⟩)
end Go.Proofs.YtnanlaefehaifaaGreat
