/-
  WALK OF THE PROGRAM: hist.Did.
-/
import Derived.Test.YteidmdnhkgcnoaaGreatHB
namespace Go.Proofs.YteidmdnhkgcnoaaGreat
open Go.RowKit Go.Shelf

attribute [local go_sem] Oper.semAt_some

theorem info_didh : (Tryz.prog.info? 40).map (fun i => (i.zero, i.size, i.bytes)) = some (some (.agg didZ), 13, 144) := by kernel_rfl
/-- A goal at which the walk stops. -/
def Held (p : Prop) : Prop := p
theorem held {p : Prop} (h : Held p) : p := h
theorem unheld {p : Prop} (h : p) : Held p := h
theorem row_low {W : World} {base base' n : Nat} {e : TypeId} {size : Nat} {v : Value} {xs : List Value} (h : W.ownsRow base e size v n xs) (hb : base' ≤ base) : W.ownsRow base' e size v n xs := by
  obtain ⟨h1, h2 | ⟨g, cap, cur, e, hg, r⟩⟩ := h
  · exact ⟨h1, .inl h2⟩
  · exact ⟨h1, .inr ⟨g, cap, cur, e, by omega, r⟩⟩
theorem DRow.low {W : World} {N0 N1 : Nat} {v : Value} {done : List DidV} (h : DRow W N1 v done) (hN : N0 ≤ N1) : DRow W N0 v done :=
  ⟨row_low h.1 hN, fun y hy => ⟨(h.2 y hy).1.low hN, (h.2 y hy).2.low hN⟩⟩
/-- The frame of a round: the event's box, the event. -/
def roundA (A : Option Addr) (m c Bm N Bx : Nat) (x : Value) : Act := { tmps := #[.slice A m c, .func (.func 36) #[] #[.pointer (some ⟨Bm, 0, none⟩)], undef, .pointer (some ⟨N, 0, none⟩), .pointer (some ⟨N + 1, 0, none⟩), .pointer (some ⟨Bx, 0, none⟩), undef, .func (.func 53) #[] #[.pointer (some ⟨N + 1, 0, none⟩)], .slice A m c, .slice (some ⟨N + 1 + 1, 0, none⟩) 1 1, .func (.func 60) #[] #[.pointer (some ⟨N + 1 + 1 + 1, 0, none⟩), .pointer (some ⟨N + 1 + 1 + 1 + 1, 0, none⟩)], x, undef, undef, undef, undef, undef, undef, undef, undef, undef, undef, undef, undef, undef, undef, undef, undef, undef, undef, undef, undef, undef, undef, undef, undef, undef, undef, undef, undef, undef, undef, undef], defers := [] }
def evCells (x : EvV) : Array Value := #[.int .i64 x.d.act, .int .i64 x.d.client, .int .i64 x.d.txn, .int .i64 x.d.op.act, .string x.d.op.key, x.dv, .int .i64 x.d.op.lo, .int .i64 x.d.op.hi, .int .i64 x.d.op.n, .int .i64 x.d.err, .int .i64 x.d.cell.kind, x.cv, .int .i64 x.d.cell.lo, .int .i64 x.d.cell.hi, .int .i64 x.d.cell.val]
def DidPost (w : World) (xs : List EvV) (p : Int → Bool) (e : Ending) (w' : World) : Prop :=
  ∃ v done, e = .returned v ∧ DRow w' w.heap.size v done ∧ done.map DidV.d = ((thoseL xs [1] xs.length).filter (fun x => p x.1.d.txn)).map (fun x => didOfEv x.1.d) ∧ Below w.heap.size w w'
theorem didKeepB {W W' : World} (hb : Below W.heap.size W W') (B : Nat) : KeepsFrom B W W' := ⟨hb.size, fun k _ _ hk _ => (hb.block k (Array.getElem?_eq_some_iff.1 hk).1).trans hk⟩
set_option maxRecDepth 100000 in
set_option maxHeartbeats 4000000 in
theorem hDid_any (A : Option Addr) (m c : Nat) (xs : List EvV) (p : Int → Bool) (Bm : Nat) (w : World) (hm : m ≤ 1000) (h : Evs w w.heap.size A m xs) (hlen : ∀ x ∈ xs, x.d.op.data.length ≤ 1000000 ∧ x.d.cell.data.length ≤ 1000000)
    (hwf : ∀ x ∈ xs, wfI x.d.txn) (HOF : Hid (∀ W t, wfI t → Below w.heap.size w W → Calls Tryz.prog 36 #[.int .i64 t, .pointer (some ⟨Bm, 0, none⟩)] W fun e w' => e = .returned (.bool (p t)) ∧ Below W.heap.size W w')) :
    Calls Tryz.prog 35 #[.slice A m c, .func (.func 36) #[] #[.pointer (some ⟨Bm, 0, none⟩)]] w (DidPost w xs p) := by
  have hmf : ∀ (fn : Fn) (first cap : Array Value) (w : World), (Instr.makeFunc fn first cap).run Tryz.prog w = .ok (.func fn first cap) w := fun _ _ _ _ => rfl
  have HE := hide h
  have HWF := hide hwf
  have HLE := hide hlen
  have HL := hide h.1
  clear h hlen hwf
  refine (callsIn_wide (n := 9)).1 ?_
  refine callsIn_of_wp_marks Tryz.func35 rfl trivial ?_ rfl
  simp only [Tryz.ntmps35, List.size_toArray, List.length_cons, List.length_nil, Nat.reduceAdd, Nat.reduceSub, Array.replicate_succ, Array.replicate_zero, List.push_toArray, List.append_toArray, List.nil_append, List.cons_append]
  gi_wp2_with (refine ⟨trivial, ?_⟩; gi_at_call 46; refine (those_in Fence.wide _ trivial rfl A _ m c _ _ _).mono ?_; rintro e w' ⟨rfl, rfl⟩)
  refine gen5 (fun w1 k0 kA kq kl kd hb1 hz1 => ?_)
  have hE1 := HE.out.below hb1 (Nat.le_refl _)
  refine wpIn_rangeFunc_ownH (α := EvIn xs) rfl (by omega) (gf := 60) (lb := #[.pointer (some ⟨w.heap.size + 1 + 1 + 1, 0, none⟩), .pointer (some ⟨w.heap.size + 1 + 1 + 1 + 1, 0, none⟩)]) rfl trivial (enters_of Tryz.func60 (by kernel_rfl) rfl)
    (those_stops Fence.wide 8 trivial rfl (by omega) (w.heap.size + 1 + 1 + 1) (w.heap.size + 1 + 1 + 1 + 1) (w.heap.size + 1 + 1) w1.heap.size (w.heap.size + 1) w.heap.size m c 1 1 A xs [1] w1 (by omega) rfl (by omega) (by simp) (by omega) (by omega) (Nat.le_refl _) (by omega) (by omega) (by omega) (by omega) kl kd kq hE1)
    (fun h1 h2 => h1.trans h2) ?kb (Below.refl _ _) (fun _ => rfl)
    (DidI w w1 xs p) (fun _ _ _ => False) (didI_own w w1 xs p (by omega)) (fun _ _ _ _ _ hs _ _ => hs) ?start
    (fun x a' W => ∃ Bx, w1.heap.size ≤ Bx ∧ Blk W Bx 38 (evCells x.1) ∧ a' = roundA A m c Bm w.heap.size Bx (.agg (evCells x.1))) ?ax ?assign ?body ?done ?stop
  case kb =>
    intro W l o o' hl ho hc _
    have hg := grownBy_putObj' W l o'
    have hlt := (Array.getElem?_eq_some_iff.1 ho).1
    exact ⟨hg.size, fun q hq _ => hg.block q (by omega) (fun e => by injection e with e; omega), fun q cs e => hg.block q (Array.getElem?_eq_some_iff.1 e).1 (fun e2 => by
      injection e2 with e2
      subst e2
      rw [ho] at e
      injection e with e
      subst e
      cases hc)⟩
  case start => exact ⟨_, [], kA, ⟨World.ownsRow_nil _ _ _ _, fun y hy => by cases hy⟩, rfl, hb1, KeepBut.refl _ _ _⟩
  case ax =>
    rintro x a' s W W' row ⟨Bx, h1, h2, h3⟩ hg hr
    exact ⟨Bx, h1, h2.grown hg (nc_ne hr h2), h3⟩
  case assign =>
    rintro l pre x W K hI hK
    obtain ⟨v, done, i1, i2, i3, i4, i5⟩ := hI
    obtain ⟨⟨d, dv, cv⟩, hx⟩ := x
    obtain ⟨⟨A1, n1, m1, e1, p1⟩, ⟨A2, n2, m2, e2, p2⟩⟩ := HE.out.2.2 _ hx
    clear p1 p2
    dsimp only at e1 e2
    subst e1 e2
    have z5 := i5.size
    simp only [evArg]
    gi_wp2
    exact hK _ _ ((KeepsOthers.alloc _ _).from _) (KeepBut.of_below ((Below.refl _ W).alloc (Nat.le_refl _) _) z5) ⟨v, done, i1.alloc _, i2.via ((Below.refl _ _).alloc (Nat.le_refl _) _), i3, i4.alloc i4.size _, i5.trans (KeepBut.of_below ((Below.refl _ W).alloc (Nat.le_refl _) _) z5)⟩ ⟨W.heap.size, z5, Blk.new W _ _, rfl⟩
  case body =>
    rintro l pre x a' W hl ⟨r, hr⟩ ⟨v, done, i1, i2, i3, i4, i5⟩ ⟨Bx, hBx, kx, rfl⟩ hpl
    obtain ⟨⟨d, dv, cv⟩, hx⟩ := x
    have hokx := (i5.evs hE1 (by omega) (by omega)).2.2 _ hx
    have hlx := HLE.out _ hx
    obtain ⟨⟨A1, n1, m1, e1, p1⟩, ⟨A2, n2, m2, e2, p2⟩⟩ := hokx
    dsimp only at *
    subst e1 e2
    have hv1 : BytesAt W w.heap.size (.slice A1 n1 m1) d.op.data := ⟨A1, n1, m1, rfl, p1⟩
    have hv2 : BytesAt W w.heap.size (.slice A2 n2 m2) d.cell.data := ⟨A2, n2, m2, rfl, p2⟩
    clear p1 p2
    have z5 := i5.size
    have z4 := i4.size
    have kof := i5.blk k0 (by omega) (by omega)
    have q0 := kof.cell 0
    have qx := kx.cell
    have HOT := hide (HOF.out W d.txn (HWF.out _ hx) i4)
    obtain ⟨v0, hv0⟩ : ∃ v0, v0 = v := ⟨_, rfl⟩
    subst hv0
    simp only [roundA, evCells] at *
    cases hp : p d.txn
    · rw [hp] at HOT
      gi_wp2_with (refine ⟨trivial, ?_⟩; gi_at_call 36; refine (CallsIn.inRound l (callsIn_wide.2 HOT.out)).mono ?_; rintro e w2 ⟨rfl, hb2⟩)
      exact ⟨didKeepB hb2 _, KeepBut.of_below hb2 z5, v0, done, Blk.via hb2 i1, i2.via hb2, by rw [i3, List.filter_append]; simp [hp], below_via i4 hb2 z4, i5.trans (KeepBut.of_below hb2 z5)⟩
    · rw [hp] at HOT
      gi_wp2_with fail
      refine ⟨trivial, ?_⟩
      gi_at_call 36
      refine (CallsIn.inRound l (callsIn_wide.2 HOT.out)).mono ?_
      rintro e w2 ⟨rfl, hb2⟩
      have kx2 := Blk.via hb2 kx
      have i12 := Blk.via hb2 i1
      have i22 := i2.via hb2
      have i42 := below_via i4 hb2 z4
      have i52 := i5.trans (KeepBut.of_below hb2 z5)
      have qx2 := kx2.cell
      have hbx2 := kx2.lt
      have z42 := i42.size
      have hv12 := hv1.below hb2 z4
      have hv22 := hv2.below hb2 z4
      clear qx q0
      gi_wp2_with fail
      refine ⟨trivial, ?_⟩
      gi_at_call 34
      generalize hW3 : w2.alloc (.cells #[.int .i64 d.txn, .int .i64 d.op.act, .string d.op.key, .slice A1 n1 m1, .int .i64 d.op.lo, .int .i64 d.op.hi, .int .i64 d.op.n, .int .i64 d.err, .int .i64 d.cell.kind, .slice A2 n2 m2, .int .i64 d.cell.lo, .int .i64 d.cell.hi, .int .i64 d.cell.val] 40) = W3
      have kd : Blk W3 w2.heap.size 40 _ := hW3 ▸ Blk.new w2 _ _
      have hb3 : Below w2.heap.size w2 W3 := hW3 ▸ (Below.refl _ w2).alloc (Nat.le_refl _) _
      clear hW3
      have i13 := Blk.via hb3 i12
      have i23 := i22.via hb3
      have z43 := hb3.size
      refine (CallsIn.inRound l (callsIn_wide.2 (Clone_own _ d.op.data w.heap.size W3 (by omega) hlx.1 (hv12.below hb3 z42)))).mono ?_
      rintro e W4 ⟨v1, rfl, ho1, hb4⟩
      have kd4 := Blk.via hb4 kd
      have qd4 := kd4.cell
      have fd4 := kd4.frozen
      have z44 := hb4.size
      have hd4 := kd4.lt
      obtain ⟨A3, c3, rfl, _⟩ := own_slice ho1
      gi_wp2_with fail
      refine ⟨trivial, ?_⟩
      gi_at_call 34
      generalize hW5 : W4.setCell ⟨w2.heap.size, 3, none⟩ (.slice A3 d.op.data.length c3) = W5
      have kd5 : Blk W5 w2.heap.size 40 #[.int .i64 d.txn, .int .i64 d.op.act, .string d.op.key, .slice A3 d.op.data.length c3, .int .i64 d.op.lo, .int .i64 d.op.hi, .int .i64 d.op.n, .int .i64 d.err, .int .i64 d.cell.kind, .slice A2 n2 m2, .int .i64 d.cell.lo, .int .i64 d.cell.hi, .int .i64 d.cell.val] := hW5 ▸ kd4.set_ 3 _
      have b45 : Below w2.heap.size W4 W5 := hW5 ▸ (Below.refl _ W4).setCell (p := ⟨w2.heap.size, 3, none⟩) (Nat.le_refl _) _
      have i15 : Blk W5 (w.heap.size + 1) 25 #[v0] := hW5 ▸ (Blk.via hb4 i13).far (by simp; omega) _
      have ho5 : OwnB W5 W3.heap.size (.slice A3 d.op.data.length c3) d.op.data := hW5 ▸ ho1.far kd4 (by decide) _
      have t45 : KeepsOthers W4 W5 := hW5 ▸ KeepsOthers.setCell _ _ _
      have s45 : W5.heap.size = W4.heap.size := by rw [← hW5]; simp [World.setCell]
      clear hW5 qd4 fd4 kd4
      have b25 : Below w2.heap.size w2 W5 := (hb3.trans (hb4.mono hb3.size)).trans b45
      have i25 := i22.via b25
      refine (CallsIn.inRound l (callsIn_wide.2 (Clone_own _ d.cell.data w.heap.size W5 (by omega) hlx.2 (hv22.below b25 z42)))).mono ?_
      rintro e W6 ⟨v2, rfl, ho2, hb6⟩
      have kd6 := Blk.via hb6 kd5
      have i16 := Blk.via hb6 i15
      have i26 := i25.via hb6
      have ho6 := ho5.via hb6
      have qd6 := kd6.cell
      have fd6 := kd6.frozen
      have q16 := i16.cell 0
      have f16 := i16.frozen 0
      have l16 := i16.lt
      have z66 := hb6.size
      have hd6 := kd6.lt
      obtain ⟨A4, c4, rfl, _⟩ := own_slice ho2
      obtain ⟨i0, hi, hz0, hz1, hz2⟩ := info_parts info_didh
      obtain ⟨A5, c5, rfl, _⟩ := own_slice i26.1
      have hdl : done.length ≤ 1000 := by
        have e1 := congrArg List.length i3
        have e2 := List.length_filter_le (fun x : EvIn xs => p x.1.d.txn) pre
        simp only [List.length_map] at e1
        omega
      gi_wp2_with (gi_at_builtin; refine held ?_)
      refine unheld ?_
      generalize hW7 : W6.setCell ⟨w2.heap.size, 9, none⟩ (.slice A4 d.cell.data.length c4) = W7
      have s67 : W7.heap.size = W6.heap.size := by rw [← hW7]; simp [World.setCell]
      have b67 : Below w2.heap.size W6 W7 := hW7 ▸ (Below.refl _ W6).setCell (p := ⟨w2.heap.size, 9, none⟩) (Nat.le_refl _) _
      have t67 : KeepsOthers W6 W7 := hW7 ▸ KeepsOthers.setCell _ _ _
      have ho17 : OwnB W7 W3.heap.size (.slice A3 d.op.data.length c3) d.op.data := hW7 ▸ ho6.far kd6 (by decide) _
      have ho27 : OwnB W7 W5.heap.size (.slice A4 d.cell.data.length c4) d.cell.data := hW7 ▸ ho2.far kd6 (by decide) _
      have i17 : Blk W7 (w.heap.size + 1) 25 #[.slice A5 done.length c5] := hW7 ▸ i16.far (by simp; omega) _
      clear hW7 qd6 fd6 kd6 q16 f16
      have b27 : Below w2.heap.size w2 W7 := (b25.trans (hb6.mono b25.size)).trans b67
      have i27 := i22.via b27
      generalize hW8 : W7.alloc (.cells #[.int .i64 d.txn, .int .i64 d.op.act, .string d.op.key, .slice A3 d.op.data.length c3, .int .i64 d.op.lo, .int .i64 d.op.hi, .int .i64 d.op.n, .int .i64 d.err, .int .i64 d.cell.kind, .slice A4 d.cell.data.length c4, .int .i64 d.cell.lo, .int .i64 d.cell.hi, .int .i64 d.cell.val] 40) = W8
      have kb8 : Blk W8 W6.heap.size 40 #[.int .i64 d.txn, .int .i64 d.op.act, .string d.op.key, .slice A3 d.op.data.length c3, .int .i64 d.op.lo, .int .i64 d.op.hi, .int .i64 d.op.n, .int .i64 d.err, .int .i64 d.cell.kind, .slice A4 d.cell.data.length c4, .int .i64 d.cell.lo, .int .i64 d.cell.hi, .int .i64 d.cell.val] := by rw [← hW8, ← s67]; exact Blk.new _ _ _
      have b78 : Below W7.heap.size W7 W8 := hW8 ▸ (Below.refl _ W7).alloc (Nat.le_refl _) _
      clear hW8
      have i28 := i27.via b78
      have ho18 := ho17.via b78
      have ho28 := ho27.via b78
      have i18 := Blk.via b78 i17
      have b28 : Below w2.heap.size w2 W8 := b27.trans (b78.mono b27.size)
      have z28 := b28.size
      have z25 := b25.size
      gi_at_builtin
      refine wpListIn_append_own _ rfl _ _ _ rfl w1.heap.size 40 i0 _ 13 144 Tryz.underlying25 hi hz0 hz1 hz2 rfl (by omega) (.slice A5 done.length c5) done.length (done.flatMap DidV.cells) rfl i28.1 ⟨W6.heap.size, 0, none⟩ 1 1 (DidV.cells ⟨didOfEv d, .slice A3 d.op.data.length c3, .slice A4 d.cell.data.length c4⟩) rfl rfl ?c2 ?c3 ?c4 ?c5 ?c6 ?_
      case c2 => intro j u hu; rw [add_plain, Nat.zero_add, kb8.cell]; simpa [DidV.cells, opCells, cellCells, didOfEv] using hu
      case c3 =>
        intro u hu
        simp only [DidV.cells, opCells, cellCells, didOfEv, List.cons_append, List.nil_append, List.mem_cons, List.not_mem_nil, or_false] at hu
        rcases hu with rfl | rfl | rfl | rfl | rfl | rfl | rfl | rfl | rfl | rfl | rfl | rfl | rfl <;> rfl
      case c4 => unfold maxLen; omega
      case c5 => omega
      case c6 => omega
      intro v' w9 hown9 hg9 _
      have t89 : KeepsOthers W8 w9 := KeepsOthers.of_grownBy hg9 (fun j o e ho => by
        obtain ⟨cur, e'⟩ := row_obj i28.1 e
        rw [e'] at ho
        injection ho with ho
        subst ho
        rfl)
      have hrow : ∀ q, Value.ownBlock (.slice A5 done.length c5) = some q → w1.heap.size ≤ q := fun q hq => (World.ownsRow.lt i28.1 q hq).1
      have kb89 : KeepBut w1.heap.size (w.heap.size + 1) W8 w9 := KeepBut.grown hg9 (by omega) hrow (fun q e => by obtain ⟨cur, e'⟩ := row_obj i28.1 e; exact ⟨cur, _, e', by decide⟩)
      have i19 := i18.grown hg9 (fun e => by have := hrow _ e.symm; omega)
      have ho19 : OwnB w9 W3.heap.size (.slice A3 d.op.data.length c3) d.op.data := ho18.keep fun q hq => hg9.block q (ho18.lt q hq).2 (fun e => by
        obtain ⟨cur, e1⟩ := row_obj i28.1 e.symm
        obtain ⟨cur2, e2⟩ := row_obj ho18 hq
        rw [e1] at e2
        injection e2 with e2
        injection e2 with _ e2
        cases e2)
      have ho29 : OwnB w9 W5.heap.size (.slice A4 d.cell.data.length c4) d.cell.data := ho28.keep fun q hq => hg9.block q (ho28.lt q hq).2 (fun e => by
        obtain ⟨cur, e1⟩ := row_obj i28.1 e.symm
        obtain ⟨cur2, e2⟩ := row_obj ho28 hq
        rw [e1] at e2
        injection e2 with e2
        injection e2 with _ e2
        cases e2)
      have hin9 : ∀ y ∈ done, OwnB w9 w1.heap.size y.dv y.d.op.data ∧ OwnB w9 w1.heap.size y.cv y.d.cell.data := fun y hy => by
        obtain ⟨g1, g2⟩ := i28.2 y hy
        refine ⟨g1.keep fun q hq => hg9.block q (g1.lt q hq).2 (fun e => ?_), g2.keep fun q hq => hg9.block q (g2.lt q hq).2 (fun e => ?_)⟩
        · obtain ⟨cur, e1⟩ := row_obj i28.1 e.symm
          obtain ⟨cur2, e2⟩ := row_obj g1 hq
          rw [e1] at e2
          injection e2 with e2
          injection e2 with _ e2
          cases e2
        · obtain ⟨cur, e1⟩ := row_obj i28.1 e.symm
          obtain ⟨cur2, e2⟩ := row_obj g2 hq
          rw [e1] at e2
          injection e2 with e2
          injection e2 with _ e2
          cases e2
      have b89 : Below w.heap.size W8 w9 := (Below.refl _ _).grown hg9 (by omega) (fun k hk => by have := hrow k hk; omega)
      have hD9 : DRow w9 w1.heap.size v' (done ++ [⟨didOfEv d, .slice A3 d.op.data.length c3, .slice A4 d.cell.data.length c4⟩]) := by
        refine ⟨by simpa using hown9, fun y hy => ?_⟩
        rcases List.mem_append.1 hy with hy | hy
        · exact hin9 y hy
        · obtain rfl := List.mem_singleton.1 hy
          have := hb3.size
          exact ⟨ho19.low (by omega), ho29.low (by omega)⟩
      have q19 := i19.cell 0
      have f19 := i19.frozen 0
      have l19 := i19.lt
      obtain ⟨A6, c6, rfl, _⟩ := own_slice hown9
      clear i28 ho18 ho28 i18 kb8 hown9 hg9 ho19 ho29 hin9
      gi_wp2_with fail
      refine ⟨(didKeepB hb2 _).trans (((didKeepB hb3 _).trans (((didKeepB hb4 _).trans ((t45.from _).trans (didKeepB hb6 _))).trans ((t67.from _).trans (didKeepB b78 _)))).trans ((t89.from _).trans ((KeepsOthers.setCell _ _ _).from _))), ?_, _, _, i19.set_ 0 _, hD9.set i19 (by decide) (by decide) _, ?_, ?_, ?_⟩
      · exact (KeepBut.of_below hb2 z5).trans ((KeepBut.of_below b28 (by omega)).trans (kb89.trans (KeepBut.cell i19 (by decide) _)))
      · rw [List.map_append, i3, List.filter_append]; simp [hp]
      · exact ((i42.trans (b28.mono z42)).trans b89).setCell (p := ⟨w.heap.size + 1, 0, none⟩) (by simp) _
      · exact i52.trans ((KeepBut.of_below b28 (by omega)).trans (kb89.trans (KeepBut.cell i19 (by decide) _)))
  case done =>
    rintro D ys W hD hS hI hK
    obtain ⟨v, done, i1, i2, i3, i4, i5⟩ := hI
    obtain ⟨A3, c3, rfl, _⟩ := own_slice i2.1
    dsimp only
    have q1 := i1.cell 0
    have f1 := i1.frozen 0
    have l1 := i1.lt
    gi_wp2
    have hD0 : D ≠ w.heap.size + 1 := by omega
    have hK' : (W.setCell ⟨w.heap.size + 1, 0, none⟩ (.slice A3 done.length c3)).heap[D]? = some (.deferred (some [])) := (Below.heap_setCell W ⟨w.heap.size + 1, 0, none⟩ _ D hD0).trans hK
    have kS := i1.set_ 0 (.slice A3 done.length c3)
    have iS := i2.set (i := 0) i1 (by decide) (by decide) (.slice A3 done.length c3)
    have bS : Below w.heap.size w (W.setCell ⟨w.heap.size + 1, 0, none⟩ (.slice A3 done.length c3)) := i4.setCell (p := ⟨w.heap.size + 1, 0, none⟩) (by simp) _
    obtain ⟨WS, hWS⟩ : ∃ WS, WS = W.setCell ⟨w.heap.size + 1, 0, none⟩ (.slice A3 done.length c3) := ⟨_, rfl⟩
    rw [← hWS] at hK' kS iS bS ⊢
    clear hWS
    have kT : Blk (WS.putObj D (.deferred none)) (w.heap.size + 1) 25 _ := (World.putObj_heap_other (by omega)).trans kS
    refine ⟨by simp, .inl ⟨_, _, rfl, run_takeDeferred hK', by simp, .inr ⟨fun h => (by cases h), _, _, _, _, rfl, ?inv, ?leads, (didCatch _ _ trivial rfl ⟨w.heap.size + 1, 0, none⟩ _).mono ?_⟩⟩⟩
    case inv => simp [invoke, go_sem]
    case leads => exact fun _ _ => trivial
    rintro e u' w' ⟨rfl, rfl, rfl⟩
    have hc := kT.cell 0
    refine ⟨.slice A3 done.length c3, by simp [results, Tryz.results35, go_sem, hc], _, done, rfl, ?_, ?_, ?_⟩
    · refine DRow.low (iS.keep fun q cur t _ e => World.putObj_heap_other (fun e2 => ?_)) (by omega)
      subst e2
      rw [hK'] at e
      cases e
    · rw [i3, hS, ← HL.out]
    · exact bS.grown (grownBy_putObj' WS D _) bS.size (fun k hk => by injection hk with hk; omega)
  case stop =>
    rintro D c' pre W _ _ hI _
    exact hI.elim
end Go.Proofs.YteidmdnhkgcnoaaGreat
