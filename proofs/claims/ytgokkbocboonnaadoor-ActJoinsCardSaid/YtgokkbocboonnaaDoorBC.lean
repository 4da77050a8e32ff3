/-
  WALK OF THE PROGRAM: act.Read.
-/
import Derived.Test.YtgokkbocboonnaaDoorBA
import Derived.Test.YtgokkbocboonnaaDoorBB
import Derived.Test.YtgokkbocboonnaaDoorAV
namespace Go.Proofs.YtgokkbocboonnaaDoor
open Go.RowKit Go.Shelf

attribute [local go_sem] Oper.semAt_some

theorem info_actR : (Tryd.prog.info? 30).map (fun i => (i.zero, i.size, i.bytes)) = some (some (.agg zeroAct), 11, 128) := by kernel_rfl
/-- A row of Acts of the call's own, their parts of its own, too. -/
def ARow (W : World) (N0 : Nat) (v : Value) (done : List ActV) : Prop :=
  W.ownsRow N0 30 11 v done.length (done.flatMap ActV.cells) ∧ ∀ y ∈ done, OwnA W N0 y
theorem OwnA.keep {W W' : World} {base : Nat} {x : ActV} (h : OwnA W base x) (hk : ∀ (q : Nat) (cur : Array Value) (t : TypeId), base ≤ q → (t = 5 ∨ t = 3) → W.heap[q]? = some (.cells cur t (0, 0)) → W'.heap[q]? = W.heap[q]?) : OwnA W' base x :=
  ⟨h.1.keep fun q hq => by
    obtain ⟨cur, e⟩ := row_obj h.1 hq
    exact hk q cur _ (h.1.lt q hq).1 (.inl rfl) e,
   h.2.keep fun q cs hq k => (hk q cs _ hq (.inr rfl) k).trans k⟩
theorem ARow.keep {W W' : World} {N0 : Nat} {v : Value} {done : List ActV} (h : ARow W N0 v done) (hk : ∀ (q : Nat) (cur : Array Value) (t : TypeId), N0 ≤ q → (t = 30 ∨ t = 5 ∨ t = 3) → W.heap[q]? = some (.cells cur t (0, 0)) → W'.heap[q]? = W.heap[q]?) : ARow W' N0 v done :=
  ⟨row_keep h.1 fun q hq => by
    obtain ⟨cur, e⟩ := row_obj h.1 hq
    exact hk q cur _ (World.ownsRow.lt h.1 q hq).1 (.inl rfl) e,
   fun y hy => (h.2 y hy).keep fun q cur t hq ht e => hk q cur t hq (.inr ht) e⟩
theorem ARow.via {W W' : World} {N0 : Nat} {v : Value} {done : List ActV} (h : ARow W N0 v done) (hb : Below W.heap.size W W') : ARow W' N0 v done :=
  h.keep fun q _ _ _ _ e => hb.block q (Array.getElem?_eq_some_iff.1 e).1
theorem ARow.acts {W : World} {N0 : Nat} {A : Option Addr} {c : Nat} {done : List ActV} (h : ARow W N0 (.slice A done.length c) done) : Acts W W.heap.size A done.length done :=
  ⟨rfl, Reads.of_own h.1, fun x hx => (h.2 x hx).ok⟩
theorem row_low' {W : World} {base base' n : Nat} {e : TypeId} {size : Nat} {v : Value} {xs : List Value} (h : W.ownsRow base e size v n xs) (hb : base' ≤ base) : W.ownsRow base' e size v n xs := by
  obtain ⟨h1, h2 | ⟨g, cap, cur, e, hg, r⟩⟩ := h
  · exact ⟨h1, .inl h2⟩
  · exact ⟨h1, .inr ⟨g, cap, cur, e, by omega, r⟩⟩
theorem keepB {W W' : World} (hb : Below W.heap.size W W') (B : Nat) : KeepsFrom B W W' := ⟨hb.size, fun k _ _ hk _ => (hb.block k (Array.getElem?_eq_some_iff.1 hk).1).trans hk⟩
/-- What act.Read holds between two rounds. -/
def ReadI (w w1 : World) (pre : List (List UInt8 × Bool)) (W : World) : Prop :=
  ∃ v done, Blk W (w.heap.size + 1 + 1) 44 #[v] ∧ ARow W w1.heap.size v done ∧ readL pre = some (done.map ActV.d) ∧ Blk W w.heap.size 44 #[.slice none 0 0] ∧ Blk W (w.heap.size + 1) 31 #[.int .i64 0] ∧ Below w.heap.size w W ∧ w1.heap.size ≤ W.heap.size
/-- A line that is none. -/
def ReadX (w w1 : World) (c : Code) (pre : List (List UInt8 × Bool)) (W : World) : Prop :=
  c = .ret ∧ (∀ r, readL (pre ++ r) = none) ∧ Blk W w.heap.size 44 #[.slice none 0 0] ∧ Blk W (w.heap.size + 1) 31 #[.int .i64 12] ∧ Below w.heap.size w W ∧ w1.heap.size ≤ W.heap.size
theorem readL_snoc {pre : List (List UInt8 × Bool)} {l : List ActD} (h : readL pre = some l) (x : List UInt8) (b : Bool) (r : List (List UInt8 × Bool)) :
    (b = false → readL (pre ++ (x, b) :: r) = none) ∧ (b = true → parseD x = none → readL (pre ++ (x, b) :: r) = none) ∧ (b = true → ∀ a, parseD x = some a → readL (pre ++ [(x, b)]) = some (l ++ [a])) := by
  induction pre generalizing l with
  | nil =>
    simp only [readL, Option.some.injEq] at h
    subst h
    refine ⟨fun hb => by simp [readL, hb], fun hb hp => by simp [readL, hb, hp], fun hb a hp => by simp [readL, hb, hp]⟩
  | cons y t ih =>
    obtain ⟨y1, y2⟩ := y
    simp only [readL] at h
    split at h
    · cases h
    · rename_i hy
      cases hp : parseD y1 with
      | none => rw [hp] at h; cases h
      | some a0 =>
        rw [hp] at h
        cases hr : readL t with
        | none => simp only [hr] at h; cases h
        | some l0 =>
          simp only [hr, Option.map_some, Option.some.injEq] at h
          subst h
          obtain ⟨i1, i2, i3⟩ := ih hr
          refine ⟨fun hb => ?_, fun hb hq => ?_, fun hb a hq => ?_⟩
          · simp only [List.cons_append, readL, if_neg hy, hp, i1 hb]; rfl
          · simp only [List.cons_append, readL, if_neg hy, hp, i2 hb hq]; rfl
          · simp only [List.cons_append, readL, if_neg hy, hp, i3 hb a hq]; rfl
theorem readL_len : ∀ {pre : List (List UInt8 × Bool)} {l : List ActD}, readL pre = some l → l.length = pre.length
  | [], l, h => by
    simp only [readL, Option.some.injEq] at h
    subst h
    rfl
  | (x, b) :: r, l, h => by
    simp only [readL] at h
    split at h
    · cases h
    · cases hp : parseD x with
      | none => rw [hp] at h; cases h
      | some a =>
        rw [hp] at h
        cases hr : readL r with
        | none => simp only [hr] at h; cases h
        | some l0 =>
          simp only [hr, Option.map_some, Option.some.injEq] at h
          subst h
          simp [readL_len hr]
theorem readI_own (w w1 : World) (hw : w.heap.size ≤ w1.heap.size) : OwnFrom w1.heap.size (ReadI w w1) := by
  rintro pre W W' row ⟨v, done, k1, k2, k3, k4, k5, k6, k7⟩ hg hr
  exact ⟨v, done, k1.grown hg (nc_ne hr k1), k2.keep (fun q _ _ _ _ e => hg.block q (Array.getElem?_eq_some_iff.1 e).1 (nc_ne hr e)), k3, k4.grown hg (nc_ne hr k4), k5.grown hg (nc_ne hr k5), k6.grown hg k6.size (fun q hq => by have := (hr q hq).1; omega), Nat.le_trans k7 hg.size⟩
theorem readX_own (w w1 : World) (hw : w.heap.size ≤ w1.heap.size) (c : Code) : OwnFrom w1.heap.size (ReadX w w1 c) := by
  rintro pre W W' row ⟨k1, k2, k4, k5, k6, k7⟩ hg hr
  exact ⟨k1, k2, k4.grown hg (nc_ne hr k4), k5.grown hg (nc_ne hr k5), k6.grown hg k6.size (fun q hq => by have := (hr q hq).1; omega), Nat.le_trans k7 hg.size⟩
/-- What act.Read tells. -/
def ReadPost (w : World) (s : List UInt8) (e : Ending) (w' : World) : Prop :=
  Below w.heap.size w w' ∧ ((readD s = none ∧ e = .returned (.tuple #[.slice none 0 0, .int .i64 12])) ∨
    ∃ A c done, readD s = some (done.map ActV.d) ∧ e = .returned (.tuple #[.slice A done.length c, .int .i64 0]) ∧ ARow w' w.heap.size (.slice A done.length c) done)
set_option maxRecDepth 100000 in
set_option maxHeartbeats 8000000 in
theorem read_any (s : ByteArray) (w : World) (hsz : s.size ≤ 1000000) (hE : Env w) :
    Calls Tryd.prog 19 #[.string s] w (ReadPost w s.data.toList) := by
  have hmf : ∀ (fn : Fn) (first cap : Array Value) (w : World), (Instr.makeFunc fn first cap).run Tryd.prog w = .ok (.func fn first cap) w := fun _ _ _ _ => rfl
  have hlt0 := hE.pos
  obtain ⟨m, h0⟩ := hE.z
  have H0 := hide h0
  have HE := hide hE
  clear h0 hE
  refine (callsIn_wide (n := 9)).1 ?_
  refine callsIn_of_wp_marks Tryd.func19 rfl trivial ?_ rfl
  simp only [Tryd.ntmps19, List.size_toArray, List.length_cons, List.length_nil, Nat.reduceAdd, Nat.reduceSub, Array.replicate_succ, Array.replicate_zero, List.push_toArray, List.append_toArray, List.nil_append, List.cons_append]
  gi_wp2_with (refine ⟨trivial, ?_⟩; gi_at_call 39; refine (alines_in Fence.wide _ trivial rfl s _).mono ?_; rintro e w' ⟨rfl, rfl⟩)
  refine gen4 (fun w1 k2 k3 k4 kb hb1 hz1 => ?_)
  obtain ⟨hz1, hz2⟩ := Nat.le_antisymm_iff.1 hz1
  have hz0 : w1.cell? ⟨0, 0, none⟩ = some (.int .i64 m) := (hb1.cell (p := ⟨0, 0, none⟩) hlt0).trans H0.out
  refine wpIn_rangeFunc_ownH (α := LineB) rfl (by omega) (gf := 52) (lb := #[.pointer (some ⟨w.heap.size + 1 + 1 + 1, 0, none⟩)]) rfl trivial (enters_of Tryd.func52 (by kernel_rfl) rfl)
    (lines_stops 8 (by omega) (w.heap.size + 1 + 1 + 1) s m w1 hsz hz0 kb)
    (fun h1 h2 => h2.trans h1) ?kb (Below.refl _ _) (fun _ => rfl)
    (fun pre => ReadI w w1 (pre.map (·.1))) (fun c pre => ReadX w w1 c (pre.map (·.1))) (fun pre => readI_own w w1 (by omega) (pre.map (·.1))) (fun c pre => readX_own w w1 (by omega) c (pre.map (·.1))) ?start
    (fun x a' W => a' = { tmps := #[.string s, undef, .pointer (some ⟨w.heap.size, 0, none⟩), .pointer (some ⟨w.heap.size + 1, 0, none⟩), .pointer (some ⟨w.heap.size + 1 + 1, 0, none⟩), .string ⟨x.1.1.toArray⟩, .bool x.1.2, undef, undef, .string s, .func (.func 52) #[] #[.pointer (some ⟨w.heap.size + 1 + 1 + 1, 0, none⟩)], .string ⟨x.1.1.toArray⟩, .bool x.1.2, undef, undef, undef, undef, undef, undef, undef, undef, undef, undef, undef, undef, undef, undef], defers := [] }) ?ax ?assign ?body ?done ?stop
  case kb =>
    intro W l o o' hl ho hc _
    exact World.cell?_of_block (World.putObj_heap_other (by show (0 : Nat) ≠ l; omega))
  case start => exact ⟨_, [], k4, ⟨World.ownsRow_nil _ _ _ _, fun y hy => by cases hy⟩, rfl, k2, k3, hb1, Nat.le_refl _⟩
  case ax =>
    rintro x a' _ W W' row h _ _
    exact h
  case assign =>
    rintro l pre x W K hI hK
    gi_wp2
    exact hK _ _ (KeepsFrom.refl _ _) rfl hI rfl
  case body =>
    rintro l pre ⟨⟨x, b⟩, hx⟩ a' W hl ⟨r, hr⟩ ⟨v, done, i1, i2, i3, i4, i5, i6, i7⟩ rfl hpl
    obtain ⟨A, c, rfl, hnc, _⟩ := own_slice i2.1
    have q1 := i1.cell 0
    have f1 := i1.frozen 0
    have l1 := i1.lt
    have q4 := i4.cell 0
    have f4 := i4.frozen 0
    have l4 := i4.lt
    have q5 := i5.cell 0
    have f5 := i5.frozen 0
    have l5 := i5.lt
    have i63 := i6.size
    have HI2 := hide i2
    have HI3 := hide (readL_snoc i3 x b)
    clear i2 i3
    cases b with
    | false =>
      have HN : Hid (∀ r, readL (pre.map (·.1) ++ (x, false) :: r) = none) := hide (fun r => (HI3.out r).1 rfl)
      clear HI3
      gi_wp2
      exact ⟨((KeepsOthers.setCell _ _ _).from _).trans ((KeepsOthers.setCell _ _ _).from _), rfl, fun r => by
          have := HN.out r
          simpa using this, (i4.set_ 0 _).far (by simp) _, (i5.far (by simp) _).set_ 0 _, (i6.setCell (p := ⟨w.heap.size, 0, none⟩) (Nat.le_refl _) _).setCell (p := ⟨w.heap.size + 1, 0, none⟩) (by simp) _, by simp [World.setCell]; omega⟩
    | true =>
      have HN : Hid ((parseD x = none → ∀ r, readL (pre.map (·.1) ++ (x, true) :: r) = none) ∧ ∀ a, parseD x = some a → readL (pre.map (·.1) ++ [(x, true)]) = some (done.map ActV.d ++ [a])) := hide ⟨fun h r => (HI3.out r).2.1 rfl h, fun a h => (HI3.out []).2.2 rfl a h⟩
      clear HI3
      gi_wp2_with fail
      refine ⟨trivial, ?_⟩
      gi_at_call 8
      refine (callsIn_wide.2 (parse_env (HE.out.below i6) ⟨x.toArray⟩ (by simpa [ByteArray.size] using hx))).mono ?_
      rintro e w2 ⟨hb2, ⟨hp, rfl⟩ | ⟨y, hp, rfl, hoy⟩⟩
      · have i12 := Blk.via hb2 i1
        have i42 := Blk.via hb2 i4
        have i52 := Blk.via hb2 i5
        have q42 := i42.cell 0
        have f42 := i42.frozen 0
        have l42 := i42.lt
        have q52 := i52.cell 0
        have f52 := i52.frozen 0
        have l52 := i52.lt
        have i62 := below_via i6 hb2 i63
        have z62 := hb2.size
        have hbW2 : Below w.heap.size W w2 := hb2.mono i63
        clear q1 f1 l1 q4 f4 l4 q5 f5 l5
        simp only [zeroAct]
        gi_wp2
        refine ⟨(keepB hb2 _).trans (((KeepsOthers.setCell _ _ _).from _).trans (((KeepsOthers.setCell _ _ _).from _).trans ((KeepsOthers.alloc _ _).from _))), rfl, fun r => ?_, ((i42.set_ 0 _).far (by simp) _).alloc _, ((i52.far (by simp) _).set_ 0 _).alloc _, ((i62.setCell (p := ⟨w.heap.size, 0, none⟩) (Nat.le_refl _) _).setCell (p := ⟨w.heap.size + 1, 0, none⟩) (by simp) _).alloc (by simp [World.setCell]; omega) _, by simp [World.setCell]; omega⟩
        have := HN.out.1 hp r
        simpa using this
      · have i12 := Blk.via hb2 i1
        have i42 := Blk.via hb2 i4
        have i52 := Blk.via hb2 i5
        have q12 := i12.cell 0
        have f12 := i12.frozen 0
        have l12 := i12.lt
        have i62 := below_via i6 hb2 i63
        have z62 := hb2.size
        obtain ⟨yd, ydv, ypv⟩ := y
        have ⟨A3, c3, e3, _⟩ := own_slice hoy.1
        have ⟨A4, n4, c4, e4⟩ : ∃ A n c, ypv = .slice A n c := by
          obtain ⟨A, c, e, _⟩ := hoy.2
          exact ⟨_, _, _, e⟩
        dsimp only at e3 e4
        subst e3 e4
        have HOY := hide hoy
        have HR2 := hide (HI2.out.via hb2)
        have HNA := hide (HN.out.2 _ hp)
        obtain ⟨i0, hi, hz0', hz1', hz2'⟩ := info_parts info_actR
        clear q1 f1 l1 q4 f4 l4 q5 f5 l5 hoy HI2 HN
        simp only [actV]
        gi_wp2_with (gi_at_builtin; refine heldG ?_)
        refine unheldG ?_
        generalize hW8 : (w2.alloc (.cells #[.int .i64 yd.act, .int .i64 yd.client, .int .i64 yd.op.act, .string yd.op.key, .slice A3 yd.op.data.length c3, .int .i64 yd.op.lo, .int .i64 yd.op.hi, .int .i64 yd.op.n, .int .i64 yd.n, .slice A4 n4 c4, .int .i64 yd.log] 30)).alloc (.cells #[.int .i64 yd.act, .int .i64 yd.client, .int .i64 yd.op.act, .string yd.op.key, .slice A3 yd.op.data.length c3, .int .i64 yd.op.lo, .int .i64 yd.op.hi, .int .i64 yd.op.n, .int .i64 yd.n, .slice A4 n4 c4, .int .i64 yd.log] 30) = W8
        have kb8 : Blk W8 (w2.heap.size + 1) 30 #[.int .i64 yd.act, .int .i64 yd.client, .int .i64 yd.op.act, .string yd.op.key, .slice A3 yd.op.data.length c3, .int .i64 yd.op.lo, .int .i64 yd.op.hi, .int .i64 yd.op.n, .int .i64 yd.n, .slice A4 n4 c4, .int .i64 yd.log] := by
          rw [← hW8]
          have := Blk.new (w2.alloc (.cells #[.int .i64 yd.act, .int .i64 yd.client, .int .i64 yd.op.act, .string yd.op.key, .slice A3 yd.op.data.length c3, .int .i64 yd.op.lo, .int .i64 yd.op.hi, .int .i64 yd.op.n, .int .i64 yd.n, .slice A4 n4 c4, .int .i64 yd.log] 30)) 30 #[.int .i64 yd.act, .int .i64 yd.client, .int .i64 yd.op.act, .string yd.op.key, .slice A3 yd.op.data.length c3, .int .i64 yd.op.lo, .int .i64 yd.op.hi, .int .i64 yd.op.n, .int .i64 yd.n, .slice A4 n4 c4, .int .i64 yd.log]
          rwa [show (w2.alloc (.cells #[.int .i64 yd.act, .int .i64 yd.client, .int .i64 yd.op.act, .string yd.op.key, .slice A3 yd.op.data.length c3, .int .i64 yd.op.lo, .int .i64 yd.op.hi, .int .i64 yd.op.n, .int .i64 yd.n, .slice A4 n4 c4, .int .i64 yd.log] 30)).heap.size = w2.heap.size + 1 by simp] at this
        have b28 : Below w2.heap.size w2 W8 := hW8 ▸ ((Below.refl _ w2).alloc (Nat.le_refl _) _).alloc (by simp) _
        clear hW8
        have i18 := Blk.via b28 i12
        have i48 := Blk.via b28 i42
        have i58 := Blk.via b28 i52
        have HR8 := hide (HR2.out.via b28)
        have HOY8 := hide (HOY.out.via b28)
        have i68 := below_via i62 b28 (by have := i62.size; omega)
        have z28 := b28.size
        have hdl : done.length ≤ 1000000 := by
          have h1 := readL_len HNA.out
          have h2 := linesD_len s.data.toList
          have h3 : s.data.toList.length = s.size := Array.length_toList (xs := s.data)
          simp only [List.length_append, List.length_map, List.length_cons, List.length_nil] at h1
          omega
        gi_at_builtin
        refine wpListIn_append_own _ rfl _ _ _ rfl w1.heap.size 30 i0 _ 11 128 Tryd.underlying44 hi hz0' hz1' hz2' rfl (by omega) (.slice A done.length c) done.length (done.flatMap ActV.cells) rfl HR8.out.1 ⟨w2.heap.size + 1, 0, none⟩ 1 1 (ActV.cells ⟨yd, .slice A3 yd.op.data.length c3, .slice A4 n4 c4⟩) rfl rfl ?c2 ?c3 ?c4 ?c5 ?c6 ?_
        case c2 => intro j u hu; rw [add_plain, Nat.zero_add, kb8.cell]; simpa [ActV.cells, opCells] using hu
        case c3 =>
          intro u hu
          simp only [ActV.cells, opCells, List.cons_append, List.nil_append, List.mem_cons, List.not_mem_nil, or_false] at hu
          rcases hu with rfl | rfl | rfl | rfl | rfl | rfl | rfl | rfl | rfl | rfl | rfl <;> rfl
        case c4 => unfold maxLen; omega
        case c5 => omega
        case c6 => omega
        intro v' w9 hown9 hg9 _
        have hrow : ∀ q, Value.ownBlock (.slice A done.length c) = some q → w1.heap.size ≤ q := fun q hq => (World.ownsRow.lt HR8.out.1 q hq).1
        have hty : ∀ (q : Nat) (cur : Array Value) (t : TypeId), (t = 5 ∨ t = 3) → W8.heap[q]? = some (.cells cur t (0, 0)) → w9.heap[q]? = W8.heap[q]? := fun q cur t ht e => hg9.block q (Array.getElem?_eq_some_iff.1 e).1 (fun e2 => by
          obtain ⟨cur2, e3⟩ := row_obj HR8.out.1 e2.symm
          rw [e] at e3
          injection e3 with e3
          injection e3 with _ e3
          rcases ht with rfl | rfl <;> cases e3)
        have hO : KeepsOthers W8 w9 := KeepsOthers.of_grownBy hg9 (fun j o e ho => by
          obtain ⟨cur, e'⟩ := row_obj HR8.out.1 e
          rw [e'] at ho
          injection ho with ho
          subst ho
          rfl)
        have i19 := i18.grown hg9 (fun e => by have := hrow _ e.symm; omega)
        have i49 := i48.grown hg9 (fun e => by have := hrow _ e.symm; omega)
        have i59 := i58.grown hg9 (fun e => by have := hrow _ e.symm; omega)
        have i69 := i68.grown hg9 i68.size (fun q hq => by have := hrow q hq; omega)
        have z69 := i69.size
        have hbW9 : Below w.heap.size W w9 := (below_via (hb2.mono i63) b28 (by omega)).grown hg9 (by omega) (fun q hq => by have := hrow q hq; omega)
        have z9 := hg9.size
        obtain ⟨A9, c9, rfl, _⟩ := own_slice hown9
        have HO9 := hide hown9
        have HTY := hide hty
        have HRW := hide hrow
        have q19 := i19.cell 0
        have f19 := i19.frozen 0
        have l19 := i19.lt
        clear hown9 hty hrow q12 f12 l12
        gi_wp2_with fail
        have kA : ∀ (B : Nat) (z : ActV), w1.heap.size ≤ B → OwnA W8 B z → OwnA (w9.setCell ⟨w.heap.size + 1 + 1, 0, none⟩ (.slice A9 (done.length + 1) c9)) B z := fun B z hB h => (h.keep fun q cur t _ ht e => HTY.out q cur t ht e).keep fun q cur t hq _ e => Below.heap_setCell w9 ⟨w.heap.size + 1 + 1, 0, none⟩ _ q (by simp; omega)
        refine ⟨(keepB hb2 _).trans ((keepB b28 _).trans ((hO.from _).trans ((KeepsOthers.setCell _ _ _).from _))), KeepZ.of_below (hbW9.setCell (p := ⟨w.heap.size + 1 + 1, 0, none⟩) (by simp; omega) _) hlt0, _, done ++ [⟨yd, .slice A3 yd.op.data.length c3, .slice A4 n4 c4⟩], i19.set_ 0 _, ⟨?_, ?_⟩, ?_, i49.far (by simp; omega) _, i59.far (by simp) _, i69.setCell (p := ⟨w.heap.size + 1 + 1, 0, none⟩) (by simp; omega) _, by simp [World.setCell]; omega⟩
        · have h2 : (w9.setCell ⟨w.heap.size + 1 + 1, 0, none⟩ (.slice A9 (done.length + 1) c9)).ownsRow w1.heap.size 30 11 (.slice A9 (done.length + 1) c9) (done.length + 1) _ := row_keep HO9.out fun q hq => Below.heap_setCell w9 ⟨w.heap.size + 1 + 1, 0, none⟩ _ q (by have := (World.ownsRow.lt HO9.out q hq).1; simp; omega)
          rw [List.length_append, List.length_singleton, List.flatMap_append, List.flatMap_singleton]
          exact h2
        · intro z hz
          rcases List.mem_append.1 hz with hz | hz
          · exact kA _ z (Nat.le_refl _) (HR8.out.2 z hz)
          · rw [List.mem_singleton] at hz
            subst hz
            exact (kA _ _ (by omega) HOY8.out).low (by omega)
        · have := HNA.out
          simpa using this
  case done =>
    rintro D ys W hD hys ⟨v, done, i1, i2, i3, i4, i5, i6, i7⟩ hK
    rw [hys] at i3
    clear hys
    have HI3 := hide (show readD s.data.toList = some (done.map ActV.d) from i3)
    clear i3
    obtain ⟨A, c, rfl, hnc, _⟩ := own_slice i2.1
    have q1 := i1.cell 0
    have l1 := i1.lt
    have q4 := i4.cell 0
    have f4 := i4.frozen 0
    have l4 := i4.lt
    have q5 := i5.cell 0
    have f5 := i5.frozen 0
    have l5 := i5.lt
    have HK := hide hK
    have HI2 := hide i2
    clear hK i2
    gi_wp2
    generalize hW2 : (W.setCell ⟨w.heap.size, 0, none⟩ (.slice A done.length c)).setCell ⟨w.heap.size + 1, 0, none⟩ (.int .i64 0) = W2
    have k2 : Blk W2 w.heap.size 44 #[.slice A done.length c] := hW2 ▸ (i4.set_ 0 _).far (by simp) _
    have k3 : Blk W2 (w.heap.size + 1) 31 #[.int .i64 0] := hW2 ▸ (i5.far (by simp) _).set_ 0 _
    have hK2 : W2.heap[D]? = some (.deferred (some [])) := hW2 ▸ (Below.heap_setCell _ _ _ D (by simp; omega)).trans ((Below.heap_setCell _ _ _ D (by simp; omega)).trans HK.out)
    have b2 : Below w.heap.size w W2 := hW2 ▸ (i6.setCell (p := ⟨w.heap.size, 0, none⟩) (Nat.le_refl _) _).setCell (p := ⟨w.heap.size + 1, 0, none⟩) (by simp) _
    have r2 : ARow W2 w1.heap.size (.slice A done.length c) done := HI2.out.keep fun q cur t hq _ e => by
      rw [← hW2]
      exact (Below.heap_setCell _ _ _ q (by simp; omega)).trans (Below.heap_setCell _ _ _ q (by simp; omega))
    clear hW2
    have u2 := (k2.obj (o' := .deferred none) hK2 rfl).cell 0
    have u3 := (k3.obj (o' := .deferred none) hK2 rfl).cell 0
    have r3 : ARow (W2.putObj D (.deferred none)) w.heap.size (.slice A done.length c) done := by
      have := r2.keep (W' := W2.putObj D (.deferred none)) fun q cur t _ _ e => World.putObj_heap_other (fun e2 => by subst e2; rw [hK2] at e; cases e)
      exact ⟨row_low' this.1 (by omega), fun y hy => (this.2 y hy).low (by omega)⟩
    refine leave_mark (v := .tuple #[.slice A done.length c, .int .i64 0]) hK2 (by simp [results, Tryd.results19, go_sem, u2, u3]) ⟨b2.grown (grownBy_putObj' _ D _) b2.size (fun k hk => by injection hk with hk; omega), .inr ⟨A, c, done, HI3.out, rfl, r3⟩⟩
  case stop =>
    rintro D c' pre W hD ⟨k, hk, hpre⟩ ⟨rfl, x1, x2, x3, x4, x5⟩ hK
    have HP := hide (show readD s.data.toList = none by
      have := x1 ((linesD s.data.toList).drop k)
      rw [hpre, List.take_append_drop] at this
      exact this)
    clear hpre x1
    have HK := hide hK
    clear hK
    gi_wp2
    have u2 := (x2.obj (o' := .deferred none) HK.out rfl).cell 0
    have u3 := (x3.obj (o' := .deferred none) HK.out rfl).cell 0
    refine leave_mark (v := .tuple #[.slice none 0 0, .int .i64 12]) HK.out (by simp [results, Tryd.results19, go_sem, u2, u3]) ⟨x4.grown (grownBy_putObj' W D _) x4.size (fun k hk => by injection hk with hk; omega), .inl ⟨HP.out, rfl⟩⟩
end Go.Proofs.YtgokkbocboonnaaDoor
