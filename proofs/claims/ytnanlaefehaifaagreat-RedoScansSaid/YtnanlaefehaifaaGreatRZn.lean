/-
  WALK OF THE PROGRAM: redo.Losers.
-/
import Derived.Test.YtnanlaefehaifaaGreatRZm
import Derived.Test.YtnanlaefehaifaaGreatRZo
import Derived.Maps.OwnIn
import Derived.Sort.CutIn
namespace Go.Proofs.YtnanlaefehaifaaGreat
open Go.RowKit Go.Shelf Go.Maps

attribute [local go_sem] Oper.semAt_some

/-- What is known of a transaction, in memory. -/
def trV (t : TrD) : Value := .agg #[.int .i64 t.tx.id, .int .i64 t.tx.first, .int .i64 t.tx.last, .int .i64 t.tx.kept, .bool t.did, .bool t.over]
theorem zero_trail (w : World) : (zeroValue 120).run Tryz.prog w = .ok (trV ⟨⟨0, 0, 0, 0⟩, false, false⟩) w := by kernel_rfl
/-- A store into a block of the caller's own that is no cells. -/
theorem KeepS.grown {Fs : Nat → Prop} {bx N1 r : Nat} {W W' : World} (hg : W.grownBy W' (some r)) (hr : Fs r) (hx : r ≠ bx) (hb : bx < W.heap.size) : KeepS Fs bx N1 W W' :=
  ⟨hg.size, fun q hq hn _ => hg.block q hq (fun e => hn (.inl (by injection e with e; exact e ▸ hr))), fun q hq => .inl (hq.same (hg.block bx hb (fun e => hx (by injection e with e; exact e.symm))))⟩
/-- A world in which a block is known, under a name. -/
theorem genB {w w' : World} {B g : Nat} {t : TypeId} {cs : Array Value} {R : World → Prop} (k : Blk w' g t cs) (hb : Below B w w') (h : ∀ W, Blk W g t cs → Below B w W → R W) : R w' := h w' k hb
/-- What redo.Losers holds between two rounds. -/
def LsI (w w1 : World) (head : Int) (hs : List Hnd) (W : World) : Prop :=
  MapF W w.heap.size hs.length (fun t => (known head (hs.map Hnd.ent) t).map trV) ∧ Blk W (w.heap.size + 1) 117 #[.map (some w.heap.size)] ∧ Blk W (w.heap.size + 1 + 1) 3 #[.int .i64 (headD head (hs.map Hnd.ent))] ∧ Below w.heap.size w W ∧ w1.heap.size ≤ W.heap.size
theorem lsI_own (w w1 : World) (head : Int) (hw : w.heap.size + 2 < w1.heap.size) : OwnFrom w1.heap.size (LsI w w1 head) := by
  rintro hs W W' row ⟨k1, k2, k3, k4, k5⟩ hg hr
  exact ⟨k1.kept (hg.block _ k1.lt (fun e => by have := (hr _ e.symm).1; omega)), k2.grown hg (nc_ne hr k2), k3.grown hg (nc_ne hr k3), k4.grown hg k4.size (fun q hq => by have := (hr q hq).1; omega), Nat.le_trans k5 hg.size⟩
/-- The map that was made, its box, the box of a place, the iterator's box. -/
theorem gen4M {w : World} {c1 c2 c3 : Array Value} {t1 t2 t3 : TypeId} {R : World → Prop} (h : ∀ W, MapF W w.heap.size 0 (fun _ => none) → Blk W (w.heap.size + 1) t1 c1 → Blk W (w.heap.size + 1 + 1) t2 c2 → Blk W (w.heap.size + 1 + 1 + 1) t3 c3 → Below w.heap.size w W → w.heap.size + 4 = W.heap.size → R W) :
    R ((((w.alloc (.map #[] 0)).alloc (.cells c1 t1)).alloc (.cells c2 t2)).alloc (.cells c3 t3)) := by
  refine h _ ?_ ?_ ?_ ?_ ?_ (by simp)
  · exact (MapF.start w).kept (by rw [Below.heap_alloc _ _ _ (by simp; omega), Below.heap_alloc _ _ _ (by simp; omega), Below.heap_alloc _ _ _ (by simp)])
  · exact ((by simpa using Blk.new (w.alloc (.map #[] 0)) t1 c1 : Blk _ (w.heap.size + 1) t1 c1).alloc _).alloc _
  · exact (by simpa using Blk.new ((w.alloc (.map #[] 0)).alloc (.cells c1 t1)) t2 c2 : Blk _ (w.heap.size + 1 + 1) t2 c2).alloc _
  · exact (by simpa using Blk.new (((w.alloc (.map #[] 0)).alloc (.cells c1 t1)).alloc (.cells c2 t2)) t3 c3 : Blk _ (w.heap.size + 1 + 1 + 1) t3 c3)
  · exact ((((Below.refl _ _).alloc (Nat.le_refl _) _).alloc (by simp) _).alloc (by simp; omega) _).alloc (by simp; omega) _
theorem ranges_via {w w' : World} {b r n cnt : Nat} {D : DataW Value} {left : Lit → Bool} (h : w.ranges Tryz.prog 3 heldV b r n D left cnt) (hb : Below w.heap.size w w') : w'.ranges Tryz.prog 3 heldV b r n D left cnt :=
  h.kept (row := none) ⟨hb.os, hb.tape, hb.output, hb.size, fun q hq _ => hb.block q hq⟩ (by simp) (by simp)
/-- The losers that the range over the map has met. -/
structure LsC (head : Int) (L : List EntD) (left : Lit → Bool) (ss : List Int) : Prop where
  nd : ss.Nodup
  mem : ∀ t, t ∈ ss ↔ (isLos head L t = true ∧ left (.int .i64 t) = false)
theorem same_int (t x : Int) : (Lit.int .i64 t).sameKey (.int .i64 x) = decide (t = x) := by
  by_cases h : t = x
  · subst h
    rw [decide_eq_true rfl]
    exact WideAt.sameKey_self (show WideAt.IsKeyLit (.int .i64 t) by simp [WideAt.IsKeyLit])
  · rw [decide_eq_false h]
    exact Maps.sameKey_ne (fun e => h (by injection e))
theorem LsC.start {head : Int} {L : List EntD} {D : DataW Value} (h : ∀ p : Int, Maps.has D (.int .i64 p) = (known head L p).isSome) : LsC head L (Maps.has D) [] := by
  refine ⟨List.nodup_nil, fun t => ⟨fun hm => (by cases hm), fun ⟨h1, h2⟩ => ?_⟩⟩
  rw [h] at h2
  unfold isLos at h1
  cases hk : known head L t with
  | none => rw [hk] at h1; cases h1
  | some tr => rw [hk] at h2; cases h2
theorem LsC.add {head : Int} {L : List EntD} {left : Lit → Bool} {ss : List Int} {x : Int} (h : LsC head L left ss) (hl : left (.int .i64 x) = true) (hx : isLos head L x = true) : LsC head L (fun z => left z && !z.sameKey (.int .i64 x)) (ss ++ [x]) := by
  have hn : x ∉ ss := fun hm => by have := ((h.mem x).1 hm).2; rw [hl] at this; cases this
  refine ⟨List.nodup_append.2 ⟨h.nd, by simp, fun a ha b hb e => hn (by rw [List.mem_singleton] at hb; subst hb; subst e; exact ha)⟩, fun t => ?_⟩
  rw [List.mem_append, List.mem_singleton, h.mem t, same_int]
  by_cases ht : t = x
  · subst ht; simp [hx]
  · simp [ht]
theorem LsC.skip {head : Int} {L : List EntD} {left : Lit → Bool} {ss : List Int} {x : Int} (h : LsC head L left ss) (hx : isLos head L x = false) : LsC head L (fun z => left z && !z.sameKey (.int .i64 x)) ss := by
  refine ⟨h.nd, fun t => ?_⟩
  rw [h.mem t, same_int]
  by_cases ht : t = x
  · subst ht; simp [hx]
  · simp [ht]
theorem info_txn : (Tryz.prog.info? 53).map (fun i => (i.zero, i.size, i.bytes)) = some (some (.agg #[.int .i64 0, .int .i64 0, .int .i64 0, .int .i64 0]), 4, 32) := by kernel_rfl
/-- The rows behind redo.Losers. -/
def LosP (w : World) (head : Int) (L : List EntD) (e : Ending) (w' : World) : Prop :=
  ∃ (A2 : Option Addr) (c2 : Nat) (ts : List Int), ts.Pairwise (· < ·) ∧ (∀ t, t ∈ ts ↔ isLos head L t = true) ∧ e = .returned (.slice A2 ts.length c2) ∧ w'.ownsRow w.heap.size 53 4 (.slice A2 ts.length c2) ts.length ((ts.map (losT head L)).flatMap txC) ∧ Below w.heap.size w w'
/-- The frame of a round. -/
def lsA (lp : Option Addr) (N Bx : Nat) (head p : Int) (xv : Value) : Act := { tmps := #[.pointer lp, undef, .slice none 0 0, .pointer (some ⟨N + 1, 0, none⟩), .pointer (some ⟨N + 1 + 1, 0, none⟩), .int .i64 p, .pointer (some ⟨Bx, 0, none⟩), undef, undef, undef, undef, undef, .map (some N), .pointer lp, .int .i64 head, .pointer lp, .func (.func 123) #[] #[.pointer (some ⟨N + 1 + 1 + 1, 0, none⟩)], .int .i64 p, xv, undef, undef, undef, undef, undef, undef, undef, undef, undef, undef, undef, undef, undef, undef, undef, undef, undef, undef, undef, undef, undef, undef, undef, undef, undef, undef, undef, undef, undef, undef, undef, undef, undef, undef, undef, undef, undef, undef, undef, undef, undef, undef, undef, undef, undef, undef, undef, undef, undef, undef, undef, undef, undef], defers := [] }
set_option maxRecDepth 100000 in
set_option maxHeartbeats 8000000 in
theorem wLosers_gen (lp : Option Addr) (head : Int) (es : List EntD) (w : World) (hlen : es.length ≤ 1000) (hk4 : ∀ e ∈ es, 1 ≤ e.kind ∧ e.kind ≤ 4)
    (hDD : ∀ W, Below w.heap.size w W → Calls Tryz.prog 51 #[.pointer lp] W fun e w' => e = .returned (.int .i64 head) ∧ w' = W)
    (hSq : ∀ w1, Below w.heap.size w w1 → (∀ q, OwnS (fun q => q = w.heap.size ∨ q = w.heap.size + 1 + 1) (w.heap.size + 1) w1 q → q = w.heap.size ∨ q = w.heap.size + 1 + 1) → Blk w1 (w.heap.size + 1 + 1 + 1) 24 #[.pointer lp] → w.heap.size + 4 = w1.heap.size →
      SeqStopsK Fence.wide 8 Tryz.prog 123 #[.pointer (some ⟨w.heap.size + 1 + 1 + 1, 0, none⟩)] hndArg (KeepS (fun q => q = w.heap.size ∨ q = w.heap.size + 1 + 1) (w.heap.size + 1) w1.heap.size) (fun hs => hs.map Hnd.ent = es) (fun hs => ∃ k, k ≤ es.length ∧ hs.map Hnd.ent = es.take k) es.length w1) :
    Calls Tryz.prog 13 #[.pointer lp] w (LosP w head es) := by
  have HD := hide hDD
  clear hDD
  refine (callsIn_wide (n := 9)).1 ?_
  refine callsIn_of_wp_marks Tryz.func13 rfl trivial ?_ rfl
  simp only [Tryz.ntmps13, List.size_toArray, List.length_cons, List.length_nil, Nat.reduceAdd, Nat.reduceSub, Array.replicate_succ, Array.replicate_zero, List.push_toArray, List.append_toArray, List.nil_append, List.cons_append]
  have hmm := @run_makeMap Tryz.prog
  gi_wp2_with (refine ⟨trivial, ?_⟩; first
    | (gi_at_call 51; refine (callsIn_wide.2 (HD.out _ (((Below.refl _ _).alloc (Nat.le_refl _) _).alloc (by simp) _))).mono ?_; rintro e w' ⟨rfl, rfl⟩)
    | (gi_at_call 54; refine (wAll_in Fence.wide _ trivial rfl _ ⟨_, rfl⟩ _).mono ?_; rintro e w' ⟨rfl, rfl⟩))
  refine gen4M (fun w1 kM kX kB kb hb1 hz1 => ?_)
  have HB1 := hide hb1
  have hown1 : ∀ q, OwnS (fun q => q = w.heap.size ∨ q = w.heap.size + 1 + 1) (w.heap.size + 1) w1 q → q = w.heap.size ∨ q = w.heap.size + 1 + 1 := by
    rintro q (h | ⟨v, t, fr, h1, h2⟩)
    · exact h
    · rw [show w1.heap[w.heap.size + 1]? = _ from kX] at h1
      injection h1 with h1
      injection h1 with h1 _ _
      injection h1 with h1
      injection h1 with h1
      subst h1
      cases h2
  have hSeq := hSq w1 hb1 hown1 kb hz1
  refine wpIn_rangeFunc_ownH (α := Hnd) rfl (by omega) (gf := 123) (lb := #[.pointer (some ⟨w.heap.size + 1 + 1 + 1, 0, none⟩)]) rfl trivial (enters_of Tryz.func123 (by kernel_rfl) rfl) hSeq
    (fun h1 h2 => h1.trans h2) ?kb (Below.refl _ _) (fun _ => rfl)
    (LsI w w1 head) (fun _ _ _ => False) (lsI_own w w1 head (by omega)) (fun _ _ _ _ _ hs _ _ => hs) ?start
    (fun hd a' W => ∃ Bx, w1.heap.size ≤ Bx ∧ Blk W Bx 41 hd.x.cells.toArray ∧ a' = lsA lp w.heap.size Bx head hd.place (recV hd.x)) ?ax ?assign ?body ?done ?stop
  case kb =>
    intro W l' o o' hl ho hc hw'
    exact KeepS.putObj (w := w1) (Nat.le_refl _) (by omega) W l' o o' hl ho hc hw'
  case start => exact ⟨kM, kX, kB, hb1, Nat.le_refl _⟩
  case ax =>
    rintro hd a' s W W' row ⟨Bx, h1, h2, h3⟩ hg hr
    exact ⟨Bx, h1, h2.grown hg (nc_ne hr h2), h3⟩
  case assign =>
    rintro l' pre hd W K hI hK
    obtain ⟨i1, i2, i3, i4, i5⟩ := hI
    have HI1 := hide i1
    clear i1
    have HK := hide hK
    clear hK
    obtain ⟨pr, nx, A1, n1, c1, z1, s2, z3, s4, d1, A2, n2, c2, d3, d4, d5, u7, hf1, hf2⟩ := hd.form
    have hlt := i2.lt
    have HF := hide (And.intro hf1 hf2)
    rw [show hndArg hd = #[.int .i64 hd.place, recV hd.x] from rfl, hf1]
    clear hf1 hf2
    gi_wp2
    exact HK.out _ _ ((KeepsOthers.alloc _ _).from _) (KeepS.of_below ((Below.refl _ W).alloc (Nat.le_refl _) _) hlt) ⟨HI1.out.kept (Below.heap_alloc _ _ _ HI1.out.lt), i2.alloc _, i3.alloc _, i4.alloc i4.size _, by simp; omega⟩ ⟨W.heap.size, i5, by rw [HF.out.2]; exact Blk.new W _ _, by rw [HF.out.1]; rfl⟩
  case body =>
    rintro l' pre hd a' W hl ⟨r, hr⟩ ⟨i1, i2, i3, i4, i5⟩ ⟨Bx, hBx, kx, rfl⟩ hpl
    have hlx := kx.lt
    have b0 : W.cell? ⟨Bx, 0, none⟩ = some (.int .i64 hd.x.kind) := kx.cell 0
    have b1 : W.cell? ⟨Bx, 1, none⟩ = some (.int .i64 hd.x.txn) := kx.cell 1
    have q1 := i2.cell 0
    have q2 := i3.cell 0
    have hml := i1.lt
    unfold lsA
    generalize recV hd.x = xv
    have HI1 := hide i1
    have HKX := hide kx
    cases hk : known head (pre.map Hnd.ent) hd.x.txn with
    | none =>
      have hlk := i1.lookNone hd.p2 (show (fun t => (known head (pre.map Hnd.ent) t).map trV) hd.x.txn = none by simp [hk]) Tryz.underlying117 zero_trail
      clear i1 kx
      unfold trV at hlk
      dsimp only at hlk
      have HPX := hide hd.p2
      generalize htx : hd.x.txn = tx at *
      generalize hkd : hd.x.kind = kd at *
      have HE := hide (show hd.ent = ⟨hd.place, kd, tx⟩ by rw [← hkd, ← htx]; rfl)
      have HET := hide (show hd.ent.txn = tx from htx)
      have HTX := hide htx
      have HK := hide hk
      clear hk
      gi_upto_region 7 with (fail)
      refine gen1 (R := fun W => Code.wpIn _ _ _ _ _ _ W) (fun W1 k7 hbW hzW => ?_)
      have hx1 := Blk.via hbW HKX.out
      have p1 : W1.cell? ⟨Bx, 1, none⟩ = some (.int .i64 tx) := (hx1.cell 1).trans (by rw [← htx]; rfl)
      clear htx
      have j3 := Blk.via hbW i3
      have p2 := j3.cell 0
      have l7 := k7.lt
      have e70 := k7.cell 0
      have e71 := k7.cell 1
      have e72 := k7.cell 2
      have e73 := k7.cell 3
      have f70 := k7.frozen 0
      have f71 := k7.frozen 1
      have f72 := k7.frozen 2
      have f73 := k7.frozen 3
      gi_upto_region 10 with (fail)
      refine genB (R := fun W => Code.wpIn _ _ _ _ _ _ W) (w := W) (B := W.heap.size) (g := W.heap.size) (t := 120) (cs := #[.int .i64 tx, .int .i64 (headD head (pre.map Hnd.ent)), .int .i64 hd.place, .int .i64 0, .bool false, .bool false]) (((((k7.set_ 0 _).set_ 1 _).set_ 2 _).set_ 3 _).set_ 2 _) (((((hbW.setCell (p := ⟨W.heap.size, 0, none⟩) (Nat.le_refl _) _).setCell (p := ⟨W.heap.size, 1, none⟩) (Nat.le_refl _) _).setCell (p := ⟨W.heap.size, 2, none⟩) (Nat.le_refl _) _).setCell (p := ⟨W.heap.size, 3, none⟩) (Nat.le_refl _) _).setCell (p := ⟨W.heap.size, 2, none⟩) (Nat.le_refl _) _) (fun W2 k2 hb2 => ?_)
      clear e70 e71 e72 e73 f70 f71 f72 f73 l7 p1 p2 j3 hx1 hbW hzW k7 hlk b0 b1 q1 q2
      have K2 := hide k2
      have HB2 := hide hb2
      have c2 : W2.cell? ⟨Bx, 0, none⟩ = some (.int .i64 kd) := ((Blk.via hb2 HKX.out).cell 0).trans (by rw [← hkd]; rfl)
      have l2 := k2.lt
      have f24 := k2.frozen 4
      have f25 := k2.frozen 5
      have e24 := k2.cell 4
      have e25 := k2.cell 5
      clear k2 hb2
      have hkk : kd = 1 ∨ kd = 2 ∨ kd = 3 ∨ kd = 4 ∨ ((kd == 1) = false ∧ (kd == 2) = false ∧ (kd == 3) = false ∧ (kd == 4) = false) := by
        simp only [beq_eq_false_iff_ne]; omega
      rcases hkk with rfl | rfl | rfl | rfl | ⟨n1, n2, n3, n4⟩
      · gi_upto_region 17 with (fail)
        refine genS (R := fun W => Code.wpIn _ _ _ _ _ _ W) K2.out (fun W3 k3 hbS hzS hoS => ?_)
        have hb3 : Below W.heap.size W W3 := HB2.out.trans (hbS _ (Nat.le_refl _))
        clear hbS hzS hoS c2 l2 f24 f25 e24 e25
        have HT := hide (show tr1 (headD head (pre.map Hnd.ent)) (known head (pre.map Hnd.ent) tx) hd.ent = (⟨⟨tx, (headD head (pre.map Hnd.ent)), hd.place, 0⟩, true, false⟩ : TrD) by rw [HK.out, HE.out]; simp_all [tr1, tx1, did1, over1])
        clear hkd
        have g3 := Blk.via hb3 HKX.out
        have b1 : W3.cell? ⟨Bx, 1, none⟩ = some (.int .i64 tx) := (g3.cell 1).trans (by rw [← HTX.out]; rfl)
        have j2 := Blk.via hb3 i2
        have j3 := Blk.via hb3 i3
        have q1 := j2.cell 0
        have q2 := j3.cell 0
        have l3 := j3.lt
        have f3 := j3.frozen 0
        have t0 := k3.cell 0
        have t1 := k3.cell 1
        have t2 := k3.cell 2
        have t3 := k3.cell 3
        have t4 := k3.cell 4
        have t5 := k3.cell 5
        have G3 := hide g3
        have J3 := hide j3
        have hK3 := hide k3
        clear g3 j3 j2 k3
        gi_wp2_with (gi_at_mapUpdate; refine heldG ?_)
        refine unheldG ?_
        gi_at_mapUpdate
        obtain ⟨DD, hown, hDD⟩ := HI1.out.kept (hb3.block _ HI1.out.lt)
        have hcl : pre.length < maxLen := by unfold maxLen; omega
        refine wpListIn_mapUpdate_own _ rfl _ _ _ 117 rfl 3 120 keyInt Tryz.underlying117 heldV w.heap.size pre.length DD rfl hown hcl _ _ _ rfl rfl (key_of HPX.out) _ [] rfl ?_
        intro W4 hown4 hg4
        have HM4 : Hid (MapF W4 w.heap.size (pre.length + 1) (fun q => if q = tx then some (trV (⟨⟨tx, (headD head (pre.map Hnd.ent)), hd.place, 0⟩, true, false⟩ : TrD)) else (fun t => (known head (pre.map Hnd.ent) t).map trV) q)) := hide (MapF.put hDD hown.isMap hown4)
        have hne : (w.heap.size + 1 + 1) ≠ w.heap.size := by omega
        have j34 := J3.out.grown hg4 (fun e => hne (by injection e))
        have HG4 := hide hg4
        have q3 := j34.cell 0
        have l4 := j34.lt
        have f4 := j34.frozen 0
        have J34 := hide j34
        clear hown hDD hown4 hg4 q1 q2 l3 f3 t0 t1 t2 t3 t4 t5 b1 j34
        gi_wp2_with fail
        refine ⟨(keepB hb3 _).trans ((KeepsFrom.of_grownBy HG4.out (fun j e => by injection e; omega)).trans ((KeepsOthers.setCell _ _ _).from _)), (KeepS.of_below hb3 i2.lt).trans ((KeepS.grown HG4.out (.inl rfl) (by omega) (Blk.via hb3 i2).lt).trans (KeepS.set (p := ⟨w.heap.size + 1 + 1, 0, none⟩) (.inl (.inr rfl)) (by simp) _)), ?_, ?_, ?_, ?_, ?_⟩
        · rw [show (fun t => (known head ((pre ++ [hd]).map Hnd.ent) t).map trV) = (fun q => if q = tx then some (trV (⟨⟨tx, (headD head (pre.map Hnd.ent)), hd.place, 0⟩, true, false⟩ : TrD)) else (fun t => (known head (pre.map Hnd.ent) t).map trV) q) from ?_, List.length_append, List.length_singleton]
          · exact HM4.out.kept (Below.heap_setCell _ _ _ _ (by simp; omega))
          · funext q
            rw [List.map_append, List.map_singleton, known_snoc, HET.out]
            dsimp only
            by_cases hq : q = tx
            · rw [if_pos hq, if_pos hq, hq, HT.out]; rfl
            · rw [if_neg hq, if_neg hq]
        · exact ((Blk.via hb3 i2).grown HG4.out (by simp)).far (by simp) _
        · rw [List.map_append, List.map_singleton, headD_snoc]
          exact J34.out.set_ 0 _
        · exact ((i4.trans (hb3.mono i4.size)).grown HG4.out (by have := hb3.size; have := i4.size; omega) (fun q hq => by injection hq; omega)).setCell (p := ⟨w.heap.size + 1 + 1, 0, none⟩) (by simp; omega) _
        · have := HG4.out.size; have := hb3.size; simp [World.setCell]; omega
      · gi_upto_region 17 with (fail)
        refine genS (R := fun W => Code.wpIn _ _ _ _ _ _ W) K2.out (fun W3 k3 hbS hzS hoS => ?_)
        have hb3 : Below W.heap.size W W3 := HB2.out.trans (hbS _ (Nat.le_refl _))
        clear hbS hzS hoS c2 l2 f24 f25 e24 e25
        have HT := hide (show tr1 (headD head (pre.map Hnd.ent)) (known head (pre.map Hnd.ent) tx) hd.ent = (⟨⟨tx, (headD head (pre.map Hnd.ent)), hd.place, 0⟩, true, false⟩ : TrD) by rw [HK.out, HE.out]; simp_all [tr1, tx1, did1, over1])
        clear hkd
        have g3 := Blk.via hb3 HKX.out
        have b1 : W3.cell? ⟨Bx, 1, none⟩ = some (.int .i64 tx) := (g3.cell 1).trans (by rw [← HTX.out]; rfl)
        have j2 := Blk.via hb3 i2
        have j3 := Blk.via hb3 i3
        have q1 := j2.cell 0
        have q2 := j3.cell 0
        have l3 := j3.lt
        have f3 := j3.frozen 0
        have t0 := k3.cell 0
        have t1 := k3.cell 1
        have t2 := k3.cell 2
        have t3 := k3.cell 3
        have t4 := k3.cell 4
        have t5 := k3.cell 5
        have G3 := hide g3
        have J3 := hide j3
        have hK3 := hide k3
        clear g3 j3 j2 k3
        gi_wp2_with (gi_at_mapUpdate; refine heldG ?_)
        refine unheldG ?_
        gi_at_mapUpdate
        obtain ⟨DD, hown, hDD⟩ := HI1.out.kept (hb3.block _ HI1.out.lt)
        have hcl : pre.length < maxLen := by unfold maxLen; omega
        refine wpListIn_mapUpdate_own _ rfl _ _ _ 117 rfl 3 120 keyInt Tryz.underlying117 heldV w.heap.size pre.length DD rfl hown hcl _ _ _ rfl rfl (key_of HPX.out) _ [] rfl ?_
        intro W4 hown4 hg4
        have HM4 : Hid (MapF W4 w.heap.size (pre.length + 1) (fun q => if q = tx then some (trV (⟨⟨tx, (headD head (pre.map Hnd.ent)), hd.place, 0⟩, true, false⟩ : TrD)) else (fun t => (known head (pre.map Hnd.ent) t).map trV) q)) := hide (MapF.put hDD hown.isMap hown4)
        have hne : (w.heap.size + 1 + 1) ≠ w.heap.size := by omega
        have j34 := J3.out.grown hg4 (fun e => hne (by injection e))
        have HG4 := hide hg4
        have q3 := j34.cell 0
        have l4 := j34.lt
        have f4 := j34.frozen 0
        have J34 := hide j34
        clear hown hDD hown4 hg4 q1 q2 l3 f3 t0 t1 t2 t3 t4 t5 b1 j34
        gi_wp2_with fail
        refine ⟨(keepB hb3 _).trans ((KeepsFrom.of_grownBy HG4.out (fun j e => by injection e; omega)).trans ((KeepsOthers.setCell _ _ _).from _)), (KeepS.of_below hb3 i2.lt).trans ((KeepS.grown HG4.out (.inl rfl) (by omega) (Blk.via hb3 i2).lt).trans (KeepS.set (p := ⟨w.heap.size + 1 + 1, 0, none⟩) (.inl (.inr rfl)) (by simp) _)), ?_, ?_, ?_, ?_, ?_⟩
        · rw [show (fun t => (known head ((pre ++ [hd]).map Hnd.ent) t).map trV) = (fun q => if q = tx then some (trV (⟨⟨tx, (headD head (pre.map Hnd.ent)), hd.place, 0⟩, true, false⟩ : TrD)) else (fun t => (known head (pre.map Hnd.ent) t).map trV) q) from ?_, List.length_append, List.length_singleton]
          · exact HM4.out.kept (Below.heap_setCell _ _ _ _ (by simp; omega))
          · funext q
            rw [List.map_append, List.map_singleton, known_snoc, HET.out]
            dsimp only
            by_cases hq : q = tx
            · rw [if_pos hq, if_pos hq, hq, HT.out]; rfl
            · rw [if_neg hq, if_neg hq]
        · exact ((Blk.via hb3 i2).grown HG4.out (by simp)).far (by simp) _
        · rw [List.map_append, List.map_singleton, headD_snoc]
          exact J34.out.set_ 0 _
        · exact ((i4.trans (hb3.mono i4.size)).grown HG4.out (by have := hb3.size; have := i4.size; omega) (fun q hq => by injection hq; omega)).setCell (p := ⟨w.heap.size + 1 + 1, 0, none⟩) (by simp; omega) _
        · have := HG4.out.size; have := hb3.size; simp [World.setCell]; omega
      · gi_upto_region 17 with (fail)
        refine genS (R := fun W => Code.wpIn _ _ _ _ _ _ W) K2.out (fun W3 k3 hbS hzS hoS => ?_)
        have hb3 : Below W.heap.size W W3 := HB2.out.trans (hbS _ (Nat.le_refl _))
        clear hbS hzS hoS c2 l2 f24 f25 e24 e25
        have HT := hide (show tr1 (headD head (pre.map Hnd.ent)) (known head (pre.map Hnd.ent) tx) hd.ent = (⟨⟨tx, (headD head (pre.map Hnd.ent)), hd.place, 0⟩, false, true⟩ : TrD) by rw [HK.out, HE.out]; simp_all [tr1, tx1, did1, over1])
        clear hkd
        have g3 := Blk.via hb3 HKX.out
        have b1 : W3.cell? ⟨Bx, 1, none⟩ = some (.int .i64 tx) := (g3.cell 1).trans (by rw [← HTX.out]; rfl)
        have j2 := Blk.via hb3 i2
        have j3 := Blk.via hb3 i3
        have q1 := j2.cell 0
        have q2 := j3.cell 0
        have l3 := j3.lt
        have f3 := j3.frozen 0
        have t0 := k3.cell 0
        have t1 := k3.cell 1
        have t2 := k3.cell 2
        have t3 := k3.cell 3
        have t4 := k3.cell 4
        have t5 := k3.cell 5
        have G3 := hide g3
        have J3 := hide j3
        have hK3 := hide k3
        clear g3 j3 j2 k3
        gi_wp2_with (gi_at_mapUpdate; refine heldG ?_)
        refine unheldG ?_
        gi_at_mapUpdate
        obtain ⟨DD, hown, hDD⟩ := HI1.out.kept (hb3.block _ HI1.out.lt)
        have hcl : pre.length < maxLen := by unfold maxLen; omega
        refine wpListIn_mapUpdate_own _ rfl _ _ _ 117 rfl 3 120 keyInt Tryz.underlying117 heldV w.heap.size pre.length DD rfl hown hcl _ _ _ rfl rfl (key_of HPX.out) _ [] rfl ?_
        intro W4 hown4 hg4
        have HM4 : Hid (MapF W4 w.heap.size (pre.length + 1) (fun q => if q = tx then some (trV (⟨⟨tx, (headD head (pre.map Hnd.ent)), hd.place, 0⟩, false, true⟩ : TrD)) else (fun t => (known head (pre.map Hnd.ent) t).map trV) q)) := hide (MapF.put hDD hown.isMap hown4)
        have hne : (w.heap.size + 1 + 1) ≠ w.heap.size := by omega
        have j34 := J3.out.grown hg4 (fun e => hne (by injection e))
        have HG4 := hide hg4
        have q3 := j34.cell 0
        have l4 := j34.lt
        have f4 := j34.frozen 0
        have J34 := hide j34
        clear hown hDD hown4 hg4 q1 q2 l3 f3 t0 t1 t2 t3 t4 t5 b1 j34
        gi_wp2_with fail
        refine ⟨(keepB hb3 _).trans ((KeepsFrom.of_grownBy HG4.out (fun j e => by injection e; omega)).trans ((KeepsOthers.setCell _ _ _).from _)), (KeepS.of_below hb3 i2.lt).trans ((KeepS.grown HG4.out (.inl rfl) (by omega) (Blk.via hb3 i2).lt).trans (KeepS.set (p := ⟨w.heap.size + 1 + 1, 0, none⟩) (.inl (.inr rfl)) (by simp) _)), ?_, ?_, ?_, ?_, ?_⟩
        · rw [show (fun t => (known head ((pre ++ [hd]).map Hnd.ent) t).map trV) = (fun q => if q = tx then some (trV (⟨⟨tx, (headD head (pre.map Hnd.ent)), hd.place, 0⟩, false, true⟩ : TrD)) else (fun t => (known head (pre.map Hnd.ent) t).map trV) q) from ?_, List.length_append, List.length_singleton]
          · exact HM4.out.kept (Below.heap_setCell _ _ _ _ (by simp; omega))
          · funext q
            rw [List.map_append, List.map_singleton, known_snoc, HET.out]
            dsimp only
            by_cases hq : q = tx
            · rw [if_pos hq, if_pos hq, hq, HT.out]; rfl
            · rw [if_neg hq, if_neg hq]
        · exact ((Blk.via hb3 i2).grown HG4.out (by simp)).far (by simp) _
        · rw [List.map_append, List.map_singleton, headD_snoc]
          exact J34.out.set_ 0 _
        · exact ((i4.trans (hb3.mono i4.size)).grown HG4.out (by have := hb3.size; have := i4.size; omega) (fun q hq => by injection hq; omega)).setCell (p := ⟨w.heap.size + 1 + 1, 0, none⟩) (by simp; omega) _
        · have := HG4.out.size; have := hb3.size; simp [World.setCell]; omega
      · gi_upto_region 17 with (fail)
        refine genS (R := fun W => Code.wpIn _ _ _ _ _ _ W) K2.out (fun W3 k3 hbS hzS hoS => ?_)
        have hb3 : Below W.heap.size W W3 := HB2.out.trans (hbS _ (Nat.le_refl _))
        clear hbS hzS hoS c2 l2 f24 f25 e24 e25
        have HT := hide (show tr1 (headD head (pre.map Hnd.ent)) (known head (pre.map Hnd.ent) tx) hd.ent = (⟨⟨tx, (headD head (pre.map Hnd.ent)), hd.place, 0⟩, false, true⟩ : TrD) by rw [HK.out, HE.out]; simp_all [tr1, tx1, did1, over1])
        clear hkd
        have g3 := Blk.via hb3 HKX.out
        have b1 : W3.cell? ⟨Bx, 1, none⟩ = some (.int .i64 tx) := (g3.cell 1).trans (by rw [← HTX.out]; rfl)
        have j2 := Blk.via hb3 i2
        have j3 := Blk.via hb3 i3
        have q1 := j2.cell 0
        have q2 := j3.cell 0
        have l3 := j3.lt
        have f3 := j3.frozen 0
        have t0 := k3.cell 0
        have t1 := k3.cell 1
        have t2 := k3.cell 2
        have t3 := k3.cell 3
        have t4 := k3.cell 4
        have t5 := k3.cell 5
        have G3 := hide g3
        have J3 := hide j3
        have hK3 := hide k3
        clear g3 j3 j2 k3
        gi_wp2_with (gi_at_mapUpdate; refine heldG ?_)
        refine unheldG ?_
        gi_at_mapUpdate
        obtain ⟨DD, hown, hDD⟩ := HI1.out.kept (hb3.block _ HI1.out.lt)
        have hcl : pre.length < maxLen := by unfold maxLen; omega
        refine wpListIn_mapUpdate_own _ rfl _ _ _ 117 rfl 3 120 keyInt Tryz.underlying117 heldV w.heap.size pre.length DD rfl hown hcl _ _ _ rfl rfl (key_of HPX.out) _ [] rfl ?_
        intro W4 hown4 hg4
        have HM4 : Hid (MapF W4 w.heap.size (pre.length + 1) (fun q => if q = tx then some (trV (⟨⟨tx, (headD head (pre.map Hnd.ent)), hd.place, 0⟩, false, true⟩ : TrD)) else (fun t => (known head (pre.map Hnd.ent) t).map trV) q)) := hide (MapF.put hDD hown.isMap hown4)
        have hne : (w.heap.size + 1 + 1) ≠ w.heap.size := by omega
        have j34 := J3.out.grown hg4 (fun e => hne (by injection e))
        have HG4 := hide hg4
        have q3 := j34.cell 0
        have l4 := j34.lt
        have f4 := j34.frozen 0
        have J34 := hide j34
        clear hown hDD hown4 hg4 q1 q2 l3 f3 t0 t1 t2 t3 t4 t5 b1 j34
        gi_wp2_with fail
        refine ⟨(keepB hb3 _).trans ((KeepsFrom.of_grownBy HG4.out (fun j e => by injection e; omega)).trans ((KeepsOthers.setCell _ _ _).from _)), (KeepS.of_below hb3 i2.lt).trans ((KeepS.grown HG4.out (.inl rfl) (by omega) (Blk.via hb3 i2).lt).trans (KeepS.set (p := ⟨w.heap.size + 1 + 1, 0, none⟩) (.inl (.inr rfl)) (by simp) _)), ?_, ?_, ?_, ?_, ?_⟩
        · rw [show (fun t => (known head ((pre ++ [hd]).map Hnd.ent) t).map trV) = (fun q => if q = tx then some (trV (⟨⟨tx, (headD head (pre.map Hnd.ent)), hd.place, 0⟩, false, true⟩ : TrD)) else (fun t => (known head (pre.map Hnd.ent) t).map trV) q) from ?_, List.length_append, List.length_singleton]
          · exact HM4.out.kept (Below.heap_setCell _ _ _ _ (by simp; omega))
          · funext q
            rw [List.map_append, List.map_singleton, known_snoc, HET.out]
            dsimp only
            by_cases hq : q = tx
            · rw [if_pos hq, if_pos hq, hq, HT.out]; rfl
            · rw [if_neg hq, if_neg hq]
        · exact ((Blk.via hb3 i2).grown HG4.out (by simp)).far (by simp) _
        · rw [List.map_append, List.map_singleton, headD_snoc]
          exact J34.out.set_ 0 _
        · exact ((i4.trans (hb3.mono i4.size)).grown HG4.out (by have := hb3.size; have := i4.size; omega) (fun q hq => by injection hq; omega)).setCell (p := ⟨w.heap.size + 1 + 1, 0, none⟩) (by simp; omega) _
        · have := HG4.out.size; have := hb3.size; simp [World.setCell]; omega
      · gi_upto_region 17 with (fail)
        have hb3 := HB2.out
        have k3 := K2.out
        clear c2 l2 f24 f25 e24 e25
        have HN := hide (And.intro n1 (And.intro n2 (And.intro n3 n4)))
        clear n1 n2 n3 n4
        obtain ⟨W3, hW3⟩ : ∃ W3, W2 = W3 := ⟨_, rfl⟩
        subst hW3
        have HT := hide (show tr1 (headD head (pre.map Hnd.ent)) (known head (pre.map Hnd.ent) tx) hd.ent = (⟨⟨tx, (headD head (pre.map Hnd.ent)), hd.place, 0⟩, false, false⟩ : TrD) by rw [HK.out, HE.out]; obtain ⟨n1, n2, n3, n4⟩ := HN.out; rw [beq_eq_false_iff_ne] at n1 n2 n3 n4; simp_all [tr1, tx1, did1, over1])
        clear hkd
        have g3 := Blk.via hb3 HKX.out
        have b1 : W2.cell? ⟨Bx, 1, none⟩ = some (.int .i64 tx) := (g3.cell 1).trans (by rw [← HTX.out]; rfl)
        have j2 := Blk.via hb3 i2
        have j3 := Blk.via hb3 i3
        have q1 := j2.cell 0
        have q2 := j3.cell 0
        have l3 := j3.lt
        have f3 := j3.frozen 0
        have t0 := k3.cell 0
        have t1 := k3.cell 1
        have t2 := k3.cell 2
        have t3 := k3.cell 3
        have t4 := k3.cell 4
        have t5 := k3.cell 5
        have G3 := hide g3
        have J3 := hide j3
        have hK3 := hide k3
        clear g3 j3 j2 k3
        gi_wp2_with (gi_at_mapUpdate; refine heldG ?_)
        refine unheldG ?_
        gi_at_mapUpdate
        obtain ⟨DD, hown, hDD⟩ := HI1.out.kept (hb3.block _ HI1.out.lt)
        have hcl : pre.length < maxLen := by unfold maxLen; omega
        refine wpListIn_mapUpdate_own _ rfl _ _ _ 117 rfl 3 120 keyInt Tryz.underlying117 heldV w.heap.size pre.length DD rfl hown hcl _ _ _ rfl rfl (key_of HPX.out) _ [] rfl ?_
        intro W4 hown4 hg4
        have HM4 : Hid (MapF W4 w.heap.size (pre.length + 1) (fun q => if q = tx then some (trV (⟨⟨tx, (headD head (pre.map Hnd.ent)), hd.place, 0⟩, false, false⟩ : TrD)) else (fun t => (known head (pre.map Hnd.ent) t).map trV) q)) := hide (MapF.put hDD hown.isMap hown4)
        have hne : (w.heap.size + 1 + 1) ≠ w.heap.size := by omega
        have j34 := J3.out.grown hg4 (fun e => hne (by injection e))
        have HG4 := hide hg4
        have q3 := j34.cell 0
        have l4 := j34.lt
        have f4 := j34.frozen 0
        have J34 := hide j34
        clear hown hDD hown4 hg4 q1 q2 l3 f3 t0 t1 t2 t3 t4 t5 b1 j34
        gi_wp2_with fail
        refine ⟨(keepB hb3 _).trans ((KeepsFrom.of_grownBy HG4.out (fun j e => by injection e; omega)).trans ((KeepsOthers.setCell _ _ _).from _)), (KeepS.of_below hb3 i2.lt).trans ((KeepS.grown HG4.out (.inl rfl) (by omega) (Blk.via hb3 i2).lt).trans (KeepS.set (p := ⟨w.heap.size + 1 + 1, 0, none⟩) (.inl (.inr rfl)) (by simp) _)), ?_, ?_, ?_, ?_, ?_⟩
        · rw [show (fun t => (known head ((pre ++ [hd]).map Hnd.ent) t).map trV) = (fun q => if q = tx then some (trV (⟨⟨tx, (headD head (pre.map Hnd.ent)), hd.place, 0⟩, false, false⟩ : TrD)) else (fun t => (known head (pre.map Hnd.ent) t).map trV) q) from ?_, List.length_append, List.length_singleton]
          · exact HM4.out.kept (Below.heap_setCell _ _ _ _ (by simp; omega))
          · funext q
            rw [List.map_append, List.map_singleton, known_snoc, HET.out]
            dsimp only
            by_cases hq : q = tx
            · rw [if_pos hq, if_pos hq, hq, HT.out]; rfl
            · rw [if_neg hq, if_neg hq]
        · exact ((Blk.via hb3 i2).grown HG4.out (by simp)).far (by simp) _
        · rw [List.map_append, List.map_singleton, headD_snoc]
          exact J34.out.set_ 0 _
        · exact ((i4.trans (hb3.mono i4.size)).grown HG4.out (by have := hb3.size; have := i4.size; omega) (fun q hq => by injection hq; omega)).setCell (p := ⟨w.heap.size + 1 + 1, 0, none⟩) (by simp; omega) _
        · have := HG4.out.size; have := hb3.size; simp [World.setCell]; omega
    | some tr =>
      obtain ⟨⟨id, fi, la, ke⟩, dd, oo⟩ := tr
      have hlk := i1.look hd.p2 (show (fun t => (known head (pre.map Hnd.ent) t).map trV) hd.x.txn = some _ by simp only [hk]; rfl) Tryz.underlying117 zero_trail
      clear i1 kx
      unfold trV at hlk
      dsimp only at hlk
      have HPX := hide hd.p2
      generalize htx : hd.x.txn = tx at *
      generalize hkd : hd.x.kind = kd at *
      have HE := hide (show hd.ent = ⟨hd.place, kd, tx⟩ by rw [← hkd, ← htx]; rfl)
      have HET := hide (show hd.ent.txn = tx from htx)
      have HTX := hide htx
      have HK := hide hk
      clear hk htx
      gi_upto_region 7 with (fail)
      refine gen1 (R := fun W => Code.wpIn _ _ _ _ _ _ W) (fun W1 k7 hbW hzW => ?_)
      have l7 := k7.lt
      have e72 := k7.cell 2
      have f72 := k7.frozen 2
      gi_upto_region 10 with (fail)
      refine genB (R := fun W => Code.wpIn _ _ _ _ _ _ W) (w := W) (B := W.heap.size) (g := W.heap.size) (t := 120) (cs := #[.int .i64 id, .int .i64 fi, .int .i64 hd.place, .int .i64 ke, .bool dd, .bool oo]) (k7.set_ 2 _) (hbW.setCell (p := ⟨W.heap.size, 2, none⟩) (Nat.le_refl _) _) (fun W2 k2 hb2 => ?_)
      clear e72 f72 l7 hbW hzW k7 hlk b0 b1 q1 q2
      have K2 := hide k2
      have HB2 := hide hb2
      have c2 : W2.cell? ⟨Bx, 0, none⟩ = some (.int .i64 kd) := ((Blk.via hb2 HKX.out).cell 0).trans (by rw [← hkd]; rfl)
      have l2 := k2.lt
      have f24 := k2.frozen 4
      have f25 := k2.frozen 5
      have e24 := k2.cell 4
      have e25 := k2.cell 5
      clear k2 hb2
      have hkk : kd = 1 ∨ kd = 2 ∨ kd = 3 ∨ kd = 4 ∨ ((kd == 1) = false ∧ (kd == 2) = false ∧ (kd == 3) = false ∧ (kd == 4) = false) := by
        simp only [beq_eq_false_iff_ne]; omega
      rcases hkk with rfl | rfl | rfl | rfl | ⟨n1, n2, n3, n4⟩
      · gi_upto_region 17 with (fail)
        refine genS (R := fun W => Code.wpIn _ _ _ _ _ _ W) K2.out (fun W3 k3 hbS hzS hoS => ?_)
        have hb3 : Below W.heap.size W W3 := HB2.out.trans (hbS _ (Nat.le_refl _))
        clear hbS hzS hoS c2 l2 f24 f25 e24 e25
        have HT := hide (show tr1 (headD head (pre.map Hnd.ent)) (known head (pre.map Hnd.ent) tx) hd.ent = (⟨⟨id, fi, hd.place, ke⟩, true, oo⟩ : TrD) by rw [HK.out, HE.out]; simp_all [tr1, tx1, did1, over1])
        clear hkd
        have g3 := Blk.via hb3 HKX.out
        have b1 : W3.cell? ⟨Bx, 1, none⟩ = some (.int .i64 tx) := (g3.cell 1).trans (by rw [← HTX.out]; rfl)
        have j2 := Blk.via hb3 i2
        have j3 := Blk.via hb3 i3
        have q1 := j2.cell 0
        have q2 := j3.cell 0
        have l3 := j3.lt
        have f3 := j3.frozen 0
        have t0 := k3.cell 0
        have t1 := k3.cell 1
        have t2 := k3.cell 2
        have t3 := k3.cell 3
        have t4 := k3.cell 4
        have t5 := k3.cell 5
        have G3 := hide g3
        have J3 := hide j3
        have hK3 := hide k3
        clear g3 j3 j2 k3
        gi_wp2_with (gi_at_mapUpdate; refine heldG ?_)
        refine unheldG ?_
        gi_at_mapUpdate
        obtain ⟨DD, hown, hDD⟩ := HI1.out.kept (hb3.block _ HI1.out.lt)
        have hcl : pre.length < maxLen := by unfold maxLen; omega
        refine wpListIn_mapUpdate_own _ rfl _ _ _ 117 rfl 3 120 keyInt Tryz.underlying117 heldV w.heap.size pre.length DD rfl hown hcl _ _ _ rfl rfl (key_of HPX.out) _ [] rfl ?_
        intro W4 hown4 hg4
        have HM4 : Hid (MapF W4 w.heap.size (pre.length + 1) (fun q => if q = tx then some (trV (⟨⟨id, fi, hd.place, ke⟩, true, oo⟩ : TrD)) else (fun t => (known head (pre.map Hnd.ent) t).map trV) q)) := hide (MapF.put hDD hown.isMap hown4)
        have hne : (w.heap.size + 1 + 1) ≠ w.heap.size := by omega
        have j34 := J3.out.grown hg4 (fun e => hne (by injection e))
        have HG4 := hide hg4
        have q3 := j34.cell 0
        have l4 := j34.lt
        have f4 := j34.frozen 0
        have J34 := hide j34
        clear hown hDD hown4 hg4 q1 q2 l3 f3 t0 t1 t2 t3 t4 t5 b1 j34
        gi_wp2_with fail
        refine ⟨(keepB hb3 _).trans ((KeepsFrom.of_grownBy HG4.out (fun j e => by injection e; omega)).trans ((KeepsOthers.setCell _ _ _).from _)), (KeepS.of_below hb3 i2.lt).trans ((KeepS.grown HG4.out (.inl rfl) (by omega) (Blk.via hb3 i2).lt).trans (KeepS.set (p := ⟨w.heap.size + 1 + 1, 0, none⟩) (.inl (.inr rfl)) (by simp) _)), ?_, ?_, ?_, ?_, ?_⟩
        · rw [show (fun t => (known head ((pre ++ [hd]).map Hnd.ent) t).map trV) = (fun q => if q = tx then some (trV (⟨⟨id, fi, hd.place, ke⟩, true, oo⟩ : TrD)) else (fun t => (known head (pre.map Hnd.ent) t).map trV) q) from ?_, List.length_append, List.length_singleton]
          · exact HM4.out.kept (Below.heap_setCell _ _ _ _ (by simp; omega))
          · funext q
            rw [List.map_append, List.map_singleton, known_snoc, HET.out]
            dsimp only
            by_cases hq : q = tx
            · rw [if_pos hq, if_pos hq, hq, HT.out]; rfl
            · rw [if_neg hq, if_neg hq]
        · exact ((Blk.via hb3 i2).grown HG4.out (by simp)).far (by simp) _
        · rw [List.map_append, List.map_singleton, headD_snoc]
          exact J34.out.set_ 0 _
        · exact ((i4.trans (hb3.mono i4.size)).grown HG4.out (by have := hb3.size; have := i4.size; omega) (fun q hq => by injection hq; omega)).setCell (p := ⟨w.heap.size + 1 + 1, 0, none⟩) (by simp; omega) _
        · have := HG4.out.size; have := hb3.size; simp [World.setCell]; omega
      · gi_upto_region 17 with (fail)
        refine genS (R := fun W => Code.wpIn _ _ _ _ _ _ W) K2.out (fun W3 k3 hbS hzS hoS => ?_)
        have hb3 : Below W.heap.size W W3 := HB2.out.trans (hbS _ (Nat.le_refl _))
        clear hbS hzS hoS c2 l2 f24 f25 e24 e25
        have HT := hide (show tr1 (headD head (pre.map Hnd.ent)) (known head (pre.map Hnd.ent) tx) hd.ent = (⟨⟨id, fi, hd.place, ke⟩, true, oo⟩ : TrD) by rw [HK.out, HE.out]; simp_all [tr1, tx1, did1, over1])
        clear hkd
        have g3 := Blk.via hb3 HKX.out
        have b1 : W3.cell? ⟨Bx, 1, none⟩ = some (.int .i64 tx) := (g3.cell 1).trans (by rw [← HTX.out]; rfl)
        have j2 := Blk.via hb3 i2
        have j3 := Blk.via hb3 i3
        have q1 := j2.cell 0
        have q2 := j3.cell 0
        have l3 := j3.lt
        have f3 := j3.frozen 0
        have t0 := k3.cell 0
        have t1 := k3.cell 1
        have t2 := k3.cell 2
        have t3 := k3.cell 3
        have t4 := k3.cell 4
        have t5 := k3.cell 5
        have G3 := hide g3
        have J3 := hide j3
        have hK3 := hide k3
        clear g3 j3 j2 k3
        gi_wp2_with (gi_at_mapUpdate; refine heldG ?_)
        refine unheldG ?_
        gi_at_mapUpdate
        obtain ⟨DD, hown, hDD⟩ := HI1.out.kept (hb3.block _ HI1.out.lt)
        have hcl : pre.length < maxLen := by unfold maxLen; omega
        refine wpListIn_mapUpdate_own _ rfl _ _ _ 117 rfl 3 120 keyInt Tryz.underlying117 heldV w.heap.size pre.length DD rfl hown hcl _ _ _ rfl rfl (key_of HPX.out) _ [] rfl ?_
        intro W4 hown4 hg4
        have HM4 : Hid (MapF W4 w.heap.size (pre.length + 1) (fun q => if q = tx then some (trV (⟨⟨id, fi, hd.place, ke⟩, true, oo⟩ : TrD)) else (fun t => (known head (pre.map Hnd.ent) t).map trV) q)) := hide (MapF.put hDD hown.isMap hown4)
        have hne : (w.heap.size + 1 + 1) ≠ w.heap.size := by omega
        have j34 := J3.out.grown hg4 (fun e => hne (by injection e))
        have HG4 := hide hg4
        have q3 := j34.cell 0
        have l4 := j34.lt
        have f4 := j34.frozen 0
        have J34 := hide j34
        clear hown hDD hown4 hg4 q1 q2 l3 f3 t0 t1 t2 t3 t4 t5 b1 j34
        gi_wp2_with fail
        refine ⟨(keepB hb3 _).trans ((KeepsFrom.of_grownBy HG4.out (fun j e => by injection e; omega)).trans ((KeepsOthers.setCell _ _ _).from _)), (KeepS.of_below hb3 i2.lt).trans ((KeepS.grown HG4.out (.inl rfl) (by omega) (Blk.via hb3 i2).lt).trans (KeepS.set (p := ⟨w.heap.size + 1 + 1, 0, none⟩) (.inl (.inr rfl)) (by simp) _)), ?_, ?_, ?_, ?_, ?_⟩
        · rw [show (fun t => (known head ((pre ++ [hd]).map Hnd.ent) t).map trV) = (fun q => if q = tx then some (trV (⟨⟨id, fi, hd.place, ke⟩, true, oo⟩ : TrD)) else (fun t => (known head (pre.map Hnd.ent) t).map trV) q) from ?_, List.length_append, List.length_singleton]
          · exact HM4.out.kept (Below.heap_setCell _ _ _ _ (by simp; omega))
          · funext q
            rw [List.map_append, List.map_singleton, known_snoc, HET.out]
            dsimp only
            by_cases hq : q = tx
            · rw [if_pos hq, if_pos hq, hq, HT.out]; rfl
            · rw [if_neg hq, if_neg hq]
        · exact ((Blk.via hb3 i2).grown HG4.out (by simp)).far (by simp) _
        · rw [List.map_append, List.map_singleton, headD_snoc]
          exact J34.out.set_ 0 _
        · exact ((i4.trans (hb3.mono i4.size)).grown HG4.out (by have := hb3.size; have := i4.size; omega) (fun q hq => by injection hq; omega)).setCell (p := ⟨w.heap.size + 1 + 1, 0, none⟩) (by simp; omega) _
        · have := HG4.out.size; have := hb3.size; simp [World.setCell]; omega
      · gi_upto_region 17 with (fail)
        refine genS (R := fun W => Code.wpIn _ _ _ _ _ _ W) K2.out (fun W3 k3 hbS hzS hoS => ?_)
        have hb3 : Below W.heap.size W W3 := HB2.out.trans (hbS _ (Nat.le_refl _))
        clear hbS hzS hoS c2 l2 f24 f25 e24 e25
        have HT := hide (show tr1 (headD head (pre.map Hnd.ent)) (known head (pre.map Hnd.ent) tx) hd.ent = (⟨⟨id, fi, hd.place, ke⟩, dd, true⟩ : TrD) by rw [HK.out, HE.out]; simp_all [tr1, tx1, did1, over1])
        clear hkd
        have g3 := Blk.via hb3 HKX.out
        have b1 : W3.cell? ⟨Bx, 1, none⟩ = some (.int .i64 tx) := (g3.cell 1).trans (by rw [← HTX.out]; rfl)
        have j2 := Blk.via hb3 i2
        have j3 := Blk.via hb3 i3
        have q1 := j2.cell 0
        have q2 := j3.cell 0
        have l3 := j3.lt
        have f3 := j3.frozen 0
        have t0 := k3.cell 0
        have t1 := k3.cell 1
        have t2 := k3.cell 2
        have t3 := k3.cell 3
        have t4 := k3.cell 4
        have t5 := k3.cell 5
        have G3 := hide g3
        have J3 := hide j3
        have hK3 := hide k3
        clear g3 j3 j2 k3
        gi_wp2_with (gi_at_mapUpdate; refine heldG ?_)
        refine unheldG ?_
        gi_at_mapUpdate
        obtain ⟨DD, hown, hDD⟩ := HI1.out.kept (hb3.block _ HI1.out.lt)
        have hcl : pre.length < maxLen := by unfold maxLen; omega
        refine wpListIn_mapUpdate_own _ rfl _ _ _ 117 rfl 3 120 keyInt Tryz.underlying117 heldV w.heap.size pre.length DD rfl hown hcl _ _ _ rfl rfl (key_of HPX.out) _ [] rfl ?_
        intro W4 hown4 hg4
        have HM4 : Hid (MapF W4 w.heap.size (pre.length + 1) (fun q => if q = tx then some (trV (⟨⟨id, fi, hd.place, ke⟩, dd, true⟩ : TrD)) else (fun t => (known head (pre.map Hnd.ent) t).map trV) q)) := hide (MapF.put hDD hown.isMap hown4)
        have hne : (w.heap.size + 1 + 1) ≠ w.heap.size := by omega
        have j34 := J3.out.grown hg4 (fun e => hne (by injection e))
        have HG4 := hide hg4
        have q3 := j34.cell 0
        have l4 := j34.lt
        have f4 := j34.frozen 0
        have J34 := hide j34
        clear hown hDD hown4 hg4 q1 q2 l3 f3 t0 t1 t2 t3 t4 t5 b1 j34
        gi_wp2_with fail
        refine ⟨(keepB hb3 _).trans ((KeepsFrom.of_grownBy HG4.out (fun j e => by injection e; omega)).trans ((KeepsOthers.setCell _ _ _).from _)), (KeepS.of_below hb3 i2.lt).trans ((KeepS.grown HG4.out (.inl rfl) (by omega) (Blk.via hb3 i2).lt).trans (KeepS.set (p := ⟨w.heap.size + 1 + 1, 0, none⟩) (.inl (.inr rfl)) (by simp) _)), ?_, ?_, ?_, ?_, ?_⟩
        · rw [show (fun t => (known head ((pre ++ [hd]).map Hnd.ent) t).map trV) = (fun q => if q = tx then some (trV (⟨⟨id, fi, hd.place, ke⟩, dd, true⟩ : TrD)) else (fun t => (known head (pre.map Hnd.ent) t).map trV) q) from ?_, List.length_append, List.length_singleton]
          · exact HM4.out.kept (Below.heap_setCell _ _ _ _ (by simp; omega))
          · funext q
            rw [List.map_append, List.map_singleton, known_snoc, HET.out]
            dsimp only
            by_cases hq : q = tx
            · rw [if_pos hq, if_pos hq, hq, HT.out]; rfl
            · rw [if_neg hq, if_neg hq]
        · exact ((Blk.via hb3 i2).grown HG4.out (by simp)).far (by simp) _
        · rw [List.map_append, List.map_singleton, headD_snoc]
          exact J34.out.set_ 0 _
        · exact ((i4.trans (hb3.mono i4.size)).grown HG4.out (by have := hb3.size; have := i4.size; omega) (fun q hq => by injection hq; omega)).setCell (p := ⟨w.heap.size + 1 + 1, 0, none⟩) (by simp; omega) _
        · have := HG4.out.size; have := hb3.size; simp [World.setCell]; omega
      · gi_upto_region 17 with (fail)
        refine genS (R := fun W => Code.wpIn _ _ _ _ _ _ W) K2.out (fun W3 k3 hbS hzS hoS => ?_)
        have hb3 : Below W.heap.size W W3 := HB2.out.trans (hbS _ (Nat.le_refl _))
        clear hbS hzS hoS c2 l2 f24 f25 e24 e25
        have HT := hide (show tr1 (headD head (pre.map Hnd.ent)) (known head (pre.map Hnd.ent) tx) hd.ent = (⟨⟨id, fi, hd.place, ke⟩, dd, true⟩ : TrD) by rw [HK.out, HE.out]; simp_all [tr1, tx1, did1, over1])
        clear hkd
        have g3 := Blk.via hb3 HKX.out
        have b1 : W3.cell? ⟨Bx, 1, none⟩ = some (.int .i64 tx) := (g3.cell 1).trans (by rw [← HTX.out]; rfl)
        have j2 := Blk.via hb3 i2
        have j3 := Blk.via hb3 i3
        have q1 := j2.cell 0
        have q2 := j3.cell 0
        have l3 := j3.lt
        have f3 := j3.frozen 0
        have t0 := k3.cell 0
        have t1 := k3.cell 1
        have t2 := k3.cell 2
        have t3 := k3.cell 3
        have t4 := k3.cell 4
        have t5 := k3.cell 5
        have G3 := hide g3
        have J3 := hide j3
        have hK3 := hide k3
        clear g3 j3 j2 k3
        gi_wp2_with (gi_at_mapUpdate; refine heldG ?_)
        refine unheldG ?_
        gi_at_mapUpdate
        obtain ⟨DD, hown, hDD⟩ := HI1.out.kept (hb3.block _ HI1.out.lt)
        have hcl : pre.length < maxLen := by unfold maxLen; omega
        refine wpListIn_mapUpdate_own _ rfl _ _ _ 117 rfl 3 120 keyInt Tryz.underlying117 heldV w.heap.size pre.length DD rfl hown hcl _ _ _ rfl rfl (key_of HPX.out) _ [] rfl ?_
        intro W4 hown4 hg4
        have HM4 : Hid (MapF W4 w.heap.size (pre.length + 1) (fun q => if q = tx then some (trV (⟨⟨id, fi, hd.place, ke⟩, dd, true⟩ : TrD)) else (fun t => (known head (pre.map Hnd.ent) t).map trV) q)) := hide (MapF.put hDD hown.isMap hown4)
        have hne : (w.heap.size + 1 + 1) ≠ w.heap.size := by omega
        have j34 := J3.out.grown hg4 (fun e => hne (by injection e))
        have HG4 := hide hg4
        have q3 := j34.cell 0
        have l4 := j34.lt
        have f4 := j34.frozen 0
        have J34 := hide j34
        clear hown hDD hown4 hg4 q1 q2 l3 f3 t0 t1 t2 t3 t4 t5 b1 j34
        gi_wp2_with fail
        refine ⟨(keepB hb3 _).trans ((KeepsFrom.of_grownBy HG4.out (fun j e => by injection e; omega)).trans ((KeepsOthers.setCell _ _ _).from _)), (KeepS.of_below hb3 i2.lt).trans ((KeepS.grown HG4.out (.inl rfl) (by omega) (Blk.via hb3 i2).lt).trans (KeepS.set (p := ⟨w.heap.size + 1 + 1, 0, none⟩) (.inl (.inr rfl)) (by simp) _)), ?_, ?_, ?_, ?_, ?_⟩
        · rw [show (fun t => (known head ((pre ++ [hd]).map Hnd.ent) t).map trV) = (fun q => if q = tx then some (trV (⟨⟨id, fi, hd.place, ke⟩, dd, true⟩ : TrD)) else (fun t => (known head (pre.map Hnd.ent) t).map trV) q) from ?_, List.length_append, List.length_singleton]
          · exact HM4.out.kept (Below.heap_setCell _ _ _ _ (by simp; omega))
          · funext q
            rw [List.map_append, List.map_singleton, known_snoc, HET.out]
            dsimp only
            by_cases hq : q = tx
            · rw [if_pos hq, if_pos hq, hq, HT.out]; rfl
            · rw [if_neg hq, if_neg hq]
        · exact ((Blk.via hb3 i2).grown HG4.out (by simp)).far (by simp) _
        · rw [List.map_append, List.map_singleton, headD_snoc]
          exact J34.out.set_ 0 _
        · exact ((i4.trans (hb3.mono i4.size)).grown HG4.out (by have := hb3.size; have := i4.size; omega) (fun q hq => by injection hq; omega)).setCell (p := ⟨w.heap.size + 1 + 1, 0, none⟩) (by simp; omega) _
        · have := HG4.out.size; have := hb3.size; simp [World.setCell]; omega
      · gi_upto_region 17 with (fail)
        have hb3 := HB2.out
        have k3 := K2.out
        clear c2 l2 f24 f25 e24 e25
        have HN := hide (And.intro n1 (And.intro n2 (And.intro n3 n4)))
        clear n1 n2 n3 n4
        obtain ⟨W3, hW3⟩ : ∃ W3, W2 = W3 := ⟨_, rfl⟩
        subst hW3
        have HT := hide (show tr1 (headD head (pre.map Hnd.ent)) (known head (pre.map Hnd.ent) tx) hd.ent = (⟨⟨id, fi, hd.place, ke⟩, dd, oo⟩ : TrD) by rw [HK.out, HE.out]; obtain ⟨n1, n2, n3, n4⟩ := HN.out; rw [beq_eq_false_iff_ne] at n1 n2 n3 n4; simp_all [tr1, tx1, did1, over1])
        clear hkd
        have g3 := Blk.via hb3 HKX.out
        have b1 : W2.cell? ⟨Bx, 1, none⟩ = some (.int .i64 tx) := (g3.cell 1).trans (by rw [← HTX.out]; rfl)
        have j2 := Blk.via hb3 i2
        have j3 := Blk.via hb3 i3
        have q1 := j2.cell 0
        have q2 := j3.cell 0
        have l3 := j3.lt
        have f3 := j3.frozen 0
        have t0 := k3.cell 0
        have t1 := k3.cell 1
        have t2 := k3.cell 2
        have t3 := k3.cell 3
        have t4 := k3.cell 4
        have t5 := k3.cell 5
        have G3 := hide g3
        have J3 := hide j3
        have hK3 := hide k3
        clear g3 j3 j2 k3
        gi_wp2_with (gi_at_mapUpdate; refine heldG ?_)
        refine unheldG ?_
        gi_at_mapUpdate
        obtain ⟨DD, hown, hDD⟩ := HI1.out.kept (hb3.block _ HI1.out.lt)
        have hcl : pre.length < maxLen := by unfold maxLen; omega
        refine wpListIn_mapUpdate_own _ rfl _ _ _ 117 rfl 3 120 keyInt Tryz.underlying117 heldV w.heap.size pre.length DD rfl hown hcl _ _ _ rfl rfl (key_of HPX.out) _ [] rfl ?_
        intro W4 hown4 hg4
        have HM4 : Hid (MapF W4 w.heap.size (pre.length + 1) (fun q => if q = tx then some (trV (⟨⟨id, fi, hd.place, ke⟩, dd, oo⟩ : TrD)) else (fun t => (known head (pre.map Hnd.ent) t).map trV) q)) := hide (MapF.put hDD hown.isMap hown4)
        have hne : (w.heap.size + 1 + 1) ≠ w.heap.size := by omega
        have j34 := J3.out.grown hg4 (fun e => hne (by injection e))
        have HG4 := hide hg4
        have q3 := j34.cell 0
        have l4 := j34.lt
        have f4 := j34.frozen 0
        have J34 := hide j34
        clear hown hDD hown4 hg4 q1 q2 l3 f3 t0 t1 t2 t3 t4 t5 b1 j34
        gi_wp2_with fail
        refine ⟨(keepB hb3 _).trans ((KeepsFrom.of_grownBy HG4.out (fun j e => by injection e; omega)).trans ((KeepsOthers.setCell _ _ _).from _)), (KeepS.of_below hb3 i2.lt).trans ((KeepS.grown HG4.out (.inl rfl) (by omega) (Blk.via hb3 i2).lt).trans (KeepS.set (p := ⟨w.heap.size + 1 + 1, 0, none⟩) (.inl (.inr rfl)) (by simp) _)), ?_, ?_, ?_, ?_, ?_⟩
        · rw [show (fun t => (known head ((pre ++ [hd]).map Hnd.ent) t).map trV) = (fun q => if q = tx then some (trV (⟨⟨id, fi, hd.place, ke⟩, dd, oo⟩ : TrD)) else (fun t => (known head (pre.map Hnd.ent) t).map trV) q) from ?_, List.length_append, List.length_singleton]
          · exact HM4.out.kept (Below.heap_setCell _ _ _ _ (by simp; omega))
          · funext q
            rw [List.map_append, List.map_singleton, known_snoc, HET.out]
            dsimp only
            by_cases hq : q = tx
            · rw [if_pos hq, if_pos hq, hq, HT.out]; rfl
            · rw [if_neg hq, if_neg hq]
        · exact ((Blk.via hb3 i2).grown HG4.out (by simp)).far (by simp) _
        · rw [List.map_append, List.map_singleton, headD_snoc]
          exact J34.out.set_ 0 _
        · exact ((i4.trans (hb3.mono i4.size)).grown HG4.out (by have := hb3.size; have := i4.size; omega) (fun q hq => by injection hq; omega)).setCell (p := ⟨w.heap.size + 1 + 1, 0, none⟩) (by simp; omega) _
        · have := HG4.out.size; have := hb3.size; simp [World.setCell]; omega
  case done =>
    rintro D hs W hD hS ⟨i1, i2, i3, i4, i5⟩ hK
    have hlen2 : hs.length ≤ 1000 := by have := congrArg List.length hS; rw [List.length_map] at this; omega
    rw [hS] at i1
    have hDl : D < W.heap.size := (Array.getElem?_eq_some_iff.1 hK).1
    have HKD := hide hK
    have q1 := i2.cell 0
    have l1 := i2.lt
    obtain ⟨DD, hown, hDD⟩ := i1
    have hsz : Maps.size DD ≤ 1000 := Nat.le_trans hown.size_le hlen2
    have hmW := hown.lt
    have HOW := hide hown
    have HDD := hide hDD
    clear hown hDD hK hlen2 hS i3 hSeq
    obtain ⟨i0, hi, hz0', hz1', hz2'⟩ := info_parts info_txn
    have HI := hide hi
    clear hi
    dsimp only
    gi_wp2_with (gi_at_range; refine heldG ?_)
    refine unheldG ?_
    gi_at_range
    refine wpListIn_range_own _ rfl _ 117 rfl 3 120 keyInt Tryz.underlying117 heldV w.heap.size hs.length DD rfl HOW.out ?_
    intro w0 hrg0 hg0 hs0
    have HRG0 := hide hrg0
    have HG0 := hide hg0
    have HS0 := hide hs0
    clear hrg0 hg0 hs0 q1 l1
    gi_wp2_with fail
    go_frame
    gi_loopw [9] (fun v wr => ∃ (left : Lit → Bool) (cnt : Nat) (ss : List Int), wr.ranges Tryz.prog 3 heldV w.heap.size W.heap.size hs.length DD left cnt ∧ ss.length + cnt ≤ 1000 ∧ wr.ownsRow (W.heap.size + 1) 53 4 v ss.length ((ss.map (losT head es)).flatMap txC) ∧ LsC head es left ss ∧ (∀ kl, left kl = true → Maps.has DD kl = true) ∧ Below W.heap.size W wr ∧ W.heap.size + 1 ≤ wr.heap.size) (fun _ wr => wr.rangeLeft w.heap.size W.heap.size)
    case atStart => exact ⟨_, _, [], HRG0.out, by simpa using hsz, World.ownsRow_nil _ _ _ _, LsC.start (fun p => by rw [(HDD.out p).1, Option.isSome_map]), fun _ h => h, (Below.refl _ _).grown HG0.out (Nat.le_refl _) (fun q hq => by cases hq), by rw [HS0.out]; exact Nat.le_refl _⟩
    case round =>
      obtain ⟨left, cnt, ss, hrg, hcn, hrow, hC, hL, hbr, hzr⟩ := hrel
      obtain ⟨A3, c3, rfl, hnc, _⟩ := own_slice hrow
      have HRW := hide hrow
      have HRG := hide hrg
      have HC := hide hC
      have HL := hide hL
      have HBR := hide hbr
      clear hrow hrg hC hL hbr
      gi_wp2_with (gi_at_next; refine heldG ?_)
      refine unheldG ?_
      gi_at_next
      refine wpListIn_next_ranges _ rfl _ rfl 3 keyInt heldV (Value.int .i64) (fun v : Value => v) (fun key kl hk => by obtain ⟨x, hx, _⟩ := Maps.keyOf_int_inv Tryz.underlying3 hk; exact ⟨x, hx⟩) (fun v y hv => ⟨v, rfl⟩) w.heap.size W.heap.size hs.length _ _ _ rfl HRG.out ?_ ?_
      · intro hc0 hl0
        have HS := hide (sortL_any (losT head es) (losT_id head es hk4) (.slice A3 ss.length c3) ss (W.heap.size + 1) _ (by omega) HRW.out)
        have HL0 := hide hl0
        clear hc0 hl0
        gi_wp2_with (refine ⟨trivial, ?_⟩; gi_at_call 55; refine (callsIn_wide.2 HS.out).mono ?_; rintro e w' ⟨rfl, ts, h1, h2, h3, h4⟩)
        have hne : ∀ q, (Value.slice A3 ss.length c3).ownBlock = some q → W.heap.size + 1 ≤ q := fun q hq => (World.ownsRow.lt HRW.out q hq).1
        have hKD : w'.heap[D]? = some (.deferred (some [])) := (h4.block D (Nat.lt_of_lt_of_le hDl HBR.out.size) (fun e => by have := hne D e.symm; omega)).trans ((HBR.out.block D hDl).trans HKD.out)
        have hlen3 : ts.length = ss.length := h1.length_eq
        refine leave_mark (v := .slice A3 ss.length c3) hKD (by simp [results, Tryz.results13, go_sem]) ⟨A3, c3, ts, ?_, fun t => ?_, by rw [hlen3], ?_, ?_⟩
        · exact (h2.and (h1.nodup_iff.2 HC.out.nd)).imp (fun {a b} hab => by have h5 := hab.1; have h6 := hab.2; omega)
        · rw [h1.mem_iff, HC.out.mem t, HL0.out]
          simp
        · rw [hlen3]
          refine own_low' (row_keep h3 fun q hq => World.putObj_heap_other (fun e => ?_)) (by omega)
          subst e
          obtain ⟨cur, e2⟩ := row_obj h3 hq
          rw [hKD] at e2
          cases e2
        · have hbw : Below w.heap.size w w' := (i4.trans (HBR.out.mono i4.size)).grown h4 (Nat.le_trans i4.size HBR.out.size) (fun q hq => by have := hne q hq; have := i4.size; omega)
          exact hbw.grown (grownBy_putObj' w' D _) hbw.size (fun q hq => by injection hq with hq; omega)
      · intro x c kl y w2 cnt2 hkey hlk hv hat hrg2 hlt hg2 hs2 hen
        obtain ⟨x', ex, rfl, hwf⟩ := Maps.keyOf_int_inv Tryz.underlying3 hkey
        obtain rfl : x = x' := by injection ex
        obtain ⟨tr, hkx⟩ : ∃ tr, known head es x = some tr := by
          have hh := HL.out _ hlk
          rw [(HDD.out x).1, Option.isSome_map] at hh
          exact Option.isSome_iff_exists.1 hh
        obtain rfl : c = trV tr := by
          have e := (HDD.out x).2 (trV tr) (by simp only [hkx]; rfl) (.held c)
          rw [hat] at e
          simp only [heldV, Option.some.injEq] at hv
          subst hv
          injection e
        obtain ⟨⟨id, fi, la, ke⟩, dd, oo⟩ := tr
        have HLT := hide (show losT head es x = ⟨id, fi, la, ke⟩ by simp [losT, hkx])
        have HIL := hide (show isLos head es x = (dd && !oo) by simp [isLos, hkx])
        have HRG2 := hide hrg2
        have HG2 := hide hg2
        have HS2 := hide hs2
        have HLK := hide hlk
        have HLE := hide hlt
        clear hv hat hkey hkx hrg2 hg2 hs2 hlk hlt
        unfold trV at hen ⊢
        dsimp only at hen ⊢
        gi_upto_region 23 with (fail)
        refine gen1 (R := fun W => Code.wpIn _ _ _ _ _ _ W) (fun W5 k5 hb5 hz5 => ?_)
        have hb25 : Below W.heap.size W w2 := HBR.out.grown HG2.out HBR.out.size (fun q hq => by injection hq with hq; omega)
        have hz25 : wr.heap.size = w2.heap.size := HS2.out.symm
        have hrw5 : W5.ownsRow (W.heap.size + 1) 53 4 (.slice A3 ss.length c3) ss.length ((ss.map (losT head es)).flatMap txC) := own_via (row_keep HRW.out (fun q hq => HG2.out.block q (World.ownsRow.lt HRW.out q hq).2 (fun e => by have := (World.ownsRow.lt HRW.out q hq).1; injection e with e; omega))) hb5
        have hrg5 := ranges_via HRG2.out hb5
        have HB5 := hide (hb25.trans (hb5.mono hb25.size))
        have hsz5 : w2.heap.size + 1 ≤ W5.heap.size := hz5
        have hzz : W.heap.size + 1 < W5.heap.size := by omega
        have HRW5 := hide hrw5
        have HRG5 := hide hrg5
        clear hen hb5 hz5 hrw5 hrg5 hb25 hz25
        have l5 := k5.lt
        have t0 := k5.cell 0
        have t1 := k5.cell 1
        have t2 := k5.cell 2
        have t3 := k5.cell 3
        have t4 := k5.cell 4
        have t5 := k5.cell 5
        clear k5
        have hcn2 : ss.length + cnt2 + 1 ≤ 1000 := by have := HLE.out; omega
        cases dd
        · gi_wp2_with fail
          go_roundw
          case rel => exact ⟨_, cnt2, ss, HRG5.out, by omega, HRW5.out, HC.out.skip (by rw [HIL.out]; rfl), fun kl h => HL.out kl (by simp only [Bool.and_eq_true] at h; exact h.1), HB5.out, by omega⟩
          case measure => rw [HRG5.out.left_eq, HRG.out.left_eq]; exact HLE.out
        cases oo
        rotate_left
        · gi_wp2_with fail
          go_roundw
          case rel => exact ⟨_, cnt2, ss, HRG5.out, by omega, HRW5.out, HC.out.skip (by rw [HIL.out]; rfl), fun kl h => HL.out kl (by simp only [Bool.and_eq_true] at h; exact h.1), HB5.out, by omega⟩
          case measure => rw [HRG5.out.left_eq, HRG.out.left_eq]; exact HLE.out
        gi_wp2_with (gi_at_builtin; refine heldG ?_)
        refine unheldG ?_
        gi_at_builtin
        refine wpListIn_append_any _ rfl _ _ _ rfl (W.heap.size + 1) 53 i0 _ 4 32 Tryz.underlying46 HI.out hz0' hz1' hz2' rfl (by omega) (.slice A3 ss.length c3) ss.length _ rfl (HRW5.out.alloc _) (W5.heap.size + 1) (some ⟨W5.heap.size, 0, none⟩) 1 1 [.int .i64 id, .int .i64 fi, .int .i64 la, .int .i64 ke] rfl (Reads.of_blk (n := 1) (size := 4) (Blk.new _ _ _) rfl) (fun u hu => by
          simp only [List.mem_cons, List.not_mem_nil, or_false] at hu
          rcases hu with rfl | rfl | rfl | rfl <;> rfl) (by unfold maxLen; omega) (by omega) (by simp; omega) ?_
        intro v' w4 hown4 hg4 hloc4
        obtain ⟨A4, c4, rfl, _⟩ := own_slice hown4
        have hne : ∀ q, (Value.slice A3 ss.length c3).ownBlock = some q → W.heap.size + 1 ≤ q := fun q hq => (World.ownsRow.lt HRW5.out q hq).1
        have hrg4 := (HRG5.out.alloc (.cells #[.int .i64 id, .int .i64 fi, .int .i64 la, .int .i64 ke] 53)).kept hg4 (fun e => by have := hne _ e.symm; omega) (fun e => by have := hne _ e.symm; omega)
        have hb4 : Below W.heap.size W w4 := (HB5.out.alloc HB5.out.size _).grown hg4 (by simp; omega) (fun q hq => by have := hne q hq; omega)
        have HZ4 := hide (show W5.heap.size ≤ w4.heap.size by have := hg4.size; simp at this; omega)
        have HRG4 := hide hrg4
        have HB4 := hide hb4
        have HO4 := hide hown4
        clear hown4 hg4 hloc4 hrg4 hb4 t0 t1 t2 t3 t4 t5
        gi_wp2_with fail
        go_roundw
        case rel =>
          refine ⟨_, cnt2, ss ++ [x], HRG4.out, by simp; omega, ?_, HC.out.add HLK.out (by rw [HIL.out]; rfl), fun kl h => HL.out kl (by simp only [Bool.and_eq_true] at h; exact h.1), HB4.out, by have := HZ4.out; omega⟩
          rw [List.length_append, List.map_append, List.flatMap_append, List.map_singleton, HLT.out]
          exact HO4.out
        case measure => rw [HRG4.out.left_eq, HRG.out.left_eq]; exact HLE.out
  case stop =>
    rintro D c pre W hD _ hF _
    exact hF.elim
theorem wLosers_any (l m kk L : Nat) (d : Nat) (limit kept forced : Int) (pv : Value) (sv mv : Value) (A : Option Addr) (n c : Nat) (stale head sure fuse o : Int) (f : Int → Option Value) (es : List EntD) (w : World) (hlen : es.length ≤ 1000) (hk4 : ∀ e ∈ es, 1 ≤ e.kind ∧ e.kind ≤ 4) (hR : LogR w w.heap.size l m kk L (logC d limit kept forced m pv) pv f es)
    (kd : Blk w d 107 (devC sv mv (.slice A n c) stale head sure fuse o)) :
    Calls Tryz.prog 13 #[.pointer (some ⟨l, 0, none⟩)] w (LosP w head es) :=
  wLosers_gen _ head es w hlen hk4 (fun W hb => walHead_any l d limit kept forced m pv sv mv A n c stale head sure fuse o W (Blk.via hb hR.q.kl) (Blk.via hb kd))
    fun w1 hb1 hown1 kb hz1 => all_stops 8 (by omega) (w.heap.size + 1 + 1 + 1) w.heap.size w1.heap.size (w.heap.size + 1) l m kk L (fun q => q = w.heap.size ∨ q = w.heap.size + 1 + 1) _ pv f es w1 (by omega) (by omega) (Nat.le_refl _) (by omega) (fun q hq => by have := hown1 q hq; omega) kb (fun h => by have := hown1 _ h; omega) (by omega) (hR.via hb1 (Nat.le_refl _))
theorem walHead_nil (w : World) : Calls Tryz.prog 51 #[.pointer none] w fun e w' => e = .returned (.int .i64 0) ∧ w' = w := by
  go_enter Tryz.func51, Tryz.ntmps51
  go_wp2
  go_ret
  exact ⟨rfl, rfl⟩
theorem wLosers_nil (w : World) : Calls Tryz.prog 13 #[.pointer none] w fun e w' => (∃ A2 c2, e = .returned (.slice A2 0 c2)) ∧ Below w.heap.size w w' :=
  (wLosers_gen none 0 [] w (by simp) (fun e h => by cases h) (fun W _ => walHead_nil W) fun w1 _ _ kb _ => nil_stops 8 _ _ _ w1 kb).mono (by
    rintro e w' ⟨A2, c2, ts, _, hm, rfl, _, hb⟩
    have ht : ts = [] := List.eq_nil_iff_forall_not_mem.2 (fun t h => by have := (hm t).1 h; simp [isLos, known_nil] at this)
    subst ht
    exact ⟨⟨A2, c2, rfl⟩, hb⟩)
end Go.Proofs.YtnanlaefehaifaaGreat
