/-
  WALKS OF THE REFERENCES: moneyerref09.Plain, moneyerref31.Plain.
  WALK OF THE REFERENCE: moneyerref31.Plain of any act.
-/
import Derived.Test.YtgokkbocboonnaaDoorAR
import Derived.Test.YtgokkbocboonnaaDoorAP
namespace Go.Proofs.YtgokkbocboonnaaDoor
open Go.RowKit Go.Lib

/-- The bytes that count of an operation's. -/
def mdv (a : Int) (v : Value) : Value := if a = 1 then v else .slice none 0 0
def MPlainPost (w : World) (x : OpD) (v : Value) (e : Ending) (w' : World) : Prop :=
  Below w.heap.size w w' ∧ ∃ A n c, e = .returned (opV (plainOp x) (.slice A n c)) ∧ .slice A n c = mdv x.act v
set_option maxHeartbeats 3200000 in
theorem mPlain_any (x : OpD) (A : Option Addr) (n c : Nat) (w : World) (h0 : 0 ≤ x.act) (h5 : x.act ≤ 5) :
    Calls Tryd.prog 27 #[.agg #[.int .i64 x.act, .string x.key, .slice A n c, .int .i64 x.lo, .int .i64 x.hi, .int .i64 x.n]] w (MPlainPost w x (.slice A n c)) := by
  obtain ⟨act, key, data, lo, hi, nn⟩ := x
  dsimp only at *
  rcases (show act = 0 ∨ act = 1 ∨ act = 2 ∨ act = 3 ∨ act = 4 ∨ act = 5 by omega) with rfl | rfl | rfl | rfl | rfl | rfl
  · go_enter Tryd.func27, Tryd.ntmps27
    go_wp2
    refine bodyPost_ret (v := opV ⟨0, key, [], 0, 0, 0⟩ (.slice none 0 0)) (by simp [results, Tryd.results27, go_sem, opV]) rfl ?_
    exact ⟨(below2 _ _ _).alloc (by simp; omega) _, _, _, _, rfl, rfl⟩
  · go_enter Tryd.func27, Tryd.ntmps27
    go_wp2
    refine bodyPost_ret (v := opV ⟨1, key, data, 0, 0, 0⟩ (.slice A n c)) (by simp [results, Tryd.results27, go_sem, opV]) rfl ?_
    exact ⟨(below2 _ _ _).alloc (by simp; omega) _, _, _, _, rfl, rfl⟩
  · go_enter Tryd.func27, Tryd.ntmps27
    go_wp2
    go_region
    go_wp2
    refine bodyPost_ret (v := opV ⟨2, key, [], lo, hi, nn⟩ (.slice none 0 0)) (by simp [results, Tryd.results27, go_sem, opV]) rfl ?_
    exact ⟨((below2 _ _ _).alloc (by simp; omega) _).drew, _, _, _, rfl, rfl⟩
  · go_enter Tryd.func27, Tryd.ntmps27
    go_wp2
    refine bodyPost_ret (v := opV ⟨3, key, [], 0, 0, 0⟩ (.slice none 0 0)) (by simp [results, Tryd.results27, go_sem, opV]) rfl ?_
    exact ⟨(below2 _ _ _).alloc (by simp; omega) _, _, _, _, rfl, rfl⟩
  · go_enter Tryd.func27, Tryd.ntmps27
    go_wp2
    refine bodyPost_ret (v := opV ⟨4, key, [], 0, 0, nn⟩ (.slice none 0 0)) (by simp [results, Tryd.results27, go_sem, opV]) rfl ?_
    exact ⟨(below2 _ _ _).alloc (by simp; omega) _, _, _, _, rfl, rfl⟩
  · go_enter Tryd.func27, Tryd.ntmps27
    go_wp2
    refine bodyPost_ret (v := opV ⟨5, key, [], 0, 0, nn⟩ (.slice none 0 0)) (by simp [results, Tryd.results27, go_sem, opV]) rfl ?_
    exact ⟨(below2 _ _ _).alloc (by simp; omega) _, _, _, _, rfl, rfl⟩
theorem mPlain6_any (x : OpD) (A : Option Addr) (n c : Nat) (w : World) (h5 : 5 < x.act) :
    Calls Tryd.prog 27 #[.agg #[.int .i64 x.act, .string x.key, .slice A n c, .int .i64 x.lo, .int .i64 x.hi, .int .i64 x.n]] w fun e w' => e = .returned (.agg #[.int .i64 x.act, .string x.key, .slice none 0 0, .int .i64 0, .int .i64 0, .int .i64 0]) ∧ Below w.heap.size w w' := by
  obtain ⟨act, key, data, lo, hi, nn⟩ := x
  dsimp only at *
  have b1 : ((act : Int) == 1) = false := by simp; omega
  have b2 : ((act : Int) == 2) = false := by simp; omega
  have b4 : ((act : Int) == 4) = false := by simp; omega
  have b5 : ((act : Int) == 5) = false := by simp; omega
  go_enter Tryd.func27, Tryd.ntmps27
  go_wp2
  refine bodyPost_ret (v := .agg #[.int .i64 act, .string key, .slice none 0 0, .int .i64 0, .int .i64 0, .int .i64 0]) (by simp [results, Tryd.results27, go_sem]) rfl ?_
  exact ⟨rfl, (below2 _ _ _).alloc (by simp; omega) _⟩
/-- What counts of an act, in memory. -/
def plainY (x : ActV) : ActV := ⟨plainAct x.d, if x.d.act = 0 then mdv x.d.op.act x.dv else .slice none 0 0, if x.d.act = 4 then x.pv else .slice none 0 0⟩
/-- What moneyerref31.Plain tells. -/
def RPlainPost (w : World) (x : ActV) (e : Ending) (w' : World) : Prop :=
  Below w.heap.size w w' ∧ e = .returned (actV (plainY x))
theorem plainY_ok {w : World} {B : Nat} {x : ActV} (h : ActOk w B x) : ActOk w B (plainY x) := by
  obtain ⟨h1, h2⟩ := h
  have hn : IntsAt w B (.slice none 0 0) [] := ⟨none, 0, rfl, Nat.le_refl _, rfl, Reads.none_⟩
  refine ⟨?_, ?_⟩
  · unfold plainY plainAct
    dsimp only
    by_cases a0 : x.d.act = 0
    · rw [if_pos a0, if_pos a0]
      unfold mdv plainOp
      by_cases o1 : x.d.op.act = 1
      · rw [if_pos o1, if_neg (by omega), if_pos o1]
        exact h1
      · rw [if_neg o1]
        repeat' split
        all_goals exact bytes_nil _ _
    · rw [if_neg a0, if_neg a0]
      exact bytes_nil _ _
  · unfold plainY plainAct
    dsimp only
    split
    · exact h2
    · exact hn
set_option maxHeartbeats 1600000 in
theorem rPlain_1 (cl m lg : Int) (op : OpD) (pages : List Int) (A A' : Option Addr) (n c n' c' : Nat) (w : World) :
    Calls Tryd.prog 12 #[.agg #[.int .i64 1, .int .i64 cl, .int .i64 op.act, .string op.key, .slice A n c, .int .i64 op.lo, .int .i64 op.hi, .int .i64 op.n, .int .i64 m, .slice A' n' c', .int .i64 lg]] w (RPlainPost w ⟨⟨1, cl, op, m, pages, lg⟩, .slice A n c, .slice A' n' c'⟩) := by
  go_enter Tryd.func12, Tryd.ntmps12
  go_wp2
  refine bodyPost_ret (v := actV ⟨plainAct ⟨1, cl, op, m, pages, lg⟩, .slice none 0 0, .slice none 0 0⟩) (by simp [results, Tryd.results12, go_sem, actV, plainAct, op00]) rfl ?_
  exact ⟨(below2 _ _ _).alloc (by simp; omega) _, rfl⟩
set_option maxHeartbeats 1600000 in
theorem rPlain_2 (cl m lg : Int) (op : OpD) (pages : List Int) (A A' : Option Addr) (n c n' c' : Nat) (w : World) :
    Calls Tryd.prog 12 #[.agg #[.int .i64 2, .int .i64 cl, .int .i64 op.act, .string op.key, .slice A n c, .int .i64 op.lo, .int .i64 op.hi, .int .i64 op.n, .int .i64 m, .slice A' n' c', .int .i64 lg]] w (RPlainPost w ⟨⟨2, cl, op, m, pages, lg⟩, .slice A n c, .slice A' n' c'⟩) := by
  go_enter Tryd.func12, Tryd.ntmps12
  go_wp2
  refine bodyPost_ret (v := actV ⟨plainAct ⟨2, cl, op, m, pages, lg⟩, .slice none 0 0, .slice none 0 0⟩) (by simp [results, Tryd.results12, go_sem, actV, plainAct, op00]) rfl ?_
  exact ⟨(below2 _ _ _).alloc (by simp; omega) _, rfl⟩
set_option maxHeartbeats 1600000 in
theorem rPlain_3 (cl m lg : Int) (op : OpD) (pages : List Int) (A A' : Option Addr) (n c n' c' : Nat) (w : World) :
    Calls Tryd.prog 12 #[.agg #[.int .i64 3, .int .i64 cl, .int .i64 op.act, .string op.key, .slice A n c, .int .i64 op.lo, .int .i64 op.hi, .int .i64 op.n, .int .i64 m, .slice A' n' c', .int .i64 lg]] w (RPlainPost w ⟨⟨3, cl, op, m, pages, lg⟩, .slice A n c, .slice A' n' c'⟩) := by
  go_enter Tryd.func12, Tryd.ntmps12
  go_wp2
  refine bodyPost_ret (v := actV ⟨plainAct ⟨3, cl, op, m, pages, lg⟩, .slice none 0 0, .slice none 0 0⟩) (by simp [results, Tryd.results12, go_sem, actV, plainAct, op00]) rfl ?_
  exact ⟨(below2 _ _ _).alloc (by simp; omega) _, rfl⟩
set_option maxHeartbeats 1600000 in
theorem rPlain_4 (cl m lg : Int) (op : OpD) (pages : List Int) (A A' : Option Addr) (n c n' c' : Nat) (w : World) :
    Calls Tryd.prog 12 #[.agg #[.int .i64 4, .int .i64 cl, .int .i64 op.act, .string op.key, .slice A n c, .int .i64 op.lo, .int .i64 op.hi, .int .i64 op.n, .int .i64 m, .slice A' n' c', .int .i64 lg]] w (RPlainPost w ⟨⟨4, cl, op, m, pages, lg⟩, .slice A n c, .slice A' n' c'⟩) := by
  go_enter Tryd.func12, Tryd.ntmps12
  go_wp2
  refine bodyPost_ret (v := actV ⟨plainAct ⟨4, cl, op, m, pages, lg⟩, .slice none 0 0, .slice A' n' c'⟩) (by simp [results, Tryd.results12, go_sem, actV, plainAct, op00]) rfl ?_
  exact ⟨(below2 _ _ _).alloc (by simp; omega) _, rfl⟩
set_option maxHeartbeats 1600000 in
theorem rPlain_5 (cl m lg : Int) (op : OpD) (pages : List Int) (A A' : Option Addr) (n c n' c' : Nat) (w : World) :
    Calls Tryd.prog 12 #[.agg #[.int .i64 5, .int .i64 cl, .int .i64 op.act, .string op.key, .slice A n c, .int .i64 op.lo, .int .i64 op.hi, .int .i64 op.n, .int .i64 m, .slice A' n' c', .int .i64 lg]] w (RPlainPost w ⟨⟨5, cl, op, m, pages, lg⟩, .slice A n c, .slice A' n' c'⟩) := by
  go_enter Tryd.func12, Tryd.ntmps12
  go_wp2
  refine bodyPost_ret (v := actV ⟨plainAct ⟨5, cl, op, m, pages, lg⟩, .slice none 0 0, .slice none 0 0⟩) (by simp [results, Tryd.results12, go_sem, actV, plainAct, op00]) rfl ?_
  exact ⟨(below2 _ _ _).alloc (by simp; omega) _, rfl⟩
theorem gen3b {w : World} {c0 c1 c2 : Array Value} {t0 t1 t2 : TypeId} {R : World → Prop} (h : ∀ W, Blk W w.heap.size t0 c0 → Blk W (w.heap.size + 1) t1 c1 → Blk W (w.heap.size + 1 + 1) t2 c2 → Below w.heap.size w W → w.heap.size + 1 + 1 < W.heap.size → R W) :
    R (((w.alloc (.cells c0 t0)).alloc (.cells c1 t1)).alloc (.cells c2 t2)) := by
  refine h _ (((Blk.new w t0 c0).alloc _).alloc _) ?_ ?_ ?_ (by simp)
  · exact ((by simpa using Blk.new (w.alloc (.cells c0 t0)) t1 c1 : Blk _ (w.heap.size + 1) t1 c1).alloc _)
  · exact (by simpa using Blk.new ((w.alloc (.cells c0 t0)).alloc (.cells c1 t1)) t2 c2 : Blk _ (w.heap.size + 1 + 1) t2 c2)
  · exact (((Below.refl _ _).alloc (Nat.le_refl _) _).alloc (by simp) _).alloc (by simp; omega) _
end Go.Proofs.YtgokkbocboonnaaDoor
namespace Go.Proofs.YtgokkbocboonnaaDoor
open Go.RowKit Go.Lib

theorem setL_six {cs : Array Value} (hs : cs.size = 11) (v2 v3 v4 v5 v6 v7 : Value) {a0 a1 a8 a9 a10 : Value} (h0 : cs[0]? = some a0) (h1 : cs[1]? = some a1) (h8 : cs[8]? = some a8) (h9 : cs[9]? = some a9) (h10 : cs[10]? = some a10) :
    setL cs 2 [v2, v3, v4, v5, v6, v7] = #[a0, a1, v2, v3, v4, v5, v6, v7, a8, a9, a10] := by
  have h := setL_spec [v2, v3, v4, v5, v6, v7] cs 2 (by rw [hs]; simp)
  obtain ⟨g1, g2, g3⟩ := h
  apply Array.ext_getElem?
  intro i
  rcases (show i = 0 ∨ i = 1 ∨ i = 2 ∨ i = 3 ∨ i = 4 ∨ i = 5 ∨ i = 6 ∨ i = 7 ∨ i = 8 ∨ i = 9 ∨ i = 10 ∨ 11 ≤ i by omega) with rfl | rfl | rfl | rfl | rfl | rfl | rfl | rfl | rfl | rfl | rfl | hi
  · rw [g2 0 (.inl (by decide)), h0]; rfl
  · rw [g2 1 (.inl (by decide)), h1]; rfl
  · rw [g3 0 v2 rfl]; rfl
  · rw [g3 1 v3 rfl]; rfl
  · rw [g3 2 v4 rfl]; rfl
  · rw [g3 3 v5 rfl]; rfl
  · rw [g3 4 v6 rfl]; rfl
  · rw [g3 5 v7 rfl]; rfl
  · rw [g2 8 (.inr (by simp)), h8]; rfl
  · rw [g2 9 (.inr (by simp)), h9]; rfl
  · rw [g2 10 (.inr (by simp)), h10]; rfl
  · rw [Array.getElem?_eq_none (by rw [g1, hs]; exact hi), Array.getElem?_eq_none (by simpa using hi)]
/-- An Op stored within an Act. -/
theorem genOp {w W : World} {g B : Nat} {t : TypeId} {cs : Array Value} {v2 v3 v4 v5 v6 v7 a0 a1 a8 a9 a10 : Value} {R : World → Prop} (k : Blk W g t cs) (hs : cs.size = 11) (h0 : cs[0]? = some a0) (h1 : cs[1]? = some a1) (h8 : cs[8]? = some a8) (h9 : cs[9]? = some a9) (h10 : cs[10]? = some a10) (hb : Below B w W) (hg : B ≤ g)
    (hR : ∀ W', Blk W' g t #[a0, a1, v2, v3, v4, v5, v6, v7, a8, a9, a10] → Below B w W' → Touch g (g + 1) W W' → R W') : R (putL W g 2 [v2, v3, v4, v5, v6, v7]) := by
  have k2 := putL_blk [v2, v3, v4, v5, v6, v7] 2 k
  rw [setL_six hs v2 v3 v4 v5 v6 v7 h0 h1 h8 h9 h10] at k2
  have ht := putL_touch g [v2, v3, v4, v5, v6, v7] W W 2 (Touch.refl _)
  exact hR _ k2 (ht.below hb hg) ht
set_option maxHeartbeats 3200000 in
theorem rPlain_0 (cl m lg : Int) (op : OpD) (pages : List Int) (A A' : Option Addr) (n c n' c' : Nat) (w : World) (h0 : 0 ≤ op.act) (h8 : op.act ≤ 8) :
    Calls Tryd.prog 12 #[.agg #[.int .i64 0, .int .i64 cl, .int .i64 op.act, .string op.key, .slice A n c, .int .i64 op.lo, .int .i64 op.hi, .int .i64 op.n, .int .i64 m, .slice A' n' c', .int .i64 lg]] w (RPlainPost w ⟨⟨0, cl, op, m, pages, lg⟩, .slice A n c, .slice A' n' c'⟩) := by
  by_cases h5 : op.act ≤ 5
  · have HM := hide (fun W => mPlain_any op A n c W h0 h5)
    go_enter Tryd.func12, Tryd.ntmps12
    go_wp2_with fail
    refine gen3b (R := fun W => Calls Tryd.prog 27 _ W _) (fun W k0 k1 k2 hbW hz => ?_)
    refine (HM.out _).mono ?_
    rintro e w1 ⟨hb1, A1, n1, c1, rfl, hpt⟩
    have HPT := hide hpt
    obtain ⟨y, hy⟩ : ∃ y, y = plainOp op := ⟨_, rfl⟩
    rw [← hy]
    have HY := hide hy
    clear hpt hy
    have k0 := Blk.via hb1 k0
    have k1 := Blk.via hb1 k1
    have k2 := Blk.via hb1 k2
    have hbw1 := below_via hbW hb1 hbW.size
    have q0 := k0.cell
    have l0 := k0.lt
    have q1 := k1.cell
    have f1 := k1.frozen
    have l1 := k1.lt
    have q2 := k2.cell
    have f2 := k2.frozen
    have l2 := k2.lt
    unfold opV
    go_upto_region 6 with fail
    refine genOp (v2 := .int .i64 y.act) (v3 := .string y.key) (v4 := .slice A1 n1 c1) (v5 := .int .i64 y.lo) (v6 := .int .i64 y.hi) (v7 := .int .i64 y.n) k2 rfl rfl rfl rfl rfl rfl hbw1 (by omega) (fun W2 k22 hb2 ht2 => ?_)
    have k02 := ht2.blk k0 (.inl (by omega))
    have k12 := ht2.blk k1 (.inl (by omega))
    have y0 := (k02).cell
    have z0 := (k02).lt
    have y1 := (k12).cell
    have g1 := (k12).frozen
    have z1 := (k12).lt
    have y2 := (k22).cell
    have z2 := (k22).lt
    try clear q0 l0
    try clear q1 f1 l1
    try clear q2 f2 l2
    go_wp2
    refine genPut (vs := [.int .i64 0, .int .i64 cl, .int .i64 y.act, .string y.key, .slice A1 n1 c1, .int .i64 y.lo, .int .i64 y.hi, .int .i64 y.n, .int .i64 0, .slice none 0 0, .int .i64 0]) k12 rfl hb2 (by omega) (fun W' k6 hb6 ht => ?_)
    have q6 := k6.cell
    refine bodyPost_ret (v := actV ⟨⟨0, cl, y, 0, [], 0⟩, .slice A1 n1 c1, .slice none 0 0⟩) (by simp [results, Tryd.results12, go_sem, actV, q6]) rfl ?_
    exact ⟨hb6, by rw [HY.out, HPT.out]; rfl⟩
  · have HM := hide (fun W => mPlain6_any op A n c W (by omega))
    have h5' : 5 < op.act := by omega
    have b3 : ((0 : Int) == 3) = false := rfl
    go_enter Tryd.func12, Tryd.ntmps12
    go_wp2_with fail
    refine gen3b (R := fun W => Calls Tryd.prog 27 _ W _) (fun W k0 k1 k2 hbW hz => ?_)
    refine (HM.out _).mono ?_
    rintro e w1 ⟨rfl, hb1⟩
    have k0 := Blk.via hb1 k0
    have k1 := Blk.via hb1 k1
    have k2 := Blk.via hb1 k2
    have hbw1 := below_via hbW hb1 hbW.size
    have q0 := k0.cell
    have l0 := k0.lt
    have q2 := k2.cell
    have f2 := k2.frozen
    have l2 := k2.lt
    go_upto_region 6 with fail
    refine genOp (v2 := .int .i64 op.act) (v3 := .string op.key) (v4 := .slice none 0 0) (v5 := .int .i64 0) (v6 := .int .i64 0) (v7 := .int .i64 0) k2 rfl rfl rfl rfl rfl rfl hbw1 (by omega) (fun W2 k22 hb2 ht2 => ?_)
    have k02 := ht2.blk k0 (.inl (by omega))
    have k12 := ht2.blk k1 (.inl (by omega))
    clear q0 l0 q2 f2 l2
    have q0 := k02.cell
    have l0 := k02.lt
    have q2 := k22.cell
    have f2 := k22.frozen
    have l2 := k22.lt
    go_upto_region 8 with fail
    refine genOp (v2 := .int .i64 op.act) (v3 := .string ⟨#[]⟩) (v4 := .slice none 0 0) (v5 := .int .i64 0) (v6 := .int .i64 0) (v7 := .int .i64 0) k22 rfl rfl rfl rfl rfl rfl hb2 (by omega) (fun W3 k23 hb3 ht3 => ?_)
    have k03 := ht3.blk k02 (.inl (by omega))
    have k13 := ht3.blk k12 (.inl (by omega))
    have y0 := (k03).cell
    have z0 := (k03).lt
    have y1 := (k13).cell
    have g1 := (k13).frozen
    have z1 := (k13).lt
    have y2 := (k23).cell
    have z2 := (k23).lt
    try clear q0 l0
    try clear q1 f1 l1
    try clear q2 f2 l2
    go_wp2
    refine genPut (vs := [.int .i64 0, .int .i64 cl, .int .i64 op.act, .string ⟨#[]⟩, .slice none 0 0, .int .i64 0, .int .i64 0, .int .i64 0, .int .i64 0, .slice none 0 0, .int .i64 0]) k13 rfl hb3 (by omega) (fun W' k6 hb6 ht => ?_)
    have q6 := k6.cell
    refine bodyPost_ret (v := actV ⟨⟨0, cl, ⟨op.act, ⟨#[]⟩, [], 0, 0, 0⟩, 0, [], 0⟩, .slice none 0 0, .slice none 0 0⟩) (by simp [results, Tryd.results12, go_sem, actV, q6]) rfl ?_
    exact ⟨hb6, by simp [plainY, plainAct, plainOp, mdv, h5', show ¬ op.act = 1 by omega]⟩
theorem rPlain_any (x : ActV) (w : World) (hd : ∃ A n c, x.dv = .slice A n c) (hp : ∃ A n c, x.pv = .slice A n c) (hb : isActB x.d = true) :
    Calls Tryd.prog 12 #[actV x] w (RPlainPost w x) := by
  have h05 := isActB_act hb
  have hb' := hb
  unfold isActB at hb'
  simp only [Bool.and_eq_true, Bool.or_eq_true, Bool.not_eq_true', decide_eq_true_eq, decide_eq_false_iff_not] at hb'
  obtain ⟨⟨⟨_, hcl⟩, hop⟩, hpg⟩ := hb'
  obtain ⟨⟨a, cl, op, m, pages, lg⟩, dv, pv⟩ := x
  obtain ⟨A, n, c, e1⟩ := hd
  obtain ⟨A', n', c', e2⟩ := hp
  dsimp only at *
  subst e1 e2
  clear hb hpg hcl
  unfold actV
  dsimp only
  rcases (show a = 0 ∨ a = 1 ∨ a = 2 ∨ a = 3 ∨ a = 4 ∨ a = 5 by omega) with rfl | rfl | rfl | rfl | rfl | rfl
  · have hc := isCallB_range (hop.resolve_left (fun h => h rfl))
    exact rPlain_0 cl m lg op pages A A' n c n' c' w hc.1 hc.2
  · exact rPlain_1 cl m lg op pages A A' n c n' c' w
  · exact rPlain_2 cl m lg op pages A A' n c n' c' w
  · exact rPlain_3 cl m lg op pages A A' n c n' c' w
  · exact rPlain_4 cl m lg op pages A A' n c n' c' w
  · exact rPlain_5 cl m lg op pages A A' n c n' c' w
end Go.Proofs.YtgokkbocboonnaaDoor
