/-
  WALKS OF THE REFERENCES: moneyerref09.Plain, moneyerref31.Plain.
-/
import Derived.Test.YtgokkbocboonnaaDoorAS
import Derived.Test.YtgokkbocboonnaaDoorAP
namespace Go.Proofs.YtgokkbocboonnaaDoor
open Go.RowKit Go.Lib

/-- The bytes that count of an operation's. -/
def mdv (a : Int) (v : Value) : Value := if a = 1 then v else .slice none 0 0
def MPlainPost (w : World) (x : OpD) (v : Value) (e : Ending) (w' : World) : Prop :=
  Below w.heap.size w w' ∧ ∃ A n c, e = .returned (opV (plainOp x) (.slice A n c)) ∧ .slice A n c = mdv x.act v
set_option maxHeartbeats 3200000 in
theorem mPlain_any (x : OpD) (A : Option Addr) (n c : Nat) (w : World) (h0 : 0 ≤ x.act) (h5 : x.act ≤ 5) :
    Calls Tryd.prog 27 #[.agg #[.int .i64 x.act, .string x.key, .slice A n c, .int .i64 x.lo, .int .i64 x.hi, .int .i64 x.n]] w (MPlainPost w x (.slice A n c)) := by
  obtain ⟨act, key, data, lo, hi, nn⟩ := x
  dsimp only at *
  rcases (show act = 0 ∨ act = 1 ∨ act = 2 ∨ act = 3 ∨ act = 4 ∨ act = 5 by omega) with rfl | rfl | rfl | rfl | rfl | rfl
  · go_enter Tryd.func27, Tryd.ntmps27
    go_wp2
    refine bodyPost_ret (v := opV ⟨0, key, [], 0, 0, 0⟩ (.slice none 0 0)) (by simp [results, Tryd.results27, go_sem, opV]) rfl ?_
    exact ⟨(below2 _ _ _).alloc (by simp; omega) _, _, _, _, rfl, rfl⟩
  · go_enter Tryd.func27, Tryd.ntmps27
    go_wp2
    refine bodyPost_ret (v := opV ⟨1, key, data, 0, 0, 0⟩ (.slice A n c)) (by simp [results, Tryd.results27, go_sem, opV]) rfl ?_
    exact ⟨(below2 _ _ _).alloc (by simp; omega) _, _, _, _, rfl, rfl⟩
  · go_enter Tryd.func27, Tryd.ntmps27
    go_wp2
    go_region
    go_wp2
    refine bodyPost_ret (v := opV ⟨2, key, [], lo, hi, nn⟩ (.slice none 0 0)) (by simp [results, Tryd.results27, go_sem, opV]) rfl ?_
    exact ⟨((below2 _ _ _).alloc (by simp; omega) _).drew, _, _, _, rfl, rfl⟩
  · go_enter Tryd.func27, Tryd.ntmps27
    go_wp2
    refine bodyPost_ret (v := opV ⟨3, key, [], 0, 0, 0⟩ (.slice none 0 0)) (by simp [results, Tryd.results27, go_sem, opV]) rfl ?_
    exact ⟨(below2 _ _ _).alloc (by simp; omega) _, _, _, _, rfl, rfl⟩
  · go_enter Tryd.func27, Tryd.ntmps27
    go_wp2
    refine bodyPost_ret (v := opV ⟨4, key, [], 0, 0, nn⟩ (.slice none 0 0)) (by simp [results, Tryd.results27, go_sem, opV]) rfl ?_
    exact ⟨(below2 _ _ _).alloc (by simp; omega) _, _, _, _, rfl, rfl⟩
  · go_enter Tryd.func27, Tryd.ntmps27
    go_wp2
    refine bodyPost_ret (v := opV ⟨5, key, [], 0, 0, nn⟩ (.slice none 0 0)) (by simp [results, Tryd.results27, go_sem, opV]) rfl ?_
    exact ⟨(below2 _ _ _).alloc (by simp; omega) _, _, _, _, rfl, rfl⟩
theorem mPlain6_any (x : OpD) (A : Option Addr) (n c : Nat) (w : World) (h5 : 5 < x.act) :
    Calls Tryd.prog 27 #[.agg #[.int .i64 x.act, .string x.key, .slice A n c, .int .i64 x.lo, .int .i64 x.hi, .int .i64 x.n]] w fun e w' => e = .returned (.agg #[.int .i64 x.act, .string x.key, .slice none 0 0, .int .i64 0, .int .i64 0, .int .i64 0]) ∧ Below w.heap.size w w' := by
  obtain ⟨act, key, data, lo, hi, nn⟩ := x
  dsimp only at *
  have b1 : ((act : Int) == 1) = false := by simp; omega
  have b2 : ((act : Int) == 2) = false := by simp; omega
  have b4 : ((act : Int) == 4) = false := by simp; omega
  have b5 : ((act : Int) == 5) = false := by simp; omega
  go_enter Tryd.func27, Tryd.ntmps27
  go_wp2
  refine bodyPost_ret (v := .agg #[.int .i64 act, .string key, .slice none 0 0, .int .i64 0, .int .i64 0, .int .i64 0]) (by simp [results, Tryd.results27, go_sem]) rfl ?_
  exact ⟨rfl, (below2 _ _ _).alloc (by simp; omega) _⟩
/-- What counts of an act, in memory. -/
def plainY (x : ActV) : ActV := ⟨plainAct x.d, if x.d.act = 0 then mdv x.d.op.act x.dv else .slice none 0 0, if x.d.act = 4 then x.pv else .slice none 0 0⟩
/-- What moneyerref31.Plain tells. -/
def RPlainPost (w : World) (x : ActV) (e : Ending) (w' : World) : Prop :=
  Below w.heap.size w w' ∧ e = .returned (actV (plainY x))
theorem plainY_ok {w : World} {B : Nat} {x : ActV} (h : ActOk w B x) : ActOk w B (plainY x) := by
  obtain ⟨h1, h2⟩ := h
  have hn : IntsAt w B (.slice none 0 0) [] := ⟨none, 0, rfl, Nat.le_refl _, rfl, Reads.none_⟩
  refine ⟨?_, ?_⟩
  · unfold plainY plainAct
    dsimp only
    by_cases a0 : x.d.act = 0
    · rw [if_pos a0, if_pos a0]
      unfold mdv plainOp
      by_cases o1 : x.d.op.act = 1
      · rw [if_pos o1, if_neg (by omega), if_pos o1]
        exact h1
      · rw [if_neg o1]
        repeat' split
        all_goals exact bytes_nil _ _
    · rw [if_neg a0, if_neg a0]
      exact bytes_nil _ _
  · unfold plainY plainAct
    dsimp only
    split
    · exact h2
    · exact hn
set_option maxHeartbeats 1600000 in
theorem rPlain_1 (cl m lg : Int) (op : OpD) (pages : List Int) (A A' : Option Addr) (n c n' c' : Nat) (w : World) :
    Calls Tryd.prog 12 #[.agg #[.int .i64 1, .int .i64 cl, .int .i64 op.act, .string op.key, .slice A n c, .int .i64 op.lo, .int .i64 op.hi, .int .i64 op.n, .int .i64 m, .slice A' n' c', .int .i64 lg]] w (RPlainPost w ⟨⟨1, cl, op, m, pages, lg⟩, .slice A n c, .slice A' n' c'⟩) := by
  go_enter Tryd.func12, Tryd.ntmps12
  go_wp2
  refine bodyPost_ret (v := actV ⟨plainAct ⟨1, cl, op, m, pages, lg⟩, .slice none 0 0, .slice none 0 0⟩) (by simp [results, Tryd.results12, go_sem, actV, plainAct, op00]) rfl ?_
  exact ⟨(below2 _ _ _).alloc (by simp; omega) _, rfl⟩
set_option maxHeartbeats 1600000 in
theorem rPlain_2 (cl m lg : Int) (op : OpD) (pages : List Int) (A A' : Option Addr) (n c n' c' : Nat) (w : World) :
    Calls Tryd.prog 12 #[.agg #[.int .i64 2, .int .i64 cl, .int .i64 op.act, .string op.key, .slice A n c, .int .i64 op.lo, .int .i64 op.hi, .int .i64 op.n, .int .i64 m, .slice A' n' c', .int .i64 lg]] w (RPlainPost w ⟨⟨2, cl, op, m, pages, lg⟩, .slice A n c, .slice A' n' c'⟩) := by
  go_enter Tryd.func12, Tryd.ntmps12
  go_wp2
  refine bodyPost_ret (v := actV ⟨plainAct ⟨2, cl, op, m, pages, lg⟩, .slice none 0 0, .slice none 0 0⟩) (by simp [results, Tryd.results12, go_sem, actV, plainAct, op00]) rfl ?_
  exact ⟨(below2 _ _ _).alloc (by simp; omega) _, rfl⟩
set_option maxHeartbeats 1600000 in
theorem rPlain_3 (cl m lg : Int) (op : OpD) (pages : List Int) (A A' : Option Addr) (n c n' c' : Nat) (w : World) :
    Calls Tryd.prog 12 #[.agg #[.int .i64 3, .int .i64 cl, .int .i64 op.act, .string op.key, .slice A n c, .int .i64 op.lo, .int .i64 op.hi, .int .i64 op.n, .int .i64 m, .slice A' n' c', .int .i64 lg]] w (RPlainPost w ⟨⟨3, cl, op, m, pages, lg⟩, .slice A n c, .slice A' n' c'⟩) := by
  go_enter Tryd.func12, Tryd.ntmps12
  go_wp2
  refine bodyPost_ret (v := actV ⟨plainAct ⟨3, cl, op, m, pages, lg⟩, .slice none 0 0, .slice none 0 0⟩) (by simp [results, Tryd.results12, go_sem, actV, plainAct, op00]) rfl ?_
  exact ⟨(below2 _ _ _).alloc (by simp; omega) _, rfl⟩
set_option maxHeartbeats 1600000 in
theorem rPlain_4 (cl m lg : Int) (op : OpD) (pages : List Int) (A A' : Option Addr) (n c n' c' : Nat) (w : World) :
    Calls Tryd.prog 12 #[.agg #[.int .i64 4, .int .i64 cl, .int .i64 op.act, .string op.key, .slice A n c, .int .i64 op.lo, .int .i64 op.hi, .int .i64 op.n, .int .i64 m, .slice A' n' c', .int .i64 lg]] w (RPlainPost w ⟨⟨4, cl, op, m, pages, lg⟩, .slice A n c, .slice A' n' c'⟩) := by
  go_enter Tryd.func12, Tryd.ntmps12
  go_wp2
  refine bodyPost_ret (v := actV ⟨plainAct ⟨4, cl, op, m, pages, lg⟩, .slice none 0 0, .slice A' n' c'⟩) (by simp [results, Tryd.results12, go_sem, actV, plainAct, op00]) rfl ?_
  exact ⟨(below2 _ _ _).alloc (by simp; omega) _, rfl⟩
set_option maxHeartbeats 1600000 in
theorem rPlain_5 (cl m lg : Int) (op : OpD) (pages : List Int) (A A' : Option Addr) (n c n' c' : Nat) (w : World) :
    Calls Tryd.prog 12 #[.agg #[.int .i64 5, .int .i64 cl, .int .i64 op.act, .string op.key, .slice A n c, .int .i64 op.lo, .int .i64 op.hi, .int .i64 op.n, .int .i64 m, .slice A' n' c', .int .i64 lg]] w (RPlainPost w ⟨⟨5, cl, op, m, pages, lg⟩, .slice A n c, .slice A' n' c'⟩) := by
  go_enter Tryd.func12, Tryd.ntmps12
  go_wp2
  refine bodyPost_ret (v := actV ⟨plainAct ⟨5, cl, op, m, pages, lg⟩, .slice none 0 0, .slice none 0 0⟩) (by simp [results, Tryd.results12, go_sem, actV, plainAct, op00]) rfl ?_
  exact ⟨(below2 _ _ _).alloc (by simp; omega) _, rfl⟩
theorem gen3b {w : World} {c0 c1 c2 : Array Value} {t0 t1 t2 : TypeId} {R : World → Prop} (h : ∀ W, Blk W w.heap.size t0 c0 → Blk W (w.heap.size + 1) t1 c1 → Blk W (w.heap.size + 1 + 1) t2 c2 → Below w.heap.size w W → w.heap.size + 1 + 1 < W.heap.size → R W) :
    R (((w.alloc (.cells c0 t0)).alloc (.cells c1 t1)).alloc (.cells c2 t2)) := by
  refine h _ (((Blk.new w t0 c0).alloc _).alloc _) ?_ ?_ ?_ (by simp)
  · exact ((by simpa using Blk.new (w.alloc (.cells c0 t0)) t1 c1 : Blk _ (w.heap.size + 1) t1 c1).alloc _)
  · exact (by simpa using Blk.new ((w.alloc (.cells c0 t0)).alloc (.cells c1 t1)) t2 c2 : Blk _ (w.heap.size + 1 + 1) t2 c2)
  · exact (((Below.refl _ _).alloc (Nat.le_refl _) _).alloc (by simp) _).alloc (by simp; omega) _
end Go.Proofs.YtgokkbocboonnaaDoor
