/-
  WALKS OF THE PROGRAM: what each operation does to a thing: model.read, write, create, drop, move; rules.
-/
import Derived.Test.YteidmdnhkgcnoaaGreatPB
import Derived.Test.YteidmdnhkgcnoaaGreatPD
namespace Go.Proofs.YteidmdnhkgcnoaaGreat
open Go.RowKit BigFrame

/-- What an operation makes of a thing: the thing then, the error, the cell that is told (P9.2). -/
def ruleD (t : Option CellD) (x : OpD) : Option CellD × Int × CellD :=
  if x.act = 0 then (match t with | none => (none, 5, cell0) | some c => (some c, 0, c))
  else if x.act = 1 then (if (t.any fun c => c.kind == 2) = true then (none, 6, cell0) else (some ⟨1, x.data, 0, 0, 0⟩, 0, cell0))
  else if x.act = 2 then (match t with | some _ => (none, 7, cell0) | none => (some ⟨2, [], x.lo, x.hi, x.n⟩, 0, cell0))
  else if x.act = 3 then (match t with | none => (none, 5, cell0) | some _ => (none, 0, cell0))
  else match t with
    | none => (none, 5, cell0)
    | some c => if c.kind ≠ 2 then (none, 6, cell0) else
        let v := if x.act = 5 then c.val - x.n else c.val + x.n
        if v < c.lo ∨ c.hi < v then (none, 8, cell0) else (some ⟨2, [], c.lo, c.hi, v⟩, 0, cell0)

def thingV (t : Option CellD) (v : Value) : Value := match t with | none => thing0 | some c => .agg #[.int .i64 c.kind, v, .int .i64 c.lo, .int .i64 c.hi, .int .i64 c.val, .bool true]
def ansC (er : Int) (cd : CellD) (av : Value) : Value := .agg #[.int .i64 er, .int .i64 cd.kind, av, .int .i64 cd.lo, .int .i64 cd.hi, .int .i64 cd.val]
def opC (x : OpD) (dv : Value) : Value := .agg #[.int .i64 x.act, .string x.key, dv, .int .i64 x.lo, .int .i64 x.hi, .int .i64 x.n]
/-- What a rule's call leaves. -/
def RulePost (w : World) (base : Nat) (r : Option CellD × Int × CellD) (e : Ending) (w' : World) : Prop :=
  ∃ A n c A' n' c', e = .returned (.tuple #[thingV r.1 (.slice A n c), ansC r.2.1 r.2.2 (.slice A' n' c')]) ∧ (∀ cd, r.1 = some cd → OwnB w' base (.slice A n c) cd.data) ∧ OwnB w' base (.slice A' n' c') r.2.2.data ∧ Below w.heap.size w w'

/-- Four new blocks, under a name of their own. -/
theorem gen4 {w : World} {c0 c1 c2 c3 : Array Value} {t0 t1 t2 t3 : TypeId} {R : World → Prop} (h : ∀ W, Blk W w.heap.size t0 c0 → Blk W (w.heap.size + 1) t1 c1 → Blk W (w.heap.size + 1 + 1) t2 c2 → Blk W (w.heap.size + 1 + 1 + 1) t3 c3 → Below w.heap.size w W → w.heap.size + 4 ≤ W.heap.size → R W) :
    R ((((w.alloc (.cells c0 t0)).alloc (.cells c1 t1)).alloc (.cells c2 t2)).alloc (.cells c3 t3)) := by
  have a0 := Blk.new w t0 c0
  have a1 : Blk ((w.alloc (.cells c0 t0)).alloc (.cells c1 t1)) (w.heap.size + 1) t1 c1 := by simpa using Blk.new (w.alloc (.cells c0 t0)) t1 c1
  have a2 : Blk (((w.alloc (.cells c0 t0)).alloc (.cells c1 t1)).alloc (.cells c2 t2)) (w.heap.size + 1 + 1) t2 c2 := by simpa using Blk.new ((w.alloc (.cells c0 t0)).alloc (.cells c1 t1)) t2 c2
  have a3 : Blk ((((w.alloc (.cells c0 t0)).alloc (.cells c1 t1)).alloc (.cells c2 t2)).alloc (.cells c3 t3)) (w.heap.size + 1 + 1 + 1) t3 c3 := by simpa using Blk.new (((w.alloc (.cells c0 t0)).alloc (.cells c1 t1)).alloc (.cells c2 t2)) t3 c3
  exact h _ (((a0.alloc _).alloc _).alloc _) ((a1.alloc _).alloc _) (a2.alloc _) a3 (((below2 w _ _).alloc (by simp; omega) _).alloc (by simp; omega) _) (by simp)

theorem SixC.of {w : World} {g : Nat} {t : TypeId} {a b c d e f : Value} (k : Blk w g t #[a, b, c, d, e, f]) : w.cell? ⟨g, 0, none⟩ = some a ∧ w.cell? ⟨g, 1, none⟩ = some b ∧ w.cell? ⟨g, 2, none⟩ = some c ∧ w.cell? ⟨g, 3, none⟩ = some d ∧ w.cell? ⟨g, 4, none⟩ = some e ∧ w.cell? ⟨g, 5, none⟩ = some f :=
  ⟨k.cell 0, k.cell 1, k.cell 2, k.cell 3, k.cell 4, k.cell 5⟩
/-- Six cells of one block, under stores elsewhere. -/
theorem SixC.touch {w w' : World} {g L H : Nat} {a b c d e f : Value} (ht : Touch L H w w') (hg : g < L) (h : w.cell? ⟨g, 0, none⟩ = some a ∧ w.cell? ⟨g, 1, none⟩ = some b ∧ w.cell? ⟨g, 2, none⟩ = some c ∧ w.cell? ⟨g, 3, none⟩ = some d ∧ w.cell? ⟨g, 4, none⟩ = some e ∧ w.cell? ⟨g, 5, none⟩ = some f) :
    w'.cell? ⟨g, 0, none⟩ = some a ∧ w'.cell? ⟨g, 1, none⟩ = some b ∧ w'.cell? ⟨g, 2, none⟩ = some c ∧ w'.cell? ⟨g, 3, none⟩ = some d ∧ w'.cell? ⟨g, 4, none⟩ = some e ∧ w'.cell? ⟨g, 5, none⟩ = some f := by
  have k : ∀ j, w'.cell? ⟨g, j, none⟩ = w.cell? ⟨g, j, none⟩ := fun j => World.cell?_of_block (ht.block g (.inl hg))
  simp only [k]
  exact h
theorem Touch.two {g i : Nat} {a w : World} (h : Touch g (g + 1 + 1) a w) (u : Value) : Touch g (g + 1 + 1) a (w.setCell ⟨g, i, none⟩ u) := h.set ⟨Nat.le_refl _, by dsimp only; omega⟩ u
theorem Touch.three {g i : Nat} {a w : World} (h : Touch g (g + 1 + 1) a w) (u : Value) : Touch g (g + 1 + 1) a (w.setCell ⟨g + 1, i, none⟩ u) := h.set ⟨by dsimp only; omega, by dsimp only; omega⟩ u
/-- A refusal: both results are stored. -/
theorem rule_err {w W w' : World} {base g : Nat} {er : Int} {r : Option CellD × Int × CellD} (hr : r = (none, er, cell0)) (hb : Below w.heap.size w W) (ht : Touch g (g + 1 + 1) W w') (hg : w.heap.size ≤ g) : RulePost w base r (.returned (.tuple #[thing0, ans0 er])) w' := by
  subst hr
  exact ⟨none, 0, 0, none, 0, 0, rfl, fun cd h => (by cases h), OwnB.nil _ _, ht.below hb hg⟩

set_option maxHeartbeats 400000 in
theorem drop_none (x : OpD) (A2 : Option Addr) (n2 c2 : Nat) (base : Nat) (w : World) (r : Option CellD × Int × CellD) (hr : r = (none, 5, cell0)) : Calls Tryz.prog 106 #[.agg #[.int .i64 0, .slice none 0 0, .int .i64 0, .int .i64 0, .int .i64 0, .bool false], .agg #[.int .i64 x.act, .string x.key, .slice A2 n2 c2, .int .i64 x.lo, .int .i64 x.hi, .int .i64 x.n]] w (RulePost w base r) := by
  have HRD := hide hr
  clear hr
  go_enter Tryz.func106, Tryz.ntmps106
  go_upto_region 1 with fail
  refine gen4 (fun W k0 k1 k2 k3 hbW hz => ?_)
  have p0 := k0.cell
  have p1 := k1.cell
  have p2 := k2.cell
  have p3 := k3.cell
  have p4 := k2.frozen
  have p5 := k3.frozen
  go_wp2_with (go_at_call 116; refine (refuse_any _ _).mono ?_; rintro e w1 ⟨rfl, hb1⟩; have r2 := (Blk.via hb1 k2).cell; have r3 := (Blk.via hb1 k3).cell; have r4 := (Blk.via hb1 k2).frozen; have r5 := (Blk.via hb1 k3).frozen)
  refine bodyPost_ret (v := .tuple #[thing0, ans0 5]) (by simp [results, Tryz.results106, go_sem, r2, r3, thing0, ans0]) rfl ?_
  exact rule_err (g := w.heap.size + 1 + 1) HRD.out (below_via hbW hb1 (by omega)) (by (repeat first | (with_reducible refine Touch.two ?_ _) | (with_reducible refine Touch.three ?_ _) | (with_reducible refine Touch.drew ?_)); exact Touch.refl _) (by omega)
set_option maxHeartbeats 400000 in
theorem drop_some (c : CellD) (A1 : Option Addr) (n1 c1 : Nat) (x : OpD) (A2 : Option Addr) (n2 c2 : Nat) (base : Nat) (w : World) (r : Option CellD × Int × CellD) (hr : r = (none, 0, cell0)) : Calls Tryz.prog 106 #[.agg #[.int .i64 c.kind, .slice A1 n1 c1, .int .i64 c.lo, .int .i64 c.hi, .int .i64 c.val, .bool true], .agg #[.int .i64 x.act, .string x.key, .slice A2 n2 c2, .int .i64 x.lo, .int .i64 x.hi, .int .i64 x.n]] w (RulePost w base r) := by
  have HRD := hide hr
  clear hr
  go_enter Tryz.func106, Tryz.ntmps106
  go_upto_region 1 with fail
  refine gen4 (fun W k0 k1 k2 k3 hbW hz => ?_)
  have p0 := k0.cell
  have p1 := k1.cell
  have p2 := k2.cell
  have p3 := k3.cell
  have p4 := k2.frozen
  have p5 := k3.frozen
  go_wp2
  refine bodyPost_ret (v := .tuple #[thing0, ans0 0]) (by simp [results, Tryz.results106, go_sem, p2, p3, thing0, ans0]) rfl ?_
  exact rule_err (g := w.heap.size + 1 + 1) HRD.out hbW (by (repeat first | (with_reducible refine Touch.two ?_ _) | (with_reducible refine Touch.three ?_ _) | (with_reducible refine Touch.drew ?_)); exact Touch.refl _) (by omega)
set_option maxHeartbeats 400000 in
theorem create_some (c : CellD) (A1 : Option Addr) (n1 c1 : Nat) (x : OpD) (A2 : Option Addr) (n2 c2 : Nat) (base : Nat) (w : World) (r : Option CellD × Int × CellD) (hr : r = (none, 7, cell0)) : Calls Tryz.prog 105 #[.agg #[.int .i64 c.kind, .slice A1 n1 c1, .int .i64 c.lo, .int .i64 c.hi, .int .i64 c.val, .bool true], .agg #[.int .i64 x.act, .string x.key, .slice A2 n2 c2, .int .i64 x.lo, .int .i64 x.hi, .int .i64 x.n]] w (RulePost w base r) := by
  have HRD := hide hr
  clear hr
  go_enter Tryz.func105, Tryz.ntmps105
  go_upto_region 1 with fail
  refine gen4 (fun W k0 k1 k2 k3 hbW hz => ?_)
  have p0 := k0.cell
  have p1 := k1.cell
  have p2 := k2.cell
  have p3 := k3.cell
  have p4 := k2.frozen
  have p5 := k3.frozen
  go_wp2_with (go_at_call 116; refine (refuse_any _ _).mono ?_; rintro e w1 ⟨rfl, hb1⟩; have r2 := (Blk.via hb1 k2).cell; have r3 := (Blk.via hb1 k3).cell; have r4 := (Blk.via hb1 k2).frozen; have r5 := (Blk.via hb1 k3).frozen)
  refine bodyPost_ret (v := .tuple #[thing0, ans0 7]) (by simp [results, Tryz.results105, go_sem, r2, r3, thing0, ans0]) rfl ?_
  exact rule_err (g := w.heap.size + 1 + 1) HRD.out (below_via hbW hb1 (by omega)) (by (repeat first | (with_reducible refine Touch.two ?_ _) | (with_reducible refine Touch.three ?_ _) | (with_reducible refine Touch.drew ?_)); exact Touch.refl _) (by omega)
set_option maxHeartbeats 400000 in
theorem create_none (x : OpD) (A2 : Option Addr) (n2 c2 : Nat) (base : Nat) (w : World) (r : Option CellD × Int × CellD) (hr : r = (some ⟨2, [], x.lo, x.hi, x.n⟩, 0, cell0)) : Calls Tryz.prog 105 #[.agg #[.int .i64 0, .slice none 0 0, .int .i64 0, .int .i64 0, .int .i64 0, .bool false], .agg #[.int .i64 x.act, .string x.key, .slice A2 n2 c2, .int .i64 x.lo, .int .i64 x.hi, .int .i64 x.n]] w (RulePost w base r) := by
  have HRD := hide hr
  clear hr
  go_enter Tryz.func105, Tryz.ntmps105
  go_upto_region 1 with fail
  refine gen4 (fun W k0 k1 k2 k3 hbW hz => ?_)
  have p0 := k0.cell
  have p1 := k1.cell
  have p2 := k2.cell
  have p3 := k3.cell
  have p4 := k2.frozen
  have p5 := k3.frozen
  go_wp2_with (go_at_call 117; refine (counter_any _ _ _ _).mono ?_; rintro e w1 ⟨rfl, hb1⟩; have r2 := (Blk.via hb1 k2).cell; have r3 := (Blk.via hb1 k3).cell; have r4 := (Blk.via hb1 k2).frozen; have r5 := (Blk.via hb1 k3).frozen)
  refine bodyPost_ret (v := .tuple #[.agg #[.int .i64 2, .slice none 0 0, .int .i64 x.lo, .int .i64 x.hi, .int .i64 x.n, .bool true], ans0 0]) (by simp [results, Tryz.results105, go_sem, r2, r3, ans0]) rfl ?_
  rw [HRD.out]
  exact ⟨none, 0, 0, none, 0, 0, rfl, fun cd h => (by injection h with h; subst h; exact OwnB.nil _ _), OwnB.nil _ _, Touch.below (L := w.heap.size + 1 + 1) (H := w.heap.size + 1 + 1 + 1 + 1) (w := w1) (by (repeat first | (with_reducible refine Touch.two ?_ _) | (with_reducible refine Touch.three ?_ _) | (with_reducible refine Touch.drew ?_)); exact Touch.refl _) (below_via hbW hb1 (by omega)) (by omega)⟩
set_option maxHeartbeats 400000 in
theorem write_no (c : CellD) (A1 : Option Addr) (n1 c1 : Nat) (x : OpD) (A2 : Option Addr) (n2 c2 : Nat) (base : Nat) (w : World) (r : Option CellD × Int × CellD) (hk : (c.kind == 2) = true) (hr : r = (none, 6, cell0)) : Calls Tryz.prog 104 #[.agg #[.int .i64 c.kind, .slice A1 n1 c1, .int .i64 c.lo, .int .i64 c.hi, .int .i64 c.val, .bool true], .agg #[.int .i64 x.act, .string x.key, .slice A2 n2 c2, .int .i64 x.lo, .int .i64 x.hi, .int .i64 x.n]] w (RulePost w base r) := by
  have HRD := hide hr
  clear hr
  go_enter Tryz.func104, Tryz.ntmps104
  go_upto_region 1 with fail
  refine gen4 (fun W k0 k1 k2 k3 hbW hz => ?_)
  have p0 := k0.cell
  have p1 := k1.cell
  have p2 := k2.cell
  have p3 := k3.cell
  have p4 := k2.frozen
  have p5 := k3.frozen
  go_wp2_with (go_at_call 116; refine (refuse_any _ _).mono ?_; rintro e w1 ⟨rfl, hb1⟩; have r2 := (Blk.via hb1 k2).cell; have r3 := (Blk.via hb1 k3).cell; have r4 := (Blk.via hb1 k2).frozen; have r5 := (Blk.via hb1 k3).frozen)
  refine bodyPost_ret (v := .tuple #[thing0, ans0 6]) (by simp [results, Tryz.results104, go_sem, r2, r3, thing0, ans0]) rfl ?_
  exact rule_err (g := w.heap.size + 1 + 1) HRD.out (below_via hbW hb1 (by omega)) (by (repeat first | (with_reducible refine Touch.two ?_ _) | (with_reducible refine Touch.three ?_ _) | (with_reducible refine Touch.drew ?_)); exact Touch.refl _) (by omega)
set_option maxHeartbeats 400000 in
theorem write_none (x : OpD) (A2 : Option Addr) (n2 c2 : Nat) (base : Nat) (w : World) (r : Option CellD × Int × CellD) (B : Nat) (hB : B ≤ w.heap.size) (hbase : base ≤ w.heap.size) (hn : x.data.length ≤ 1000000) (h : BytesAt w B (.slice A2 n2 c2) x.data) (hr : r = (some ⟨1, x.data, 0, 0, 0⟩, 0, cell0)) : Calls Tryz.prog 104 #[.agg #[.int .i64 0, .slice none 0 0, .int .i64 0, .int .i64 0, .int .i64 0, .bool false], .agg #[.int .i64 x.act, .string x.key, .slice A2 n2 c2, .int .i64 x.lo, .int .i64 x.hi, .int .i64 x.n]] w (RulePost w base r) := by
  have HRD := hide hr
  clear hr
  go_enter Tryz.func104, Tryz.ntmps104
  go_upto_region 1 with fail
  refine gen4 (fun W k0 k1 k2 k3 hbW hz => ?_)
  have p0 := k0.cell
  have p1 := k1.cell
  have p2 := k2.cell
  have p3 := k3.cell
  have p4 := k2.frozen
  have p5 := k3.frozen
  go_wp2_with (go_at_call 98; refine (copyData_any _ x.data B _ hn (h.below hbW hB)).mono ?_; rintro e w1 ⟨A', n', c', rfl, ho, hb1⟩; have r2 := (Blk.via hb1 k2).cell; have r3 := (Blk.via hb1 k3).cell; have r4 := (Blk.via hb1 k2).frozen; have r5 := (Blk.via hb1 k3).frozen)
  refine bodyPost_ret (v := .tuple #[.agg #[.int .i64 1, .slice A' n' c', .int .i64 0, .int .i64 0, .int .i64 0, .bool true], ans0 0]) (by simp [results, Tryz.results104, go_sem, r2, r3, ans0]) rfl ?_
  rw [HRD.out]
  refine ⟨A', n', c', none, 0, 0, rfl, fun cd h => ?_, OwnB.nil _ _, Touch.below (L := w.heap.size + 1 + 1) (H := w.heap.size + 1 + 1 + 1 + 1) (w := w1) (by (repeat first | (with_reducible refine Touch.two ?_ _) | (with_reducible refine Touch.three ?_ _) | (with_reducible refine Touch.drew ?_)); exact Touch.refl _) (below_via hbW hb1 (by omega)) (by omega)⟩
  have hcd : (⟨1, x.data, 0, 0, 0⟩ : CellD) = cd := Option.some.inj h
  rw [← hcd]
  exact (ho.touch (L := w.heap.size + 1 + 1) (H := w.heap.size + 1 + 1 + 1 + 1) (by (repeat first | (with_reducible refine Touch.two ?_ _) | (with_reducible refine Touch.three ?_ _) | (with_reducible refine Touch.drew ?_)); exact Touch.refl _) (by omega)).low (by omega)
set_option maxHeartbeats 400000 in
theorem write_some (c : CellD) (A1 : Option Addr) (n1 c1 : Nat) (x : OpD) (A2 : Option Addr) (n2 c2 : Nat) (base : Nat) (w : World) (r : Option CellD × Int × CellD) (hk : (c.kind == 2) = false) (B : Nat) (hB : B ≤ w.heap.size) (hbase : base ≤ w.heap.size) (hn : x.data.length ≤ 1000000) (h : BytesAt w B (.slice A2 n2 c2) x.data) (hr : r = (some ⟨1, x.data, 0, 0, 0⟩, 0, cell0)) : Calls Tryz.prog 104 #[.agg #[.int .i64 c.kind, .slice A1 n1 c1, .int .i64 c.lo, .int .i64 c.hi, .int .i64 c.val, .bool true], .agg #[.int .i64 x.act, .string x.key, .slice A2 n2 c2, .int .i64 x.lo, .int .i64 x.hi, .int .i64 x.n]] w (RulePost w base r) := by
  have HRD := hide hr
  clear hr
  go_enter Tryz.func104, Tryz.ntmps104
  go_upto_region 1 with fail
  refine gen4 (fun W k0 k1 k2 k3 hbW hz => ?_)
  have p0 := k0.cell
  have p1 := k1.cell
  have p2 := k2.cell
  have p3 := k3.cell
  have p4 := k2.frozen
  have p5 := k3.frozen
  go_wp2_with (go_at_call 98; refine (copyData_any _ x.data B _ hn (h.below hbW hB)).mono ?_; rintro e w1 ⟨A', n', c', rfl, ho, hb1⟩; have r2 := (Blk.via hb1 k2).cell; have r3 := (Blk.via hb1 k3).cell; have r4 := (Blk.via hb1 k2).frozen; have r5 := (Blk.via hb1 k3).frozen)
  refine bodyPost_ret (v := .tuple #[.agg #[.int .i64 1, .slice A' n' c', .int .i64 0, .int .i64 0, .int .i64 0, .bool true], ans0 0]) (by simp [results, Tryz.results104, go_sem, r2, r3, ans0]) rfl ?_
  rw [HRD.out]
  refine ⟨A', n', c', none, 0, 0, rfl, fun cd h => ?_, OwnB.nil _ _, Touch.below (L := w.heap.size + 1 + 1) (H := w.heap.size + 1 + 1 + 1 + 1) (w := w1) (by (repeat first | (with_reducible refine Touch.two ?_ _) | (with_reducible refine Touch.three ?_ _) | (with_reducible refine Touch.drew ?_)); exact Touch.refl _) (below_via hbW hb1 (by omega)) (by omega)⟩
  have hcd : (⟨1, x.data, 0, 0, 0⟩ : CellD) = cd := Option.some.inj h
  rw [← hcd]
  exact (ho.touch (L := w.heap.size + 1 + 1) (H := w.heap.size + 1 + 1 + 1 + 1) (by (repeat first | (with_reducible refine Touch.two ?_ _) | (with_reducible refine Touch.three ?_ _) | (with_reducible refine Touch.drew ?_)); exact Touch.refl _) (by omega)).low (by omega)
set_option maxHeartbeats 400000 in
theorem read_none (x : OpD) (A2 : Option Addr) (n2 c2 : Nat) (base : Nat) (w : World) (r : Option CellD × Int × CellD) (hr : r = (none, 5, cell0)) : Calls Tryz.prog 103 #[.agg #[.int .i64 0, .slice none 0 0, .int .i64 0, .int .i64 0, .int .i64 0, .bool false], .agg #[.int .i64 x.act, .string x.key, .slice A2 n2 c2, .int .i64 x.lo, .int .i64 x.hi, .int .i64 x.n]] w (RulePost w base r) := by
  have HRD := hide hr
  clear hr
  go_enter Tryz.func103, Tryz.ntmps103
  go_upto_region 1 with fail
  refine gen4 (fun W k0 k1 k2 k3 hbW hz => ?_)
  have p0 := k0.cell
  have p1 := k1.cell
  have p2 := k2.cell
  have p3 := k3.cell
  have p4 := k2.frozen
  have p5 := k3.frozen
  go_wp2_with (go_at_call 116; refine (refuse_any _ _).mono ?_; rintro e w1 ⟨rfl, hb1⟩; have r2 := (Blk.via hb1 k2).cell; have r3 := (Blk.via hb1 k3).cell; have r4 := (Blk.via hb1 k2).frozen; have r5 := (Blk.via hb1 k3).frozen)
  refine bodyPost_ret (v := .tuple #[thing0, ans0 5]) (by simp [results, Tryz.results103, go_sem, r2, r3, thing0, ans0]) rfl ?_
  exact rule_err (g := w.heap.size + 1 + 1) HRD.out (below_via hbW hb1 (by omega)) (by (repeat first | (with_reducible refine Touch.two ?_ _) | (with_reducible refine Touch.three ?_ _) | (with_reducible refine Touch.drew ?_)); exact Touch.refl _) (by omega)
set_option maxHeartbeats 400000 in
theorem read_some (c : CellD) (A1 : Option Addr) (n1 c1 : Nat) (x : OpD) (A2 : Option Addr) (n2 c2 : Nat) (base : Nat) (w : World) (r : Option CellD × Int × CellD) (hbase : base ≤ w.heap.size) (hn : c.data.length ≤ 1000000) (h : OwnB w base (.slice A1 n1 c1) c.data) (hr : r = (some c, 0, c)) : Calls Tryz.prog 103 #[.agg #[.int .i64 c.kind, .slice A1 n1 c1, .int .i64 c.lo, .int .i64 c.hi, .int .i64 c.val, .bool true], .agg #[.int .i64 x.act, .string x.key, .slice A2 n2 c2, .int .i64 x.lo, .int .i64 x.hi, .int .i64 x.n]] w (RulePost w base r) := by
  have HRD := hide hr
  clear hr
  go_enter Tryz.func103, Tryz.ntmps103
  go_upto_region 1 with fail
  refine gen4 (fun W k0 k1 k2 k3 hbW hz => ?_)
  have p0 := k0.cell
  have p1 := k1.cell
  have p2 := k2.cell
  have p3 := k3.cell
  have p4 := k2.frozen
  have p5 := k3.frozen
  go_wp2
  have j0 := k0.drew
  have j2 := k2.drew
  have j3 := k3.drew
  have jb := hbW.drew
  have jz : w.heap.size + 4 ≤ W.drew.heap.size := hz
  have jh : BytesAt W.drew W.drew.heap.size (.slice A1 n1 c1) c.data := BytesAt.below (C := W.heap.size) (h.via hbW).bytes (Below.refl _ _).drew (Nat.le_refl _)
  clear p0 p1 p2 p3 p4 p5
  go_region_held3 (fun w' => w'.cell? ⟨w.heap.size, 0, none⟩ = some (.int .i64 c.kind) ∧ w'.cell? ⟨w.heap.size, 1, none⟩ = some (.slice A1 n1 c1) ∧ w'.cell? ⟨w.heap.size, 2, none⟩ = some (.int .i64 c.lo) ∧ w'.cell? ⟨w.heap.size, 3, none⟩ = some (.int .i64 c.hi) ∧ w'.cell? ⟨w.heap.size, 4, none⟩ = some (.int .i64 c.val) ∧ w'.cell? ⟨w.heap.size, 5, none⟩ = some (.bool true))
    (first | (with_reducible exact SixC.of (t := 122) (by assumption)) | exact SixC.touch (L := w.heap.size + 1 + 1) (H := w.heap.size + 1 + 1 + 1 + 1) (w := w1) (by (repeat first | (with_reducible refine Touch.two ?_ _) | (with_reducible refine Touch.three ?_ _) | (with_reducible refine Touch.drew ?_)); exact Touch.refl _) (by omega) (SixC.of j0'))
    ((go_at_call 81; refine (copyCell_any c A1 n1 c1 W.drew.heap.size W.drew (Nat.le_refl _) hn jh).mono ?_; rintro e w1 ⟨A', n', c', rfl, ho, hb1⟩; have j0' := Blk.via hb1 j0; have r2 := (Blk.via hb1 j2).cell; have r3 := (Blk.via hb1 j3).cell; have r4 := (Blk.via hb1 j2).frozen; have r5 := (Blk.via hb1 j3).frozen))
  go_wp2
  refine bodyPost_ret (v := .tuple #[.agg #[.int .i64 c.kind, .slice A1 n1 c1, .int .i64 c.lo, .int .i64 c.hi, .int .i64 c.val, .bool true], .agg #[.int .i64 0, .int .i64 c.kind, .slice A' n' c', .int .i64 c.lo, .int .i64 c.hi, .int .i64 c.val]]) (by simp [results, Tryz.results103, go_sem, r2, r3]) rfl ?_
  rw [HRD.out]
  have hb01 := below_via jb hb1 (by omega)
  refine ⟨A1, n1, c1, A', n', c', rfl, fun cd hh => ?_, ?_, Touch.below (L := w.heap.size + 1 + 1) (H := w.heap.size + 1 + 1 + 1 + 1) (w := w1) (by (repeat first | (with_reducible refine Touch.two ?_ _) | (with_reducible refine Touch.three ?_ _) | (with_reducible refine Touch.drew ?_)); exact Touch.refl _) hb01 (by omega)⟩
  · have hcd : c = cd := Option.some.inj hh
    rw [← hcd]
    exact (h.via hb01).keep (fun q hq => Touch.block (L := w.heap.size + 1 + 1) (H := w.heap.size + 1 + 1 + 1 + 1) (by (repeat first | (with_reducible refine Touch.two ?_ _) | (with_reducible refine Touch.three ?_ _) | (with_reducible refine Touch.drew ?_)); exact Touch.refl _) q (.inl (by have := (h.lt q hq).2; omega)))
  · exact (ho.touch (L := w.heap.size + 1 + 1) (H := w.heap.size + 1 + 1 + 1 + 1) (by (repeat first | (with_reducible refine Touch.two ?_ _) | (with_reducible refine Touch.three ?_ _) | (with_reducible refine Touch.drew ?_)); exact Touch.refl _) jz).low (by omega)
end Go.Proofs.YteidmdnhkgcnoaaGreat
