/-
  EPOCHS AS DATA, AND HOW OFTEN WHAT HAPPENED (P40.2): plain. Walk: report.add.
-/
import Derived.Test.YtkhckehecnobjaaDoorSK
namespace Go.Proofs.YtkhckehecnobjaaDoor
open Go.RowKit

structure EpV where
  bv : Value
  ev : Value
  xs : List EvV
def EpV.cells (x : EpV) : List Value := [x.bv, x.ev]
theorem EpV.cells_length (x : EpV) : x.cells.length = 2 := rfl
def EpOk (w : World) (B : Nat) (x : EpV) : Prop := (∃ A n c, x.bv = .slice A n c) ∧ ∃ (A : Option Addr) (n c : Nat), x.ev = .slice A n c ∧ n ≤ 9223372036854775807 ∧ Evs w B A n x.xs
theorem EpOk.below {w w' : World} {B C : Nat} {x : EpV} (h : EpOk w B x) (hb : Below C w w') (hC : B ≤ C) : EpOk w' B x := by
  obtain ⟨h1, A, n, c, h2, h3, h4⟩ := h
  exact ⟨h1, A, n, c, h2, h3, h4.below hb hC⟩
/-- The slice '.slice A n c' holds the Epochs es; all of it lies below B. -/
def Eps (w : World) (B : Nat) (A : Option Addr) (n : Nat) (es : List EpV) : Prop :=
  n = es.length ∧ Reads w B 2 A n (es.flatMap EpV.cells) ∧ ∀ x ∈ es, EpOk w B x
section
variable {w w' : World} {B B' C n : Nat} {A : Option Addr} {es : List EpV}
theorem Eps.below (h : Eps w B A n es) (hb : Below C w w') (hC : B ≤ C) : Eps w' B A n es := ⟨h.1, h.2.1.below hb hC, fun x hx => (h.2.2 x hx).below hb hC⟩
theorem Eps.at_ {k : Nat} (h : Eps w B A n es) (hk : k < n) : ∃ b o x, A = some ⟨b, o, none⟩ ∧ b < B ∧ es[k]? = some x ∧ EpOk w B x ∧ w.cell? ⟨b, o + k * 2, none⟩ = some x.bv ∧ w.cell? ⟨b, o + k * 2 + 1, none⟩ = some x.ev := by
  obtain ⟨rfl, hr, hok⟩ := h
  obtain ⟨b, o, e, hb, hc⟩ := hr.plain (by omega) (by omega)
  have hat : ∀ j u, (es[k]).cells[j]? = some u → w.cell? ⟨b, o + k * 2 + j, none⟩ = some u := fun j u hu => by
    have hj : j < 2 := by
      have := (List.getElem?_eq_some_iff.1 hu).1
      rwa [EpV.cells_length] at this
    rw [Nat.add_assoc]
    refine hc _ u ?_
    rw [flat_at _ 2 EpV.cells_length _ _ _ hj, List.getElem?_eq_getElem hk]
    exact hu
  exact ⟨b, o, es[k], e, hb, List.getElem?_eq_getElem hk, hok _ (List.getElem_mem _), hat 0 _ rfl, hat 1 _ rfl⟩
end
/-- All events, one epoch behind the other. -/
def evsOf (es : List EpV) : List EvD := es.flatMap fun e => e.xs.map EvV.d
theorem evsOf_snoc {es : List EpV} {k : Nat} {x : EpV} (h : es[k]? = some x) : evsOf (es.take (k + 1)) = evsOf (es.take k) ++ x.xs.map EvV.d := by
  obtain ⟨hk, e⟩ := List.getElem?_eq_some_iff.1 h
  rw [List.take_succ_eq_append_getElem hk, e]
  simp [evsOf]
theorem evsOf_len {es : List EpV} (h : ∀ x ∈ es, x.xs.length ≤ 1000) : (evsOf es).length ≤ 1000 * es.length := by
  induction es with
  | nil => simp [evsOf]
  | cons a t ih =>
    have h1 := h a (by simp)
    have h2 := ih (fun x hx => h x (by simp [hx]))
    unfold evsOf at h2 ⊢
    simp only [List.flatMap_cons, List.length_append, List.length_map, List.length_cons] at h2 ⊢
    omega
theorem ev_snoc {xs : List EvV} {k : Nat} {x : EvV} (h : xs[k]? = some x) : (xs.take (k + 1)).map EvV.d = (xs.take k).map EvV.d ++ [x.d] := by
  obtain ⟨hk, e⟩ := List.getElem?_eq_some_iff.1 h
  rw [List.take_succ_eq_append_getElem hk, e]
  simp

structure RepD where
  epochs : Int
  begun : Int
  committed : Int
  aborted : Int
  deadlocks : Int
  ops : Int
  refused : Int
def repCells (r : RepD) : Array Value := #[.int .i64 r.epochs, .int .i64 r.begun, .int .i64 r.committed, .int .i64 r.aborted, .int .i64 r.deadlocks, .int .i64 r.ops, .int .i64 r.refused]
def isB (x : EvD) : Bool := decide (x.act = 0)
def isE (x : EvD) : Bool := decide (x.act = 3)
def isA (x : EvD) : Bool := decide (x.act = 4)
def isD (x : EvD) : Bool := decide (x.act = 4) && decide (x.err = 10)
def isO (x : EvD) : Bool := decide (x.act = 1)
def isR (x : EvD) : Bool := decide (x.act = 1) && !decide (x.err = 0)
/-- P40.2: how often what happened. -/
def tally (k : Int) (l : List EvD) : RepD := ⟨k, l.countP isB, l.countP isE, l.countP isA, l.countP isD, l.countP isO, l.countP isR⟩
def b2i (b : Bool) : Int := if b = true then 1 else 0
def addR (r : RepD) (x : EvD) : RepD := ⟨r.epochs, r.begun + b2i (isB x), r.committed + b2i (isE x), r.aborted + b2i (isA x), r.deadlocks + b2i (isD x), r.ops + b2i (isO x), r.refused + b2i (isR x)⟩
theorem countP_snoc {α : Type} (p : α → Bool) (l : List α) (x : α) : ((l ++ [x]).countP p : Int) = l.countP p + b2i (p x) := by
  rw [List.countP_append]
  cases h : p x <;> simp [h, b2i]
theorem addR_tally (k : Int) (l : List EvD) (x : EvD) : addR (tally k l) x = tally k (l ++ [x]) := by
  unfold addR tally
  simp only [countP_snoc]
def RepSm (r : RepD) : Prop := (0 ≤ r.begun ∧ r.begun ≤ 10000000) ∧ (0 ≤ r.committed ∧ r.committed ≤ 10000000) ∧ (0 ≤ r.aborted ∧ r.aborted ≤ 10000000) ∧ (0 ≤ r.deadlocks ∧ r.deadlocks ≤ 10000000) ∧ (0 ≤ r.ops ∧ r.ops ≤ 10000000) ∧ (0 ≤ r.refused ∧ r.refused ≤ 10000000)
theorem tally_sm (k : Int) {l : List EvD} (h : l.length ≤ 10000000) : RepSm (tally k l) := by
  have h1 : ∀ p : EvD → Bool, (0 : Int) ≤ (l.countP p : Int) ∧ (l.countP p : Int) ≤ 10000000 := fun p => by
    have := List.countP_le_length (p := p) (l := l)
    omega
  exact ⟨h1 _, h1 _, h1 _, h1 _, h1 _, h1 _⟩
theorem Blk.to {w : World} {g : Nat} {t : TypeId} {cs cs' : Array Value} (h : Blk w g t cs) (e : cs = cs') : Blk w g t cs' := e ▸ h

def AddPost (w : World) (g : Nat) (r : RepD) (x : EvD) (e : Ending) (w' : World) : Prop :=
  e = .returned (.tuple #[]) ∧ Blk w' g 38 (repCells (addR r x)) ∧ ∃ w0 o, Touch g (g + 1) w w0 ∧ w' = w0.alloc o
set_option maxHeartbeats 3200000 in
theorem add_any (x : EvD) (A D : Option Addr) (n c m d g : Nat) (r : RepD) (w : World) (hr : RepSm r) (k : Blk w g 38 (repCells r)) :
    Calls Tryd.prog 27 #[.pointer (some ⟨g, 0, none⟩), .agg #[.int .i64 x.act, .int .i64 x.client, .int .i64 x.txn, .int .i64 x.op.act, .string x.op.key, .slice A n c, .int .i64 x.op.lo, .int .i64 x.op.hi, .int .i64 x.op.n, .int .i64 x.err, .int .i64 x.cell.kind, .slice D m d, .int .i64 x.cell.lo, .int .i64 x.cell.hi, .int .i64 x.cell.val]] w (AddPost w g r x) := by
  have hg := k.lt
  have HK := hide k
  have k' : ∀ i : Nat, w.cell? ⟨g, i, none⟩ = _ := k.cell
  have f' := k.frozen
  obtain ⟨⟨r1, r2⟩, ⟨r3, r4⟩, ⟨r5, r6⟩, ⟨r7, r8⟩, ⟨r9, r10⟩, ⟨r11, r12⟩⟩ := hr
  obtain ⟨ep, be, co, ab, de, op, re⟩ := r
  unfold repCells at k'
  dsimp only at *
  by_cases a0 : x.act = 0
  · have b0 : ((x.act : Int) == 0) = true := by simpa using a0
    have HE := hide (show repCells (addR ⟨ep, be, co, ab, de, op, re⟩ x) = #[.int .i64 ep, .int .i64 (be + 1), .int .i64 co, .int .i64 ab, .int .i64 de, .int .i64 op, .int .i64 re] by simp [repCells, addR, b2i, isB, isE, isA, isD, isO, isR, a0])
    clear a0 k
    go_enter Tryd.func27, Tryd.ntmps27
    go_wp2
    go_end0
    refine ⟨rfl, ?_, ?_⟩
    · exact ((HK.out.set_ 1 _).alloc _).to HE.out.symm
    · refine ⟨_, _, ?_, rfl⟩; (repeat refine Touch.set ?_ (by simp) _); exact Touch.refl _
  have b0 : ((x.act : Int) == 0) = false := by simpa using a0
  by_cases a1 : x.act = 1
  · have b1 : ((x.act : Int) == 1) = true := by simpa using a1
    by_cases ae : x.err = 0
    · have be' : ((x.err : Int) != 0) = false := by simpa using ae
      have HE := hide (show repCells (addR ⟨ep, be, co, ab, de, op, re⟩ x) = #[.int .i64 ep, .int .i64 be, .int .i64 co, .int .i64 ab, .int .i64 de, .int .i64 (op + 1), .int .i64 re] by simp [repCells, addR, b2i, isB, isE, isA, isD, isO, isR, a1, ae])
      clear a0 a1 ae k
      go_enter Tryd.func27, Tryd.ntmps27
      go_wp2
      go_end0
      refine ⟨rfl, ?_, ?_⟩
      · exact ((HK.out.set_ 5 _).alloc _).to HE.out.symm
      · refine ⟨_, _, ?_, rfl⟩; (repeat refine Touch.set ?_ (by simp) _); exact Touch.refl _
    · have be' : ((x.err : Int) != 0) = true := by simpa using ae
      have HE := hide (show repCells (addR ⟨ep, be, co, ab, de, op, re⟩ x) = #[.int .i64 ep, .int .i64 be, .int .i64 co, .int .i64 ab, .int .i64 de, .int .i64 (op + 1), .int .i64 (re + 1)] by simp [repCells, addR, b2i, isB, isE, isA, isD, isO, isR, a1, ae])
      clear a0 a1 ae k
      go_enter Tryd.func27, Tryd.ntmps27
      go_wp2
      go_end0
      refine ⟨rfl, ?_, ?_⟩
      · exact (((HK.out.set_ 5 _).set_ 6 _).alloc _).to HE.out.symm
      · refine ⟨_, _, ?_, rfl⟩; (repeat refine Touch.set ?_ (by simp) _); exact Touch.refl _
  have b1 : ((x.act : Int) == 1) = false := by simpa using a1
  by_cases a3 : x.act = 3
  · have b3 : ((x.act : Int) == 3) = true := by simpa using a3
    have HE := hide (show repCells (addR ⟨ep, be, co, ab, de, op, re⟩ x) = #[.int .i64 ep, .int .i64 be, .int .i64 (co + 1), .int .i64 ab, .int .i64 de, .int .i64 op, .int .i64 re] by simp [repCells, addR, b2i, isB, isE, isA, isD, isO, isR, a3])
    clear a0 a1 a3 k
    go_enter Tryd.func27, Tryd.ntmps27
    go_wp2
    go_end0
    refine ⟨rfl, ?_, ?_⟩
    · exact ((HK.out.set_ 2 _).alloc _).to HE.out.symm
    · refine ⟨_, _, ?_, rfl⟩; (repeat refine Touch.set ?_ (by simp) _); exact Touch.refl _
  have b3 : ((x.act : Int) == 3) = false := by simpa using a3
  by_cases a4 : x.act = 4
  · have b4 : ((x.act : Int) == 4) = true := by simpa using a4
    by_cases ae : x.err = 10
    · have be' : ((x.err : Int) == 10) = true := by simpa using ae
      have HE := hide (show repCells (addR ⟨ep, be, co, ab, de, op, re⟩ x) = #[.int .i64 ep, .int .i64 be, .int .i64 co, .int .i64 (ab + 1), .int .i64 (de + 1), .int .i64 op, .int .i64 re] by simp [repCells, addR, b2i, isB, isE, isA, isD, isO, isR, a4, ae])
      clear a0 a1 a3 a4 ae k
      go_enter Tryd.func27, Tryd.ntmps27
      go_wp2
      go_end0
      refine ⟨rfl, ?_, ?_⟩
      · exact (((HK.out.set_ 3 _).set_ 4 _).alloc _).to HE.out.symm
      · refine ⟨_, _, ?_, rfl⟩; (repeat refine Touch.set ?_ (by simp) _); exact Touch.refl _
    · have be' : ((x.err : Int) == 10) = false := by simpa using ae
      have HE := hide (show repCells (addR ⟨ep, be, co, ab, de, op, re⟩ x) = #[.int .i64 ep, .int .i64 be, .int .i64 co, .int .i64 (ab + 1), .int .i64 de, .int .i64 op, .int .i64 re] by simp [repCells, addR, b2i, isB, isE, isA, isD, isO, isR, a4, ae])
      clear a0 a1 a3 a4 ae k
      go_enter Tryd.func27, Tryd.ntmps27
      go_wp2
      go_end0
      refine ⟨rfl, ?_, ?_⟩
      · exact ((HK.out.set_ 3 _).alloc _).to HE.out.symm
      · refine ⟨_, _, ?_, rfl⟩; (repeat refine Touch.set ?_ (by simp) _); exact Touch.refl _
  have b4 : ((x.act : Int) == 4) = false := by simpa using a4
  have HE := hide (show repCells (addR ⟨ep, be, co, ab, de, op, re⟩ x) = #[.int .i64 ep, .int .i64 be, .int .i64 co, .int .i64 ab, .int .i64 de, .int .i64 op, .int .i64 re] by simp [repCells, addR, b2i, isB, isE, isA, isD, isO, isR, a0, a1, a3, a4])
  clear a0 a1 a3 a4 k
  go_enter Tryd.func27, Tryd.ntmps27
  go_wp2
  go_end0
  refine ⟨rfl, ?_, ?_⟩
  · exact (HK.out.alloc _).to HE.out.symm
  · refine ⟨_, _, ?_, rfl⟩; (repeat refine Touch.set ?_ (by simp) _); exact Touch.refl _
end Go.Proofs.YtkhckehecnobjaaDoor
