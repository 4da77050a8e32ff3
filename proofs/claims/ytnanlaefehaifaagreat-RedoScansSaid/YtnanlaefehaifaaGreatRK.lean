/-
  WALKS OF THE PROGRAM: slot.Same, slot.Check, undo.Same, undo.Check.
-/
import Derived.Test.YtnanlaefehaifaaGreatRF
import Derived.Test.YtnanlaefehaifaaGreatRG
namespace Go.Proofs.YtnanlaefehaifaaGreat
open Go.RowKit

/-- An item as a value. -/
def itemV (st : Int) (k : ByteArray) (d : CellD) (cv : Value) : Value := .agg #[.int .i64 st, .string k, .int .i64 d.kind, cv, .int .i64 d.lo, .int .i64 d.hi, .int .i64 d.val]
/-- An undo as a value. -/
def undoV (x : UndoV) : Value := .agg #[.int .i64 x.act, .string x.key, .int .i64 x.state, .string x.ikey, .int .i64 x.cell.kind, x.cv, .int .i64 x.cell.lo, .int .i64 x.cell.hi, .int .i64 x.cell.val, .int .i64 x.n]
def undo0 : UndoV := ⟨0, .empty, 0, .empty, cell0, .slice none 0 0, 0⟩
theorem bytes_none (w : World) (B : Nat) : BytesAt w B (.slice none 0 0) [] := ⟨none, 0, 0, rfl, Nat.le_refl _, Nat.zero_le _, rfl, fun _ => rfl, Reads.none_⟩
set_option maxHeartbeats 1600000 in
set_option maxRecDepth 100000 in
theorem slotSame_any (st st' : Int) (k k' : ByteArray) (a b : CellD) (av bv : Value) (B : Nat) (w : World) (hB : B ≤ w.heap.size) (ha : BytesAt w B av a.data) (hb : BytesAt w B bv b.data) :
    Calls Tryz.prog 223 #[itemV st k a av, itemV st' k' b bv] w fun e w' => e = .returned (.bool ((st == st') && (k.toList == k'.toList) && cellEq a b)) ∧ Below w.heap.size w w' := by
  have hb2 := fun o1 o2 => below2 w o1 o2
  have HS := hide (fun o1 o2 => cSame_any a b av bv B ((w.alloc o1).alloc o2) (by simp; omega) (ha.below (hb2 o1 o2) hB) (hb.below (hb2 o1 o2) hB))
  obtain ⟨A, n, c, rfl, junk⟩ := ha
  obtain ⟨A', n', c', rfl, junk'⟩ := hb
  clear junk junk'
  unfold itemV
  cases h1 : (st == st')
  · go_enter Tryz.func223, Tryz.ntmps223
    go_wp2
    go_ret
    exact ⟨by simp, hb2 _ _⟩
  · cases h2 : (k.toList == k'.toList)
    · go_enter Tryz.func223, Tryz.ntmps223
      go_wp2
      go_ret
      exact ⟨by simp, hb2 _ _⟩
    · go_enter Tryz.func223, Tryz.ntmps223
      go_wp2_with (refine (HS.out _ _).mono ?_; rintro e w' ⟨rfl, hb3⟩)
      go_ret
      exact ⟨by simp, below_via (hb2 _ _) hb3 (by simp; omega)⟩
set_option maxHeartbeats 1600000 in
set_option maxRecDepth 100000 in
theorem undoSame_any (x y : UndoV) (B : Nat) (w : World) (hB : B ≤ w.heap.size) (ha : UndoOk w B x) (hb : UndoOk w B y) :
    Calls Tryz.prog 174 #[undoV x, undoV y] w fun e w' => e = .returned (.bool ((x.act == y.act) && (x.key.toList == y.key.toList) && (x.n == y.n) && ((x.state == y.state) && (x.ikey.toList == y.ikey.toList) && cellEq x.cell y.cell))) ∧ Below w.heap.size w w' := by
  have hb2 := fun o1 o2 => below2 w o1 o2
  have HS := hide (fun o1 o2 => slotSame_any x.state y.state x.ikey y.ikey x.cell y.cell x.cv y.cv B ((w.alloc o1).alloc o2) (by simp; omega) (BytesAt.below ha (hb2 o1 o2) hB) (BytesAt.below hb (hb2 o1 o2) hB))
  obtain ⟨a1, a2, a3, a4, ⟨c1, c2, c3, c4, c5⟩, a6, a7⟩ := x
  obtain ⟨b1, b2, b3, b4, ⟨d1, d2, d3, d4, d5⟩, b6, b7⟩ := y
  obtain ⟨A, n, c, e1, junk⟩ := ha
  obtain ⟨A', n', c', e2, junk'⟩ := hb
  dsimp only at *
  subst e1 e2
  clear junk junk'
  unfold undoV
  dsimp only [itemV] at *
  cases h1 : (a1 == b1)
  · go_enter Tryz.func174, Tryz.ntmps174
    go_wp2
    go_ret
    exact ⟨by simp, hb2 _ _⟩
  · cases h2 : (a2.toList == b2.toList)
    · go_enter Tryz.func174, Tryz.ntmps174
      go_wp2
      go_ret
      exact ⟨by simp, hb2 _ _⟩
    · cases h3 : (a7 == b7)
      · go_enter Tryz.func174, Tryz.ntmps174
        go_wp2
        go_ret
        exact ⟨by simp, hb2 _ _⟩
      · go_enter Tryz.func174, Tryz.ntmps174
        go_wp2_with (refine (HS.out _ _).mono ?_; rintro e w' ⟨rfl, hb3⟩)
        go_ret
        exact ⟨by simp, below_via (hb2 _ _) hb3 (by simp; omega)⟩
/-- Nothing. -/
def itemZ (st : Int) (k : ByteArray) (d : CellD) : Bool := (st == 0) && (k.toList == ByteArray.empty.toList) && cellEq d cell0
/-- May an item be? (P6.1) -/
def rightI (st : Int) (k : ByteArray) (d : CellD) : Bool := if st = 0 then itemZ st k d else decide (st = 1 ∨ st = 2) && (goodKey k && rightC d)
def itemE (st : Int) (k : ByteArray) (d : CellD) : Int := if rightI st k d = true then 0 else 1
set_option maxHeartbeats 3200000 in
set_option maxRecDepth 100000 in
theorem slotCheck_any (st : Int) (k : ByteArray) (d : CellD) (dv : Value) (B : Nat) (w : World) (hk : k.size ≤ 1000000) (hB : B ≤ w.heap.size) (ha : BytesAt w B dv d.data) :
    Calls Tryz.prog 203 #[itemV st k d dv] w fun e w' => e = .returned (.int .i64 (itemE st k d)) ∧ Below w.heap.size w w' := by
  have hb1 := fun o => (Below.refl w.heap.size w).alloc (Nat.le_refl _) o
  have HS := hide (fun o => (show Calls Tryz.prog 223 #[itemV st k d dv, .agg #[.int .i64 0, .string ⟨#[]⟩, .int .i64 0, .slice none 0 0, .int .i64 0, .int .i64 0, .int .i64 0]] (w.alloc o) (fun e w' => e = .returned (.bool (itemZ st k d)) ∧ Below (w.alloc o).heap.size (w.alloc o) w') from slotSame_any st 0 k .empty d cell0 dv (.slice none 0 0) B (w.alloc o) (by simp; omega) (ha.below (hb1 o) hB) (bytes_none _ _)))
  have HK := hide (fun W => keyCheck_any k W (by omega))
  obtain ⟨A, n, c, rfl, _, _, hn, hn'⟩ := ha
  have HC := hide (fun W => cellCheck_any d A n c W hn)
  clear hn
  unfold itemV at *
  have HE0 := hide (show itemE st k d = if (if st = 0 then itemZ st k d else decide (st = 1 ∨ st = 2) && (goodKey k && rightC d)) = true then 0 else 1 from rfl)
  have HK1 := hide (show keyE k = if goodKey k = true then 0 else 1 from rfl)
  have HC1 := hide (show cellE d = if rightC d = true then 0 else 1 from rfl)
  generalize itemZ st k d = z at *
  generalize itemE st k d = ie at *
  generalize keyE k = ke at *
  generalize cellE d = ce at *
  generalize goodKey k = g at *
  generalize rightC d = r at *
  go_enter Tryz.func203, Tryz.ntmps203
  go_wp2_with (first
    | (refine (HS.out _).mono ?_; rintro e w' ⟨rfl, hb3⟩; have hb3' := below_via (hb1 _) hb3 (by simp); clear hb3)
    | (refine (HK.out _).mono ?_; rintro e w1 ⟨rfl, hb3⟩; have kb := Blk.via hb3 (Blk.new w 37 _); have q2 : w1.cell? ⟨w.heap.size, 2, none⟩ = some _ := kb.cell 2; have q3 : w1.cell? ⟨w.heap.size, 3, none⟩ = some _ := kb.cell 3; have q4 : w1.cell? ⟨w.heap.size, 4, none⟩ = some _ := kb.cell 4; have q5 : w1.cell? ⟨w.heap.size, 5, none⟩ = some _ := kb.cell 5; have q6 : w1.cell? ⟨w.heap.size, 6, none⟩ = some _ := kb.cell 6; have hb3' := below_via (hb1 _) hb3 (by simp); clear kb hb3)
    | (refine (HC.out _).mono ?_; rintro e w2 ⟨rfl, hb4⟩; have hb4' := below_via hb3' hb4 hb3'.size; clear hb4))
  all_goals
    go_ret
    refine ⟨ret_int ?_, by first | assumption | exact hb1 _⟩
    have h1 := HE0.out
    have h2 := HK1.out
    have h3 := HC1.out
    clear HE0 HK1 HC1 HS HK HC
    try clear q2 q3 q4 q5 q6
    rw [h1]
    clear h1 hb1
    subst h2 h3
    clear hn' hk
    cases z <;> cases g <;> cases r <;> simp_all <;> omega
end Go.Proofs.YtnanlaefehaifaaGreat
