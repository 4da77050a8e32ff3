/-
  WALKS OF THE PROGRAM: model.copyData, copyCell, refuse, counter; bytes that the program owns.
-/
import Derived.Test.YteidmdnhkgcnoaaGreatWC
import Derived.Test.YteidmdnhkgcnoaaGreatMem
import Derived.Deep.DeepCutAuto
import Derived.Deep.RegionHeld3
namespace Go.Proofs.YteidmdnhkgcnoaaGreat
open Go.RowKit

/-- Bytes of the program's own, in blocks from 'base' on. -/
def OwnB (w : World) (base : Nat) (v : Value) (bs : List UInt8) : Prop := w.ownsRow base 5 1 v bs.length (bs.map byteV)
section
variable {w w' : World} {base base' : Nat} {v : Value} {bs : List UInt8}
theorem OwnB.nil (w : World) (base : Nat) : OwnB w base (.slice none 0 0) [] := World.ownsRow_nil _ _ _ _
theorem OwnB.low (h : OwnB w base v bs) (hb : base' ≤ base) : OwnB w base' v bs := by
  obtain ⟨h1, h2 | ⟨g, cap, cur, e, hg, r⟩⟩ := h
  · exact ⟨h1, .inl h2⟩
  · exact ⟨h1, .inr ⟨g, cap, cur, e, Nat.le_trans hb hg, r⟩⟩
theorem OwnB.keep (h : OwnB w base v bs) (hk : ∀ q, v.ownBlock = some q → w'.heap[q]? = w.heap[q]?) : OwnB w' base v bs := by
  obtain ⟨h1, h2 | ⟨g, cap, cur, e, hg, hh, r⟩⟩ := h
  · exact ⟨h1, .inl h2⟩
  · exact ⟨h1, .inr ⟨g, cap, cur, e, hg, (hk g (by rw [e]; rfl)).trans hh, r⟩⟩
theorem OwnB.lt (h : OwnB w base v bs) : ∀ q, v.ownBlock = some q → base ≤ q ∧ q < w.heap.size := World.ownsRow.lt h
theorem OwnB.via (h : OwnB w base v bs) (hb : Below w.heap.size w w') : OwnB w' base v bs := h.keep fun q hq => hb.block q (h.lt q hq).2
theorem OwnB.alloc (h : OwnB w base v bs) (o : Obj) : OwnB (w.alloc o) base v bs := World.ownsRow.alloc h o
theorem OwnB.touch {L H : Nat} (h : OwnB w base v bs) (ht : Touch L H w w') (hH : H ≤ base) : OwnB w' base v bs := h.keep fun q hq => ht.block q (.inr (Nat.le_trans hH (h.lt q hq).1))
theorem OwnB.far {g i : Nat} {t : TypeId} {cs : Array Value} (h : OwnB w base v bs) (k : Blk w g t cs) (hne : t ≠ 5) (u : Value) : OwnB (w.setCell ⟨g, i, none⟩ u) base v bs := h.keep fun q hq => by
  refine Below.heap_setCell w ⟨g, i, none⟩ u q ?_
  intro e
  have e' : q = g := e
  obtain ⟨h1, ⟨rfl, h2⟩ | ⟨g', cap, cur, rfl, hg, hh, r⟩⟩ := h
  · cases hq
  · have : g' = q := by simpa [Value.ownBlock] using hq
    rw [this, e'] at hh
    unfold Blk at k
    rw [hh] at k
    injection k with k
    injection k with _ k
    exact hne k.symm
theorem OwnB.bytes (h : OwnB w base v bs) : BytesAt w w.heap.size v bs := BytesAt.of_own h
theorem OwnB.form (h : OwnB w base v bs) : ∃ A n c, v = .slice A n c := by
  obtain ⟨A, c, e, _⟩ := own_slice h
  exact ⟨A, _, c, e⟩
end

def CopyPost (w : World) (bs : List UInt8) (e : Ending) (w' : World) : Prop := ∃ A n c, e = .returned (.slice A n c) ∧ OwnB w' w.heap.size (.slice A n c) bs ∧ Below w.heap.size w w'
set_option maxHeartbeats 800000 in
theorem copyData_any (v : Value) (bs : List UInt8) (B : Nat) (w : World) (hn : bs.length ≤ 1000000) (h : BytesAt w B v bs) :
    Calls Tryz.prog 98 #[v] w (CopyPost w bs) := by
  obtain ⟨A, n, c, rfl, hnc, hcm, hnl, hnil, hr⟩ := h
  obtain ⟨i0, hi, hz0, hz1, hz2⟩ := info_parts info_u8
  have HL := hide hnl
  clear hnl hcm hnc hnil
  go_enter Tryz.func98, Tryz.ntmps98
  go_wp2_with (at_builtin; refine wpList_append_any _ rfl _ _ _ rfl w.heap.size 5 i0 _ 1 1 Tryz.underlying29 hi hz0 hz1 hz2 rfl (by omega) (.slice none 0 0) 0 [] rfl (World.ownsRow_nil _ _ _ _) B A n c (bs.map byteV) rfl hr ?c3 ?c4 ?c5 (Nat.le_refl _) ?_)
  case c3 => intro u hu; obtain ⟨b, _, rfl⟩ := List.mem_map.1 hu; rfl
  case c4 => have := HL.out; unfold maxLen; omega
  case c5 => have := HL.out; omega
  intro v' w1 hown hg hat
  go_wp2
  go_ret
  have hb1 : Below w.heap.size w w1 := (Below.refl _ _).grown hg (Nat.le_refl _) (fun k hk => by cases hk)
  have ho : OwnB w1 w.heap.size v' bs := by
    unfold OwnB
    have := HL.out
    simpa [this] using hown
  obtain ⟨A', n', c', rfl⟩ := ho.form
  exact ⟨A', n', c', rfl, ho, hb1⟩

def CellPost (w : World) (d : CellD) (e : Ending) (w' : World) : Prop := ∃ A n c, e = .returned (.agg #[.int .i64 d.kind, .slice A n c, .int .i64 d.lo, .int .i64 d.hi, .int .i64 d.val]) ∧ OwnB w' w.heap.size (.slice A n c) d.data ∧ Below w.heap.size w w'
set_option maxHeartbeats 800000 in
theorem copyCell_any (d : CellD) (A : Option Addr) (n c : Nat) (B : Nat) (w : World) (hB : B ≤ w.heap.size) (hn : d.data.length ≤ 1000000) (h : BytesAt w B (.slice A n c) d.data) :
    Calls Tryz.prog 81 #[.agg #[.int .i64 d.kind, .slice A n c, .int .i64 d.lo, .int .i64 d.hi, .int .i64 d.val]] w (CellPost w d) := by
  go_enter Tryz.func81, Tryz.ntmps81
  go_wp2_with fail
  refine gen2 (R := fun W => Calls Tryz.prog 98 _ W _) ?_
  intro W k0 k1 hb hz
  refine (copyData_any _ d.data B W hn (h.below hb hB)).mono ?_
  rintro e w1 ⟨A', n', c', rfl, ho, hb1⟩
  have j0 := Blk.via hb1 k0
  have j1 := Blk.via hb1 k1
  have q0 := j0.cell
  have q1 := j0.frozen
  have q2 := j1.cell
  have q3 := j1.frozen
  go_wp2
  refine bodyPost_ret (v := .agg #[.int .i64 d.kind, .slice A' n' c', .int .i64 d.lo, .int .i64 d.hi, .int .i64 d.val]) (by simp [results, Tryz.results81, go_sem, q2]) rfl ?_
  refine ⟨A', n', c', rfl, (ho.touch (L := w.heap.size) (H := w.heap.size + 2) ?_ hz).low (by omega), Touch.below (L := w.heap.size) (H := w.heap.size + 2) (w := w1) ?_ (below_via hb hb1 (by omega)) (Nat.le_refl _)⟩
  · (repeat refine Touch.set ?_ (by simp) _); exact Touch.refl _
  · (repeat refine Touch.set ?_ (by simp) _); exact Touch.refl _

def thing0 : Value := .agg #[.int .i64 0, .slice none 0 0, .int .i64 0, .int .i64 0, .int .i64 0, .bool false]
def ans0 (er : Int) : Value := .agg #[.int .i64 er, .int .i64 0, .slice none 0 0, .int .i64 0, .int .i64 0, .int .i64 0]
theorem refuse_any (er : Int) (w : World) : Calls Tryz.prog 116 #[.int .i64 er] w fun e w' => e = .returned (.tuple #[.agg #[.int .i64 0, .slice none 0 0, .int .i64 0, .int .i64 0, .int .i64 0, .bool false], .agg #[.int .i64 er, .int .i64 0, .slice none 0 0, .int .i64 0, .int .i64 0, .int .i64 0]]) ∧ Below w.heap.size w w' := by
  go_enter Tryz.func116, Tryz.ntmps116
  go_wp2
  refine bodyPost_ret (v := .tuple #[thing0, ans0 er]) (by simp [results, Tryz.results116, go_sem, thing0, ans0]) rfl ⟨rfl, below2 _ _ _⟩
theorem counter_any (lo hi va : Int) (w : World) : Calls Tryz.prog 117 #[.int .i64 lo, .int .i64 hi, .int .i64 va] w fun e w' => e = .returned (.agg #[.int .i64 2, .slice none 0 0, .int .i64 lo, .int .i64 hi, .int .i64 va, .bool true]) ∧ Below w.heap.size w w' := by
  go_enter Tryz.func117, Tryz.ntmps117
  go_wp2
  refine bodyPost_ret (v := .agg #[.int .i64 2, .slice none 0 0, .int .i64 lo, .int .i64 hi, .int .i64 va, .bool true]) (by simp [results, Tryz.results117, go_sem]) rfl ⟨rfl, (Below.refl _ _).alloc (Nat.le_refl _) _⟩
end Go.Proofs.YteidmdnhkgcnoaaGreat
