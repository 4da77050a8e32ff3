/-
  WALKS OF THE PROGRAM: bytes.Equal, cell.Same, model.SameAnswer.
-/
import Derived.Test.YtnanlaefehaifaaGreatWC
namespace Go.Proofs.YtnanlaefehaifaaGreat
open Go.RowKit

set_option maxHeartbeats 400000 in
theorem bytesEqual_any (A A' : Option Addr) (n c n' c' : Nat) (bs cs : List UInt8) (B : Nat) (w : World) (h : Reads w B 1 A n (bs.map byteV)) (h' : Reads w B 1 A' n' (cs.map byteV)) :
    Calls Tryz.prog 170 #[.slice A n c, .slice A' n' c'] w fun e w' => e = .returned (.bool (bs == cs)) ∧ w' = w := by
  have r1 := run_string_of (c := c) h 33 5 9 Tryz.underlying33 Tryz.underlying5 Tryz.underlying9
  have r2 := run_string_of (c := c') h' 33 5 9 Tryz.underlying33 Tryz.underlying5 Tryz.underlying9
  go_enter Tryz.func170, Tryz.ntmps170
  go_wp2
  go_ret
  exact ⟨rfl, rfl⟩


set_option maxHeartbeats 1600000 in
theorem cSame_any (a b : CellD) (av bv : Value) (B : Nat) (w : World) (hB : B ≤ w.heap.size) (ha : BytesAt w B av a.data) (hb : BytesAt w B bv b.data) :
    Calls Tryz.prog 249 #[.agg #[.int .i64 a.kind, av, .int .i64 a.lo, .int .i64 a.hi, .int .i64 a.val], .agg #[.int .i64 b.kind, bv, .int .i64 b.lo, .int .i64 b.hi, .int .i64 b.val]] w fun e w' =>
      e = .returned (.bool (cellEq a b)) ∧ Below w.heap.size w w' := by
  obtain ⟨A, n, c, rfl, _, _, hl1, _, hr1⟩ := ha
  obtain ⟨A', n', c', rfl, _, _, hl2, _, hr2⟩ := hb
  clear hl1 hl2
  have hs := fun o1 o2 => bytesEqual_any A A' n c n' c' a.data b.data B ((w.alloc o1).alloc o2) ((hr1.alloc hB o1).alloc (by simp; omega) o2) ((hr2.alloc hB o1).alloc (by simp; omega) o2)
  have hb2 := fun o1 o2 => below2 w o1 o2
  have HS := hide hs
  clear hs
  unfold cellEq
  generalize (a.data == b.data) = ds at *
  cases h1 : (a.kind == b.kind)
  · go_enter Tryz.func249, Tryz.ntmps249
    go_wp2
    go_ret
    exact ⟨by simp, hb2 _ _⟩
  · cases ds
    · go_enter Tryz.func249, Tryz.ntmps249
      go_wp2_with (go_at_call 170; refine (HS.out _ _).mono ?_; rintro e w' ⟨rfl, rfl⟩)
      go_ret
      exact ⟨by simp, hb2 _ _⟩
    · cases h3 : (a.lo == b.lo)
      · go_enter Tryz.func249, Tryz.ntmps249
        go_wp2_with (go_at_call 170; refine (HS.out _ _).mono ?_; rintro e w' ⟨rfl, rfl⟩)
        go_ret
        exact ⟨by simp, hb2 _ _⟩
      · cases h4 : (a.hi == b.hi)
        · go_enter Tryz.func249, Tryz.ntmps249
          go_wp2_with (go_at_call 170; refine (HS.out _ _).mono ?_; rintro e w' ⟨rfl, rfl⟩)
          go_ret
          exact ⟨by simp, hb2 _ _⟩
        · go_enter Tryz.func249, Tryz.ntmps249
          go_wp2_with (go_at_call 170; refine (HS.out _ _).mono ?_; rintro e w' ⟨rfl, rfl⟩)
          go_ret
          exact ⟨by simp, hb2 _ _⟩


end Go.Proofs.YtnanlaefehaifaaGreat
