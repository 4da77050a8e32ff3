/-
  WALKS: moneyerref01.Same, bytes.Clone, serial.didOf, moneyerref09.Exact, SameAnswer, moneyerref05.Same, moneyerref33.SameDid (where the two lists read alike).
-/
import Derived.Test.YtnanlaefehaifaaGreatProg
import Derived.Test.YtnanlaefehaifaaGreatMem
import Derived.Test.YtnanlaefehaifaaGreatApp
import Derived.Deep.QuietTactic
import Derived.BigQuiet
import Derived.Deep.RegionHeld3
import Derived.WalkSpells
import Derived.Laws.BytesArg
namespace Go.Proofs.YtnanlaefehaifaaGreat
open Go.RowKit

/-- 'string(b)': the bytes. -/
theorem run_string_of {P : Program} {w : World} {B : Nat} {A : Option Addr} {n c : Nat} {bs : List UInt8} (h : Reads w B 1 A n (bs.map byteV)) (src e dst : TypeId) (hs : P.underlying src = some (.slice e)) (he : P.underlying e = some (.int .u8)) (hd : P.underlying dst = some .string) :
    (convert src dst (.slice A n c)).run P w = .ok (.string ⟨bs.toArray⟩) w := by
  have hl : bs.length = n := by have := h.1; simpa using this
  rcases Nat.eq_zero_or_pos n with h0 | h0
  · subst h0
    obtain rfl : bs = [] := List.eq_nil_of_length_eq_zero hl
    cases A with
    | none => exact run_convert_bytes_nil w src e hs he 0 c dst hd
    | some ad =>
      rw [run_convert_bytes_string w src dst e _ 0 c hs he hd, run_bytesToString w ad 0 c [] (by simp [loadCells, loadCellsFrom])]
      rfl
  · obtain ⟨ad, rfl, _, hc⟩ := h.2 h0
    have hload : (loadCells ad n).run P w = .ok ((bs.map fun b => ((b.toNat : Nat) : Int)).map (Value.int .u8)).toArray w := by
      have := run_loadCells_list (P := P) w ad (bs.map byteV) (fun j v hj => hc j v hj)
      simp only [List.length_map, hl] at this
      rw [this]
      simp [byteV, Function.comp_def]
    rw [run_convert_bytes_string w src dst e _ n c hs he hd, run_bytesToString w ad n c _ hload, foldl_push_bytes]
    congr 2
    simp [ByteArray.empty, ByteArray.emptyWithCapacity, Function.comp_def]
    rfl

set_option maxHeartbeats 400000 in
theorem Same_any (A A' : Option Addr) (n c n' c' : Nat) (bs cs : List UInt8) (B : Nat) (w : World) (h : Reads w B 1 A n (bs.map byteV)) (h' : Reads w B 1 A' n' (cs.map byteV)) :
    Calls Tryz.prog 69 #[.slice A n c, .slice A' n' c'] w fun e w' => e = .returned (.bool (bs == cs)) ∧ w' = w := by
  have r1 := run_string_of (c := c) h 33 5 9 Tryz.underlying33 Tryz.underlying5 Tryz.underlying9
  have r2 := run_string_of (c := c') h' 33 5 9 Tryz.underlying33 Tryz.underlying5 Tryz.underlying9
  go_enter Tryz.func69, Tryz.ntmps69
  go_wp2
  go_ret
  exact ⟨rfl, rfl⟩

theorem info_u8 : (Tryz.prog.info? 5).map (fun i => (i.zero, i.size, i.bytes)) = some (some (.int .u8 0), 1, 1) := by kernel_rfl

/-- A result that is a struct with the Did's thirteen cells. -/
def didV (x : DidV) : Value := .agg #[.int .i64 x.d.txn, .int .i64 x.d.op.act, .string x.d.op.key, x.dv, .int .i64 x.d.op.lo, .int .i64 x.d.op.hi, .int .i64 x.d.op.n, .int .i64 x.d.err, .int .i64 x.d.cell.kind, x.cv, .int .i64 x.d.cell.lo, .int .i64 x.d.cell.hi, .int .i64 x.d.cell.val]

def didZ : Array Value := #[.int .i64 0, .int .i64 0, .string ByteArray.empty, .slice none 0 0, .int .i64 0, .int .i64 0, .int .i64 0, .int .i64 0, .int .i64 0, .slice none 0 0, .int .i64 0, .int .i64 0, .int .i64 0]

theorem didOf_close {w w1 W2 w3 W' : World} {d : DidD} {v1 v3 : Value} {L0 : Nat} (ho : Touch w.heap.size (w.heap.size + 2) w3 W') (hz0 : w.heap.size + 2 ≤ L0) (hf1 : Fresh L0 v1) (HV1 : BytesAt w1 w1.heap.size v1 d.op.data) (hz1 : L0 ≤ w1.heap.size)
    (hz2 : W2.heap.size = w1.heap.size) (hq2 : ∀ q, q ≠ w.heap.size → W2.heap[q]? = w1.heap[q]?) (hb02 : Below w.heap.size w W2) (hb3 : Below W2.heap.size W2 w3) (hf3 : Fresh W2.heap.size v3) (HV3 : BytesAt w3 w3.heap.size v3 d.cell.data) :
    DidOk W' W'.heap.size ⟨d, v1, v3⟩ ∧ Fresh w.heap.size v1 ∧ Fresh w.heap.size v3 ∧ Below w.heap.size w W' := by
  have hs := ho.size
  have hs3 := hb3.size
  refine ⟨⟨?_, ?_⟩, hf1.mono (by omega), hf3.mono (by omega), ho.below (hb02.trans (hb3.mono (by omega))) (Nat.le_refl _)⟩
  · refine BytesAt.more (HV1.keepIn hf1 (fun q h1 h2 => ?_)) (by omega)
    rw [ho.block q (by omega), hb3.block q (by omega), hq2 q (by omega)]
  · refine BytesAt.more (HV3.keepIn hf3 (fun q h1 h2 => ?_)) (by omega)
    rw [ho.block q (by omega)]

set_option maxHeartbeats 1600000 in
theorem rSame_any (a b : CellD) (av bv : Value) (B : Nat) (w : World) (hB : B ≤ w.heap.size) (ha : BytesAt w B av a.data) (hb : BytesAt w B bv b.data) :
    Calls Tryz.prog 253 #[.agg #[.int .i64 a.kind, av, .int .i64 a.lo, .int .i64 a.hi, .int .i64 a.val], .agg #[.int .i64 b.kind, bv, .int .i64 b.lo, .int .i64 b.hi, .int .i64 b.val]] w fun e w' =>
      e = .returned (.bool (cellEq a b)) ∧ Below w.heap.size w w' := by
  obtain ⟨A, n, c, rfl, _, _, hl1, _, hr1⟩ := ha
  obtain ⟨A', n', c', rfl, _, _, hl2, _, hr2⟩ := hb
  clear hl1 hl2
  have hs := fun o1 o2 => Same_any A A' n c n' c' a.data b.data B ((w.alloc o1).alloc o2) ((hr1.alloc hB o1).alloc (by simp; omega) o2) ((hr2.alloc hB o1).alloc (by simp; omega) o2)
  have hb2 := fun o1 o2 => below2 w o1 o2
  have HS := hide hs
  clear hs
  unfold cellEq
  generalize (a.data == b.data) = ds at *
  cases h1 : (a.kind == b.kind)
  · go_enter Tryz.func253, Tryz.ntmps253
    go_wp2
    go_ret
    exact ⟨by simp, hb2 _ _⟩
  · cases ds
    · go_enter Tryz.func253, Tryz.ntmps253
      go_wp2_with (go_at_call 69; refine (HS.out _ _).mono ?_; rintro e w' ⟨rfl, rfl⟩)
      go_ret
      exact ⟨by simp, hb2 _ _⟩
    · cases h3 : (a.lo == b.lo)
      · go_enter Tryz.func253, Tryz.ntmps253
        go_wp2_with (go_at_call 69; refine (HS.out _ _).mono ?_; rintro e w' ⟨rfl, rfl⟩)
        go_ret
        exact ⟨by simp, hb2 _ _⟩
      · cases h4 : (a.hi == b.hi)
        · go_enter Tryz.func253, Tryz.ntmps253
          go_wp2_with (go_at_call 69; refine (HS.out _ _).mono ?_; rintro e w' ⟨rfl, rfl⟩)
          go_ret
          exact ⟨by simp, hb2 _ _⟩
        · go_enter Tryz.func253, Tryz.ntmps253
          go_wp2_with (go_at_call 69; refine (HS.out _ _).mono ?_; rintro e w' ⟨rfl, rfl⟩)
          go_ret
          exact ⟨by simp, hb2 _ _⟩

end Go.Proofs.YtnanlaefehaifaaGreat
