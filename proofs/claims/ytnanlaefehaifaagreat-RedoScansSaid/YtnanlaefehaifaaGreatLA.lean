/-
  WALKS OF THE PROGRAM over a device of which the log is empty: be.Num, rec.Get, dev.Log, the job's 'cut', dev.Cut.
-/
import Derived.Test.YtnanlaefehaifaaGreatRZf
import Derived.Test.YtnanlaefehaifaaGreatRZj
namespace Go.Proofs.YtnanlaefehaifaaGreat
open Go.RowKit

set_option maxHeartbeats 3200000 in
theorem numNil_any (A : Option Addr) (c : Nat) (w : World) : Calls Tryz.prog 167 #[.slice A 0 c, .int .i64 0, .int .i64 2] w fun e w' => e = .returned (.tuple #[.int .i64 0, .bool false]) ∧ w' = w := by
  have HW := hide (wide_any 2 true (by decide) w)
  go_enter Tryz.func167, Tryz.ntmps167
  go_wp2_with (go_at_call 175; refine HW.out.mono ?_; rintro e w' ⟨rfl, hw'⟩; obtain rfl := hw'.symm)
  go_ret2
  exact ⟨rfl, rfl⟩
theorem results_row_2 {fn : Func} {p t2 t3 : Tmp} {ty : TypeId} (h : fn.results = #[.cell p ty, .tmp t2, .tmp t3]) (tmps : Array Value) (w : World) (g : Nat) (cs : Array Value)
    (hp : tmps.getD p undef = .pointer (some ⟨g, 0, none⟩)) (hl : (loadVar ty ⟨g, 0, none⟩).run Tryz.prog w = .ok (.agg cs) w) :
    (results fn tmps).run Tryz.prog w = .ok (.tuple #[.agg cs, tmps.getD t2 undef, tmps.getD t3 undef]) w := by
  have hp' : tmps[p]?.getD undef = .pointer (some ⟨g, 0, none⟩) := by simpa using hp
  simp [results, h, hp', asAddr, hl]
/-- The record of zeros, cell by cell. -/
def recZ : Array Value := #[.int .i64 0, .int .i64 0, .int .i64 0, .int .i64 0, .slice none 0 0, .int .i64 0, .string ⟨#[]⟩, .int .i64 0, .string ⟨#[]⟩, .int .i64 0, .slice none 0 0, .int .i64 0, .int .i64 0, .int .i64 0, .int .i64 0]
set_option maxHeartbeats 3200000 in
set_option maxRecDepth 100000 in
theorem getNil_any (A : Option Addr) (c : Nat) (w : World) : Calls Tryz.prog 107 #[.slice A 0 c] w fun e w' => e = .returned (.tuple #[.agg recZ, .int .i64 0, .int .i64 13]) ∧ Below w.heap.size w w' := by
  have HN := hide (fun W => numNil_any A c W)
  go_enter Tryz.func107, Tryz.ntmps107
  go_upto_region 1 with (fail)
  refine gen1 (R := fun W => Code.wp _ _ _ _ W) (fun W1 kb hb1 hz1 => ?_)
  have HB1 := hide hb1
  have HKB := hide kb
  clear kb hb1
  go_upto_region 3 with (go_at_call 167; refine (HN.out _).mono ?_; rintro e w' ⟨rfl, hw'⟩; obtain rfl := hw'.symm)
  have hX : recZ = #[.int .i64 0, .int .i64 0, .int .i64 0, .int .i64 0, .slice none 0 0, .int .i64 0, .string ⟨#[]⟩, .int .i64 0, .string ⟨#[]⟩, .int .i64 0, .slice none 0 0, .int .i64 0, .int .i64 0, .int .i64 0, .int .i64 0] := rfl
  have HX := hide hX
  clear hX
  have HII := hide (show (Tryz.prog.info? 41).map (·.size) = some recZ.size by rw [HX.out]; kernel_rfl)
  have H1C := hide (show recZ.all (·.oneCell') = true by rw [HX.out]; simp [Value.oneCell'])
  have HZX := hide (show (15 : Nat) = recZ.size by rw [HX.out]; rfl)
  have hK4 : Blk (W1.setRow w.heap.size recZ) w.heap.size 41 recZ := setRow_heap W1 w.heap.size _ _ _ _ HKB.out
  have HK4 := hide hK4
  clear hK4
  have HB4 := hide ((touch_setRow W1 w.heap.size recZ).below HB1.out (Nat.le_refl _))
  go_wp2_with (refine wpList_store_row rfl 41 (.tmp 2) (.tmp 23) rfl w.heap.size recZ rfl (by rw [HX.out]; rfl) 41 _ HKB.out HII.out HZX.out H1C.out ?_)
  refine bodyPost_ret (results_row_2 Tryz.results107 _ _ w.heap.size recZ rfl (run_loadVar_row _ _ _ _ recZ (0, 0) _ HK4.out Tryz.underlying41 rfl HII.out)) rfl ?_
  exact ⟨rfl, HB4.out⟩
/-- dev.Log where there is none. -/
theorem devLog_any (d : Nat) (sv mv : Value) (stale head sure fuse o : Int) (w : World) (k : Blk w d 107 (devC sv mv (.slice none 0 0) stale head sure fuse o)) :
    Calls Tryz.prog 42 #[.pointer (some ⟨d, 0, none⟩)] w fun e w' => (∃ A c, e = .returned (.slice A 0 c)) ∧ Below w.heap.size w w' := by
  have HC := hide (fun W => cloneB_any none 0 0 [] 0 W (Nat.zero_le _) (by omega) Reads.none_ (fun _ => rfl) (fun _ h => by cases h))
  have c2 : w.cell? ⟨d, 2, none⟩ = some (.slice none 0 0) := k.cell 2
  have l2 := k.lt
  clear k
  go_enter Tryz.func42, Tryz.ntmps42
  go_wp2_with (go_at_call 108; refine (HC.out _).mono ?_; rintro e w1 ⟨A2, c2', rfl, _, hb2⟩)
  go_ret
  exact ⟨⟨_, _, rfl⟩, hb2⟩
set_option maxHeartbeats 6400000 in
set_option maxRecDepth 100000 in
/-- The job's operation 'cut', where there is nothing. -/
theorem jobCut_any (j d : Nat) (bv sv mv : Value) (stale fuse o : Int) (w : World) (k : Blk w d 107 (devC sv mv (.slice none 0 0) stale 0 0 fuse o)) (js : Array Value) (kj : Blk w j 129 js) (hj : JobC js d 0 bv) :
    Calls Tryz.prog 110 #[.pointer (some ⟨j, 0, none⟩)] w fun e w' => (∃ v, e = .returned v) ∧ Blk w' d 107 (devC sv mv (.slice none 0 0) stale 0 0 fuse o) ∧ Turn (fun k => k = d) w w' := by
  obtain ⟨j0, j1, _⟩ := hj
  have hjd := kj.ne_ k (by decide)
  have KD := hide k
  have KJ := hide kj
  have HJ0 := hide j0
  have HJ1 := hide j1
  have ld := k.lt
  have lj := kj.lt
  clear k kj j0 j1
  go_enter Tryz.func110, Tryz.ntmps110
  go_upto_region 0 with (fail)
  refine wp_region_inv_tail 26 [fun v _ => v = .pointer (some ⟨j, 0, none⟩), fun v _ => v = .pointer (some ⟨j, 0, none⟩), fun v _ => v = .pointer (some ⟨j, 0, none⟩), fun v _ => v = .pointer (some ⟨d, 0, none⟩), fun v _ => v = .pointer (some ⟨j, 0, none⟩), fun v _ => v = .pointer (some ⟨j, 0, none⟩), fun v _ => v = .pointer (some ⟨j, 0, none⟩), fun v _ => v = .pointer (some ⟨d, 0, none⟩), fun v _ => v = .pointer (some ⟨d, 0, none⟩), fun v _ => v = .pointer (some ⟨d, 2, none⟩), fun v _ => v = .slice none 0 0, fun v _ => v = .pointer (some ⟨j, 0, none⟩), fun v _ => v = .pointer (some ⟨j, 0, none⟩), fun v _ => v = .pointer (some ⟨j, 1, none⟩), fun v _ => v = .int .i64 0, fun v _ => v = .pointer (some ⟨j, 0, none⟩), fun v _ => v = .pointer (some ⟨j, 0, none⟩), fun v _ => v = .pointer (some ⟨j, 0, none⟩), fun v _ => v = .pointer (some ⟨d, 0, none⟩), fun v _ => v = .pointer (some ⟨d, 0, none⟩), fun v _ => v = .pointer (some ⟨d, 4, none⟩), fun v _ => v = .int .i64 0, fun v _ => v = .int .i64 0, fun v _ => v = .slice none 0 0, fun v _ => v = .pointer (some ⟨d, 0, none⟩), fun v _ => v = .pointer (some ⟨d, 2, none⟩)] (by kernel_rfl) (by kernel_rfl) (by kernel_rfl) (by kernel_rfl) (by kernel_rfl) (by first | simp | decide) (by kernel_rfl) ?st ?steps ?fin
  case st =>
    intro i v W W' _ h
    match i with
    | 0 | 1 | 2 | 3 | 4 | 5 | 6 | 7 | 8 | 9 | 10 | 11 | 12 | 13 | 14 | 15 | 16 | 17 | 18 | 19 | 20 | 21 | 22 | 23 | 24 | 25 => exact h
    | (i + 26) => exact h
  case steps =>
    simp only [stepsT, List.take_succ_cons, List.take_zero]
    refine ⟨?_, ?_, ?_, ?_, ?_, ?_, ?_, ?_, ?_, ?_, ?_, ?_, ?_, ?_, ?_, ?_, ?_, ?_, ?_, ?_, ?_, ?_, ?_, ?_, ?_, ?_, trivial⟩
    · intro f W hbW hdp
      simp only [fillF, Act.put, List.setIfInBounds_toArray, List.set_cons_succ, List.set_cons_zero, Nat.reduceAdd]
      go_wp2
      exact ⟨rfl, _, rfl, rfl, Below.refl _ _⟩
    · intro f W hbW hdp
      have e0 : f 0 = .pointer (some ⟨j, 0, none⟩) := hdp ⟨0, .data⟩ (List.mem_filter.2 ⟨by simp, rfl⟩)
      simp only [fillF, Act.put, List.setIfInBounds_toArray, List.set_cons_succ, List.set_cons_zero, Nat.reduceAdd, e0]
      go_wp2
      exact ⟨rfl, _, rfl, rfl, Below.refl _ _⟩
    · intro f W hbW hdp
      have e1 : f 1 = .pointer (some ⟨j, 0, none⟩) := hdp ⟨1, .data⟩ (List.mem_filter.2 ⟨by simp, rfl⟩)
      simp only [fillF, Act.put, List.setIfInBounds_toArray, List.set_cons_succ, List.set_cons_zero, Nat.reduceAdd, e1]
      go_wp2
      exact ⟨rfl, _, rfl, rfl, Below.refl _ _⟩
    · intro f W hbW hdp
      have e2 : f 2 = .pointer (some ⟨j, 0, none⟩) := hdp ⟨2, .data⟩ (List.mem_filter.2 ⟨by simp, rfl⟩)
      have q : W.cell? ⟨j, 0, none⟩ = some _ := ((Blk.via hbW KJ.out).cell 0).trans HJ0.out
      simp only [fillF, Act.put, List.setIfInBounds_toArray, List.set_cons_succ, List.set_cons_zero, Nat.reduceAdd, e2]
      go_wp2
      exact ⟨rfl, _, rfl, rfl, Below.refl _ _⟩
    · intro f W hbW hdp
      simp only [fillF, Act.put, List.setIfInBounds_toArray, List.set_cons_succ, List.set_cons_zero, Nat.reduceAdd]
      go_wp2
      exact ⟨rfl, _, rfl, rfl, Below.refl _ _⟩
    · intro f W hbW hdp
      have e4 : f 4 = .pointer (some ⟨j, 0, none⟩) := hdp ⟨4, .data⟩ (List.mem_filter.2 ⟨by simp, rfl⟩)
      simp only [fillF, Act.put, List.setIfInBounds_toArray, List.set_cons_succ, List.set_cons_zero, Nat.reduceAdd, e4]
      go_wp2
      exact ⟨rfl, _, rfl, rfl, Below.refl _ _⟩
    · intro f W hbW hdp
      have e5 : f 5 = .pointer (some ⟨j, 0, none⟩) := hdp ⟨5, .data⟩ (List.mem_filter.2 ⟨by simp, rfl⟩)
      simp only [fillF, Act.put, List.setIfInBounds_toArray, List.set_cons_succ, List.set_cons_zero, Nat.reduceAdd, e5]
      go_wp2
      exact ⟨rfl, _, rfl, rfl, Below.refl _ _⟩
    · intro f W hbW hdp
      have e6 : f 6 = .pointer (some ⟨j, 0, none⟩) := hdp ⟨6, .data⟩ (List.mem_filter.2 ⟨by simp, rfl⟩)
      have q : W.cell? ⟨j, 0, none⟩ = some _ := ((Blk.via hbW KJ.out).cell 0).trans HJ0.out
      simp only [fillF, Act.put, List.setIfInBounds_toArray, List.set_cons_succ, List.set_cons_zero, Nat.reduceAdd, e6]
      go_wp2
      exact ⟨rfl, _, rfl, rfl, Below.refl _ _⟩
    · intro f W hbW hdp
      have e7 : f 7 = .pointer (some ⟨d, 0, none⟩) := hdp ⟨7, .data⟩ (List.mem_filter.2 ⟨by simp, rfl⟩)
      simp only [fillF, Act.put, List.setIfInBounds_toArray, List.set_cons_succ, List.set_cons_zero, Nat.reduceAdd, e7]
      go_wp2
      exact ⟨rfl, _, rfl, rfl, Below.refl _ _⟩
    · intro f W hbW hdp
      have e8 : f 8 = .pointer (some ⟨d, 0, none⟩) := hdp ⟨8, .data⟩ (List.mem_filter.2 ⟨by simp, rfl⟩)
      simp only [fillF, Act.put, List.setIfInBounds_toArray, List.set_cons_succ, List.set_cons_zero, Nat.reduceAdd, e8]
      go_wp2
      exact ⟨rfl, _, rfl, rfl, Below.refl _ _⟩
    · intro f W hbW hdp
      have e9 : f 9 = .pointer (some ⟨d, 2, none⟩) := hdp ⟨9, .data⟩ (List.mem_filter.2 ⟨by simp, rfl⟩)
      have q : W.cell? ⟨d, 2, none⟩ = some (.slice none 0 0) := (Blk.via hbW KD.out).cell 2
      simp only [fillF, Act.put, List.setIfInBounds_toArray, List.set_cons_succ, List.set_cons_zero, Nat.reduceAdd, e9]
      go_wp2
      exact ⟨rfl, _, rfl, rfl, Below.refl _ _⟩
    · intro f W hbW hdp
      simp only [fillF, Act.put, List.setIfInBounds_toArray, List.set_cons_succ, List.set_cons_zero, Nat.reduceAdd]
      go_wp2
      exact ⟨rfl, _, rfl, rfl, Below.refl _ _⟩
    · intro f W hbW hdp
      have e11 : f 11 = .pointer (some ⟨j, 0, none⟩) := hdp ⟨11, .data⟩ (List.mem_filter.2 ⟨by simp, rfl⟩)
      simp only [fillF, Act.put, List.setIfInBounds_toArray, List.set_cons_succ, List.set_cons_zero, Nat.reduceAdd, e11]
      go_wp2
      exact ⟨rfl, _, rfl, rfl, Below.refl _ _⟩
    · intro f W hbW hdp
      have e12 : f 12 = .pointer (some ⟨j, 0, none⟩) := hdp ⟨12, .data⟩ (List.mem_filter.2 ⟨by simp, rfl⟩)
      simp only [fillF, Act.put, List.setIfInBounds_toArray, List.set_cons_succ, List.set_cons_zero, Nat.reduceAdd, e12]
      go_wp2
      exact ⟨rfl, _, rfl, rfl, Below.refl _ _⟩
    · intro f W hbW hdp
      have e13 : f 13 = .pointer (some ⟨j, 1, none⟩) := hdp ⟨13, .data⟩ (List.mem_filter.2 ⟨by simp, rfl⟩)
      have q : W.cell? ⟨j, 1, none⟩ = some _ := ((Blk.via hbW KJ.out).cell 1).trans HJ1.out
      simp only [fillF, Act.put, List.setIfInBounds_toArray, List.set_cons_succ, List.set_cons_zero, Nat.reduceAdd, e13]
      go_wp2
      exact ⟨rfl, _, rfl, rfl, Below.refl _ _⟩
    · intro f W hbW hdp
      simp only [fillF, Act.put, List.setIfInBounds_toArray, List.set_cons_succ, List.set_cons_zero, Nat.reduceAdd]
      go_wp2
      exact ⟨rfl, _, rfl, rfl, Below.refl _ _⟩
    · intro f W hbW hdp
      have e15 : f 15 = .pointer (some ⟨j, 0, none⟩) := hdp ⟨15, .data⟩ (List.mem_filter.2 ⟨by simp, rfl⟩)
      simp only [fillF, Act.put, List.setIfInBounds_toArray, List.set_cons_succ, List.set_cons_zero, Nat.reduceAdd, e15]
      go_wp2
      exact ⟨rfl, _, rfl, rfl, Below.refl _ _⟩
    · intro f W hbW hdp
      have e16 : f 16 = .pointer (some ⟨j, 0, none⟩) := hdp ⟨16, .data⟩ (List.mem_filter.2 ⟨by simp, rfl⟩)
      simp only [fillF, Act.put, List.setIfInBounds_toArray, List.set_cons_succ, List.set_cons_zero, Nat.reduceAdd, e16]
      go_wp2
      exact ⟨rfl, _, rfl, rfl, Below.refl _ _⟩
    · intro f W hbW hdp
      have e17 : f 17 = .pointer (some ⟨j, 0, none⟩) := hdp ⟨17, .data⟩ (List.mem_filter.2 ⟨by simp, rfl⟩)
      have q : W.cell? ⟨j, 0, none⟩ = some _ := ((Blk.via hbW KJ.out).cell 0).trans HJ0.out
      simp only [fillF, Act.put, List.setIfInBounds_toArray, List.set_cons_succ, List.set_cons_zero, Nat.reduceAdd, e17]
      go_wp2
      exact ⟨rfl, _, rfl, rfl, Below.refl _ _⟩
    · intro f W hbW hdp
      have e18 : f 18 = .pointer (some ⟨d, 0, none⟩) := hdp ⟨18, .data⟩ (List.mem_filter.2 ⟨by simp, rfl⟩)
      simp only [fillF, Act.put, List.setIfInBounds_toArray, List.set_cons_succ, List.set_cons_zero, Nat.reduceAdd, e18]
      go_wp2
      exact ⟨rfl, _, rfl, rfl, Below.refl _ _⟩
    · intro f W hbW hdp
      have e19 : f 19 = .pointer (some ⟨d, 0, none⟩) := hdp ⟨19, .data⟩ (List.mem_filter.2 ⟨by simp, rfl⟩)
      simp only [fillF, Act.put, List.setIfInBounds_toArray, List.set_cons_succ, List.set_cons_zero, Nat.reduceAdd, e19]
      go_wp2
      exact ⟨rfl, _, rfl, rfl, Below.refl _ _⟩
    · intro f W hbW hdp
      have e20 : f 20 = .pointer (some ⟨d, 4, none⟩) := hdp ⟨20, .data⟩ (List.mem_filter.2 ⟨by simp, rfl⟩)
      have q : W.cell? ⟨d, 4, none⟩ = some (.int .i64 0) := (Blk.via hbW KD.out).cell 4
      simp only [fillF, Act.put, List.setIfInBounds_toArray, List.set_cons_succ, List.set_cons_zero, Nat.reduceAdd, e20]
      go_wp2
      exact ⟨rfl, _, rfl, rfl, Below.refl _ _⟩
    · intro f W hbW hdp
      have e14 : f 14 = .int .i64 0 := hdp ⟨14, .data⟩ (List.mem_filter.2 ⟨by simp, rfl⟩)
      have e21 : f 21 = .int .i64 0 := hdp ⟨21, .data⟩ (List.mem_filter.2 ⟨by simp, rfl⟩)
      simp only [fillF, Act.put, List.setIfInBounds_toArray, List.set_cons_succ, List.set_cons_zero, Nat.reduceAdd, e14, e21]
      go_wp2
      exact ⟨rfl, _, rfl, rfl, Below.refl _ _⟩
    · intro f W hbW hdp
      have e10 : f 10 = .slice none 0 0 := hdp ⟨10, .data⟩ (List.mem_filter.2 ⟨by simp, rfl⟩)
      have e22 : f 22 = .int .i64 0 := hdp ⟨22, .data⟩ (List.mem_filter.2 ⟨by simp, rfl⟩)
      simp only [fillF, Act.put, List.setIfInBounds_toArray, List.set_cons_succ, List.set_cons_zero, Nat.reduceAdd, e10, e22]
      go_wp2
      exact ⟨rfl, _, rfl, rfl, Below.refl _ _⟩
    · intro f W hbW hdp
      have e3 : f 3 = .pointer (some ⟨d, 0, none⟩) := hdp ⟨3, .data⟩ (List.mem_filter.2 ⟨by simp, rfl⟩)
      simp only [fillF, Act.put, List.setIfInBounds_toArray, List.set_cons_succ, List.set_cons_zero, Nat.reduceAdd, e3]
      go_wp2
      exact ⟨rfl, _, rfl, rfl, Below.refl _ _⟩
    · intro f W hbW hdp
      have e24 : f 24 = .pointer (some ⟨d, 0, none⟩) := hdp ⟨24, .data⟩ (List.mem_filter.2 ⟨by simp, rfl⟩)
      simp only [fillF, Act.put, List.setIfInBounds_toArray, List.set_cons_succ, List.set_cons_zero, Nat.reduceAdd, e24]
      go_wp2
      exact ⟨rfl, _, rfl, rfl, Below.refl _ _⟩
  case fin =>
    intro f W hbW hA
    have e23 : f 23 = .slice none 0 0 := hA 23 (by omega)
    have e25 : f 25 = .pointer (some ⟨d, 2, none⟩) := hA 25 (by omega)
    simp only [List.drop_succ_cons, List.drop_zero, List.take_succ_cons, List.take_zero, fillF, Act.put, List.setIfInBounds_toArray, List.set_cons_succ, List.set_cons_zero, Nat.reduceAdd, e23, e25]
    clear hA e23 e25
    have kd := Blk.via hbW KD.out
    have l2 := kd.lt
    have f2 := kd.frozen 2
    have c2 := kd.cell 2
    have HKDW := hide kd
    have HBW := hide hbW
    clear hbW kd
    go_wp2_with fail
    refine nameW (w := World.setCell _ _ _) (R := fun W => Code.wp _ _ _ _ W) (fun W2 hW2 => ?_)
    have k2 : Blk W2 d 107 (devC sv mv (.slice none 0 0) stale 0 0 fuse o) := hW2 ▸ HKDW.out.set_ 2 _
    have kj2 : Blk W2 j 129 js := hW2 ▸ (Blk.via HBW.out KJ.out).far hjd _
    have ht2 : Turn (fun k => k = d) w W2 := hW2 ▸ Turn.set (S := fun k => k = d) (Turn.of_below HBW.out) (p := ⟨d, 2, none⟩) (.inl rfl) _
    have K2 := hide k2
    have KJ2 := hide kj2
    have HT2 := hide ht2
    clear hW2 k2 kj2 ht2 l2 f2 c2
    refine wp_region_inv_tail 18 [fun v _ => v = .pointer (some ⟨j, 0, none⟩), fun v _ => v = .pointer (some ⟨j, 0, none⟩), fun v _ => v = .pointer (some ⟨j, 0, none⟩), fun v _ => v = .pointer (some ⟨d, 0, none⟩), fun v _ => v = .pointer (some ⟨j, 0, none⟩), fun v _ => v = .pointer (some ⟨j, 0, none⟩), fun v _ => v = .pointer (some ⟨j, 0, none⟩), fun v _ => v = .pointer (some ⟨d, 0, none⟩), fun v _ => v = .pointer (some ⟨d, 0, none⟩), fun v _ => v = .pointer (some ⟨d, 5, none⟩), fun v _ => v = .int .i64 0, fun v _ => v = .pointer (some ⟨j, 0, none⟩), fun v _ => v = .pointer (some ⟨j, 0, none⟩), fun v _ => v = .pointer (some ⟨j, 1, none⟩), fun v _ => v = .int .i64 0, fun v _ => v = .int .i64 0, fun v _ => v = .pointer (some ⟨d, 0, none⟩), fun v _ => v = .pointer (some ⟨d, 5, none⟩)] (by kernel_rfl) (by kernel_rfl) (by kernel_rfl) (by kernel_rfl) (by kernel_rfl) (by first | simp | decide) (by kernel_rfl) ?st ?steps ?fin
    case st =>
      intro i v W W' _ h
      match i with
      | 0 | 1 | 2 | 3 | 4 | 5 | 6 | 7 | 8 | 9 | 10 | 11 | 12 | 13 | 14 | 15 | 16 | 17 => exact h
      | (i + 18) => exact h
    case steps =>
      simp only [stepsT, List.take_succ_cons, List.take_zero]
      refine ⟨?_, ?_, ?_, ?_, ?_, ?_, ?_, ?_, ?_, ?_, ?_, ?_, ?_, ?_, ?_, ?_, ?_, ?_, trivial⟩
      · intro f W hbW hdp
        simp only [fillF, Act.put, List.setIfInBounds_toArray, List.set_cons_succ, List.set_cons_zero, Nat.reduceAdd]
        go_wp2
        exact ⟨rfl, _, rfl, rfl, Below.refl _ _⟩
      · intro f W hbW hdp
        have e0 : f 0 = .pointer (some ⟨j, 0, none⟩) := hdp ⟨0, .data⟩ (List.mem_filter.2 ⟨by simp, rfl⟩)
        simp only [fillF, Act.put, List.setIfInBounds_toArray, List.set_cons_succ, List.set_cons_zero, Nat.reduceAdd, e0]
        go_wp2
        exact ⟨rfl, _, rfl, rfl, Below.refl _ _⟩
      · intro f W hbW hdp
        have e1 : f 1 = .pointer (some ⟨j, 0, none⟩) := hdp ⟨1, .data⟩ (List.mem_filter.2 ⟨by simp, rfl⟩)
        simp only [fillF, Act.put, List.setIfInBounds_toArray, List.set_cons_succ, List.set_cons_zero, Nat.reduceAdd, e1]
        go_wp2
        exact ⟨rfl, _, rfl, rfl, Below.refl _ _⟩
      · intro f W hbW hdp
        have e2 : f 2 = .pointer (some ⟨j, 0, none⟩) := hdp ⟨2, .data⟩ (List.mem_filter.2 ⟨by simp, rfl⟩)
        have q : W.cell? ⟨j, 0, none⟩ = some _ := ((Blk.via hbW KJ2.out).cell 0).trans HJ0.out
        simp only [fillF, Act.put, List.setIfInBounds_toArray, List.set_cons_succ, List.set_cons_zero, Nat.reduceAdd, e2]
        go_wp2
        exact ⟨rfl, _, rfl, rfl, Below.refl _ _⟩
      · intro f W hbW hdp
        simp only [fillF, Act.put, List.setIfInBounds_toArray, List.set_cons_succ, List.set_cons_zero, Nat.reduceAdd]
        go_wp2
        exact ⟨rfl, _, rfl, rfl, Below.refl _ _⟩
      · intro f W hbW hdp
        have e4 : f 4 = .pointer (some ⟨j, 0, none⟩) := hdp ⟨4, .data⟩ (List.mem_filter.2 ⟨by simp, rfl⟩)
        simp only [fillF, Act.put, List.setIfInBounds_toArray, List.set_cons_succ, List.set_cons_zero, Nat.reduceAdd, e4]
        go_wp2
        exact ⟨rfl, _, rfl, rfl, Below.refl _ _⟩
      · intro f W hbW hdp
        have e5 : f 5 = .pointer (some ⟨j, 0, none⟩) := hdp ⟨5, .data⟩ (List.mem_filter.2 ⟨by simp, rfl⟩)
        simp only [fillF, Act.put, List.setIfInBounds_toArray, List.set_cons_succ, List.set_cons_zero, Nat.reduceAdd, e5]
        go_wp2
        exact ⟨rfl, _, rfl, rfl, Below.refl _ _⟩
      · intro f W hbW hdp
        have e6 : f 6 = .pointer (some ⟨j, 0, none⟩) := hdp ⟨6, .data⟩ (List.mem_filter.2 ⟨by simp, rfl⟩)
        have q : W.cell? ⟨j, 0, none⟩ = some _ := ((Blk.via hbW KJ2.out).cell 0).trans HJ0.out
        simp only [fillF, Act.put, List.setIfInBounds_toArray, List.set_cons_succ, List.set_cons_zero, Nat.reduceAdd, e6]
        go_wp2
        exact ⟨rfl, _, rfl, rfl, Below.refl _ _⟩
      · intro f W hbW hdp
        have e7 : f 7 = .pointer (some ⟨d, 0, none⟩) := hdp ⟨7, .data⟩ (List.mem_filter.2 ⟨by simp, rfl⟩)
        simp only [fillF, Act.put, List.setIfInBounds_toArray, List.set_cons_succ, List.set_cons_zero, Nat.reduceAdd, e7]
        go_wp2
        exact ⟨rfl, _, rfl, rfl, Below.refl _ _⟩
      · intro f W hbW hdp
        have e8 : f 8 = .pointer (some ⟨d, 0, none⟩) := hdp ⟨8, .data⟩ (List.mem_filter.2 ⟨by simp, rfl⟩)
        simp only [fillF, Act.put, List.setIfInBounds_toArray, List.set_cons_succ, List.set_cons_zero, Nat.reduceAdd, e8]
        go_wp2
        exact ⟨rfl, _, rfl, rfl, Below.refl _ _⟩
      · intro f W hbW hdp
        have e9 : f 9 = .pointer (some ⟨d, 5, none⟩) := hdp ⟨9, .data⟩ (List.mem_filter.2 ⟨by simp, rfl⟩)
        have q : W.cell? ⟨d, 5, none⟩ = some (.int .i64 0) := (Blk.via hbW K2.out).cell 5
        simp only [fillF, Act.put, List.setIfInBounds_toArray, List.set_cons_succ, List.set_cons_zero, Nat.reduceAdd, e9]
        go_wp2
        exact ⟨rfl, _, rfl, rfl, Below.refl _ _⟩
      · intro f W hbW hdp
        simp only [fillF, Act.put, List.setIfInBounds_toArray, List.set_cons_succ, List.set_cons_zero, Nat.reduceAdd]
        go_wp2
        exact ⟨rfl, _, rfl, rfl, Below.refl _ _⟩
      · intro f W hbW hdp
        have e11 : f 11 = .pointer (some ⟨j, 0, none⟩) := hdp ⟨11, .data⟩ (List.mem_filter.2 ⟨by simp, rfl⟩)
        simp only [fillF, Act.put, List.setIfInBounds_toArray, List.set_cons_succ, List.set_cons_zero, Nat.reduceAdd, e11]
        go_wp2
        exact ⟨rfl, _, rfl, rfl, Below.refl _ _⟩
      · intro f W hbW hdp
        have e12 : f 12 = .pointer (some ⟨j, 0, none⟩) := hdp ⟨12, .data⟩ (List.mem_filter.2 ⟨by simp, rfl⟩)
        simp only [fillF, Act.put, List.setIfInBounds_toArray, List.set_cons_succ, List.set_cons_zero, Nat.reduceAdd, e12]
        go_wp2
        exact ⟨rfl, _, rfl, rfl, Below.refl _ _⟩
      · intro f W hbW hdp
        have e13 : f 13 = .pointer (some ⟨j, 1, none⟩) := hdp ⟨13, .data⟩ (List.mem_filter.2 ⟨by simp, rfl⟩)
        have q : W.cell? ⟨j, 1, none⟩ = some _ := ((Blk.via hbW KJ2.out).cell 1).trans HJ1.out
        simp only [fillF, Act.put, List.setIfInBounds_toArray, List.set_cons_succ, List.set_cons_zero, Nat.reduceAdd, e13]
        go_wp2
        exact ⟨rfl, _, rfl, rfl, Below.refl _ _⟩
      · intro f W hbW hdp
        have e10 : f 10 = .int .i64 0 := hdp ⟨10, .data⟩ (List.mem_filter.2 ⟨by simp, rfl⟩)
        have e14 : f 14 = .int .i64 0 := hdp ⟨14, .data⟩ (List.mem_filter.2 ⟨by simp, rfl⟩)
        simp only [fillF, Act.put, List.setIfInBounds_toArray, List.set_cons_succ, List.set_cons_zero, Nat.reduceAdd, e10, e14]
        go_wp2
        exact ⟨rfl, _, rfl, rfl, Below.refl _ _⟩
      · intro f W hbW hdp
        have e3 : f 3 = .pointer (some ⟨d, 0, none⟩) := hdp ⟨3, .data⟩ (List.mem_filter.2 ⟨by simp, rfl⟩)
        simp only [fillF, Act.put, List.setIfInBounds_toArray, List.set_cons_succ, List.set_cons_zero, Nat.reduceAdd, e3]
        go_wp2
        exact ⟨rfl, _, rfl, rfl, Below.refl _ _⟩
      · intro f W hbW hdp
        have e16 : f 16 = .pointer (some ⟨d, 0, none⟩) := hdp ⟨16, .data⟩ (List.mem_filter.2 ⟨by simp, rfl⟩)
        simp only [fillF, Act.put, List.setIfInBounds_toArray, List.set_cons_succ, List.set_cons_zero, Nat.reduceAdd, e16]
        go_wp2
        exact ⟨rfl, _, rfl, rfl, Below.refl _ _⟩
    case fin =>
      intro f W hbW hA
      have e15 : f 15 = .int .i64 0 := hA 15 (by omega)
      have e17 : f 17 = .pointer (some ⟨d, 5, none⟩) := hA 17 (by omega)
      simp only [List.drop_succ_cons, List.drop_zero, List.take_succ_cons, List.take_zero, fillF, Act.put, List.setIfInBounds_toArray, List.set_cons_succ, List.set_cons_zero, Nat.reduceAdd, e15, e17]
      clear hA e15 e17
      have kd := Blk.via hbW K2.out
      have l5 := kd.lt
      have f5 := kd.frozen 5
      have c5 := kd.cell 5
      have HKDW3 := hide kd
      have HBW3 := hide hbW
      clear hbW kd
      go_wp2_with fail
      go_end0
      exact ⟨⟨_, rfl⟩, HKDW3.out.set_ 5 _, Turn.set (S := fun k => k = d) (HT2.out.trans (Turn.of_below HBW3.out)) (p := ⟨d, 5, none⟩) (.inl rfl) _⟩
def CutP (w : World) (d : Nat) (sv mv : Value) (stale fuse : Int) (e : Ending) (w' : World) : Prop :=
  e = .returned (.int .i64 0) ∧ ∃ o', Blk w' d 107 (devC sv mv (.slice none 0 0) stale 0 0 fuse o') ∧ Turn (fun k => k = d) w w'
set_option maxHeartbeats 6400000 in
set_option maxRecDepth 100000 in
/-- dev.Cut where there is nothing. -/
theorem devCut_any (d : Nat) (sv mv : Value) (stale fuse o : Int) (w : World) (k : Blk w d 107 (devC sv mv (.slice none 0 0) stale 0 0 fuse o)) :
    Calls Tryz.prog 44 #[.pointer (some ⟨d, 0, none⟩), .int .i64 0] w (CutP w d sv mv stale fuse) := by
  have hmf : ∀ (fn : Fn) (first cap : Array Value) (w : World), (Instr.makeFunc fn first cap).run Tryz.prog w = .ok (.func fn first cap) w := fun _ _ _ _ => rfl
  have HK := hide k
  clear k
  obtain ⟨X, hX⟩ : ∃ X, X = (Tryz.zeroCells129.setIfInBounds 0 (.pointer (some ⟨d, 0, none⟩))).setIfInBounds 1 (.int .i64 0) := ⟨_, rfl⟩
  have HX := hide hX
  have hJ : JobC X d 0 (.slice none 0 0) := by
    rw [hX]
    refine ⟨?_, ?_, ?_⟩
    · rw [Array.getElem?_setIfInBounds, if_neg (by decide), Array.getElem?_setIfInBounds, if_pos rfl, if_pos (by rw [zeros_job]; decide)]
    · rw [Array.getElem?_setIfInBounds, if_pos rfl, if_pos (by rw [Array.size_setIfInBounds, zeros_job]; decide)]
    · rw [Array.getElem?_setIfInBounds, if_neg (by decide), Array.getElem?_setIfInBounds, if_neg (by decide)]
      kernel_rfl
  have hsz : X.size = 515 := by rw [hX, Array.size_setIfInBounds, Array.size_setIfInBounds, zeros_job]
  have h1c : X.all (·.oneCell') = true := by
    rw [hX]
    exact all_set (all_set zero_job_one 0 rfl) 1 rfl
  have HII := hide (show (Tryz.prog.info? 129).map (·.size) = some X.size by rw [hsz]; exact info_job)
  have HZ := hide (show Tryz.zeroCells129.size = X.size by rw [hsz]; exact zeros_job)
  have H1 := hide h1c
  have HJ := hide hJ
  clear hX hJ hsz h1c
  go_enter Tryz.func44, Tryz.ntmps44
  go_wp2_with (refine wpList_store_row rfl 129 (.tmp 5) (.tmp 10) rfl w.heap.size X rfl (by rw [HX.out]; rfl) 129 _ (Blk.new w _ _) HII.out HZ.out H1.out ?_)
  refine nameW (w := World.setRow _ w.heap.size X) (R := fun W => Calls Tryz.prog _ _ W _) (fun W2 hW2 => ?_)
  have kj2 : Blk W2 w.heap.size 129 X := by
    rw [hW2]
    exact setRow_heap _ w.heap.size _ _ _ _ (Blk.new w _ _)
  have hb2 : Below w.heap.size w W2 := by
    rw [hW2]
    exact (touch_setRow _ w.heap.size X).below ((Below.refl w.heap.size w).alloc (Nat.le_refl _) _) (Nat.le_refl _)
  have hdl := HK.out.lt
  have hz2 := kj2.lt
  clear hW2
  refine (spans_any d 0 sv mv none 0 0 stale 0 0 fuse o W2 (by omega) (by omega) (by omega) (by omega) (by omega) (Blk.via hb2 HK.out)).mono ?_
  rintro e W3 ⟨rfl, hb3⟩
  go_wp2_with fail
  have kj3 := Blk.via hb3 kj2
  have kd3 := Blk.via hb3 (Blk.via hb2 HK.out)
  have hz3 := hb3.size
  have hb4 : Below W3.heap.size W3 (W3.alloc (.cells #[.pointer (some ⟨d, 0, none⟩)] 28)) := (Below.refl _ _).alloc (Nat.le_refl _) _
  have kd4 := Blk.via hb4 kd3
  have kb4 := Blk.new W3 28 #[.pointer (some ⟨d, 0, none⟩)]
  have hact := jobCut_any w.heap.size d (.slice none 0 0) sv mv stale fuse o (W3.alloc (.cells #[.pointer (some ⟨d, 0, none⟩)] 28)) kd4 X (Blk.via hb4 kj3) HJ.out
  have hR : DoR W3.heap.size d (fun W => Blk W d 107 (devC sv mv (.slice none 0 0) stale 0 0 fuse o) ∧ Turn (fun k => k = d) (W3.alloc (.cells #[.pointer (some ⟨d, 0, none⟩)] 28)) W) := by
    rintro W ⟨g1, g3⟩
    exact ⟨(g3.block _ kb4.lt (by omega)).trans kb4, _, o, g1, rfl, rfl⟩
  have HD := hide (do_any d 110 (.pointer (some ⟨w.heap.size, 0, none⟩)) _ _ W3 kd3 rfl rfl hR (fun W => by simp [go_sem]) hact)
  have HF := hide (show ∀ w', (∃ W o', (Blk W d 107 (devC sv mv (.slice none 0 0) stale 0 0 fuse o) ∧ Turn (fun k => k = d) (W3.alloc (.cells #[.pointer (some ⟨d, 0, none⟩)] 28)) W) ∧ w' = W.setCell ⟨d, 9, none⟩ (.int .i64 o')) → CutP w d sv mv stale fuse (.returned (.int .i64 0)) w' from by
    rintro w' ⟨W, o', ⟨g1, g3⟩, rfl⟩
    have hT : Turn (fun k => k = d) w W := (Turn.of_below hb2).trans ((Turn.of_below hb3).trans ((Turn.of_below hb4).trans g3))
    exact ⟨rfl, o', g1.set_ 9 _, Turn.set (S := fun k => k = d) hT (p := ⟨d, 9, none⟩) (.inl rfl) _⟩)
  clear hact hR kb4 kd4 hb4 kd3 kj3 hb3 hb2 kj2
  refine HD.out.mono ?_
  rintro e w' ⟨rfl, hw'⟩
  have HL := hide (HF.out w' hw')
  clear hw'
  go_wp2
  go_ret
  exact HL.out
end Go.Proofs.YtnanlaefehaifaaGreat
