/-
  WALKS OF THE PROGRAM: wal.Log.Head, End, size, Room.
-/
import Derived.Test.YtnanlaefehaifaaGreatRZf
namespace Go.Proofs.YtnanlaefehaifaaGreat
open Go.RowKit

/-- A log: its device, its limit, what is kept, up to where it is safe, its records, its places. -/
def logC (d : Nat) (limit kept forced : Int) (m : Nat) (pv : Value) : Array Value := #[.pointer (some ⟨d, 0, none⟩), .int .i64 limit, .int .i64 kept, .int .i64 forced, .map (some m), pv]
section
variable (l d : Nat) (limit kept forced : Int) (m : Nat) (pv sv mv : Value) (A : Option Addr) (n c : Nat) (stale head sure fuse o : Int) (w : World)
set_option maxHeartbeats 1600000 in
set_option maxRecDepth 100000 in
theorem walHead_any (kl : Blk w l 97 (logC d limit kept forced m pv)) (kd : Blk w d 107 (devC sv mv (.slice A n c) stale head sure fuse o)) :
    Calls Tryz.prog 51 #[.pointer (some ⟨l, 0, none⟩)] w fun e w' => e = .returned (.int .i64 head) ∧ w' = w := by
  have HD := hide (devHead_any d sv mv (.slice A n c) stale head sure fuse o w kd)
  have c0 : w.cell? ⟨l, 0, none⟩ = some _ := kl.cell 0
  clear kl kd
  go_enter Tryz.func51, Tryz.ntmps51
  go_wp2_with (refine HD.out.mono ?_; rintro e w1 ⟨rfl, hw1⟩; obtain rfl := hw1.symm)
  go_ret
  exact ⟨rfl, rfl⟩
set_option maxHeartbeats 1600000 in
set_option maxRecDepth 100000 in
theorem walEnd_any (hh : 0 ≤ head) (hh2 : head ≤ 100000000) (hn : n ≤ 100000000) (kl : Blk w l 97 (logC d limit kept forced m pv)) (kd : Blk w d 107 (devC sv mv (.slice A n c) stale head sure fuse o)) :
    Calls Tryz.prog 45 #[.pointer (some ⟨l, 0, none⟩)] w fun e w' => e = .returned (.int .i64 (head + n)) ∧ Below w.heap.size w w' := by
  have HD := hide (devEnd_any d sv mv A n c stale head sure fuse o w hh hh2 hn kd)
  have c0 : w.cell? ⟨l, 0, none⟩ = some _ := kl.cell 0
  clear kl kd
  go_enter Tryz.func45, Tryz.ntmps45
  go_wp2_with (refine HD.out.mono ?_; rintro e w1 ⟨rfl, hb1⟩)
  go_ret
  exact ⟨rfl, hb1⟩
set_option maxHeartbeats 1600000 in
set_option maxRecDepth 100000 in
theorem walSize_any (hh : 0 ≤ head) (hh2 : head ≤ 100000000) (hn : n ≤ 100000000) (kl : Blk w l 97 (logC d limit kept forced m pv)) (kd : Blk w d 107 (devC sv mv (.slice A n c) stale head sure fuse o)) :
    Calls Tryz.prog 118 #[.pointer (some ⟨l, 0, none⟩)] w fun e w' => e = .returned (.int .i64 (n : Nat)) ∧ Below w.heap.size w w' := by
  have HE := hide (walEnd_any l d limit kept forced m pv sv mv A n c stale head sure fuse o w hh hh2 hn kl kd)
  have HH := hide (fun W (hb : Below w.heap.size w W) => walHead_any l d limit kept forced m pv sv mv A n c stale head sure fuse o W (Blk.via hb kl) (Blk.via hb kd))
  clear kl kd
  go_enter Tryz.func118, Tryz.ntmps118
  go_wp2_with fail
  refine HE.out.mono ?_
  rintro e w1 ⟨rfl, hb1⟩
  go_wp2_with fail
  refine (HH.out w1 hb1).mono ?_
  rintro e w2 ⟨rfl, hw2⟩
  obtain rfl := hw2.symm
  have e1 : head + (n : Int) - head = n := by omega
  go_wp2
  go_ret
  exact ⟨ret_int (by omega), hb1⟩
set_option maxHeartbeats 6400000 in
set_option maxRecDepth 100000 in
theorem walRoom_any (hh : 0 ≤ head) (hh2 : head ≤ 100000000) (hn : n ≤ 100000000) (hk : 0 ≤ kept) (hk2 : kept ≤ 100000000) (hl : 0 ≤ limit) (hl2 : limit ≤ 100000000) (kl : Blk w l 97 (logC d limit kept forced m pv)) (kd : Blk w d 107 (devC sv mv (.slice A n c) stale head sure fuse o)) :
    Calls Tryz.prog 48 #[.pointer (some ⟨l, 0, none⟩)] w fun e w' => e = .returned (.int .i64 (limit - n - kept)) ∧ Below w.heap.size w w' := by
  have KL := hide kl
  have KD := hide kd
  clear kl kd
  go_enter Tryz.func48, Tryz.ntmps48
  go_upto_region 3 with (fail)
  refine wp_region_inv [fun v _ => v = .pointer (some ⟨l, 0, none⟩), fun v _ => v = .pointer (some ⟨l, 0, none⟩), fun v _ => v = .pointer (some ⟨l, 1, none⟩), fun v _ => v = .int .i64 limit, fun v _ => v = .pointer (some ⟨l, 0, none⟩), fun v _ => v = .int .i64 (n : Nat), fun v _ => v = .int .i64 (limit - n), fun v _ => v = .pointer (some ⟨l, 0, none⟩), fun v _ => v = .pointer (some ⟨l, 0, none⟩), fun v _ => v = .pointer (some ⟨l, 2, none⟩), fun v _ => v = .int .i64 kept, fun v _ => v = .int .i64 (limit - n - kept), fun v _ => v = .int .i64 (limit - n - kept)] (by kernel_rfl) (by kernel_rfl) (by kernel_rfl) ?st ?steps ?fin
  case st =>
    intro i v W W' _ h
    match i with
    | 0 | 1 | 2 | 3 | 4 | 5 | 6 | 7 | 8 | 9 | 10 | 11 | 12 => exact h
    | (i + 13) => exact h
  case steps =>
    simp only [stepsI]
    refine ⟨?_, ?_, ?_, ?_, ?_, ?_, ?_, ?_, ?_, ?_, ?_, ?_, ?_, trivial⟩
    · intro f W hbW hdp
      simp only [fillF, Act.put, List.setIfInBounds_toArray, List.set_cons_succ, List.set_cons_zero, Nat.reduceAdd]
      go_wp2
      exact ⟨rfl, _, rfl, rfl, Below.refl _ _⟩
    · intro f W hbW hdp
      have e0 : f 0 = .pointer (some ⟨l, 0, none⟩) := hdp ⟨0, .data⟩ (List.mem_filter.2 ⟨by simp, rfl⟩)
      simp only [fillF, Act.put, List.setIfInBounds_toArray, List.set_cons_succ, List.set_cons_zero, Nat.reduceAdd, e0]
      go_wp2
      exact ⟨rfl, _, rfl, rfl, Below.refl _ _⟩
    · intro f W hbW hdp
      have e1 : f 1 = .pointer (some ⟨l, 0, none⟩) := hdp ⟨1, .data⟩ (List.mem_filter.2 ⟨by simp, rfl⟩)
      simp only [fillF, Act.put, List.setIfInBounds_toArray, List.set_cons_succ, List.set_cons_zero, Nat.reduceAdd, e1]
      go_wp2
      exact ⟨rfl, _, rfl, rfl, Below.refl _ _⟩
    · intro f W hbW hdp
      have e2 : f 2 = .pointer (some ⟨l, 1, none⟩) := hdp ⟨2, .data⟩ (List.mem_filter.2 ⟨by simp, rfl⟩)
      have q : W.cell? ⟨l, 1, none⟩ = some (.int .i64 limit) := (Blk.via hbW KL.out).cell 1
      simp only [fillF, Act.put, List.setIfInBounds_toArray, List.set_cons_succ, List.set_cons_zero, Nat.reduceAdd, e2]
      go_wp2
      exact ⟨rfl, _, rfl, rfl, Below.refl _ _⟩
    · intro f W hbW hdp
      simp only [fillF, Act.put, List.setIfInBounds_toArray, List.set_cons_succ, List.set_cons_zero, Nat.reduceAdd]
      go_wp2
      exact ⟨rfl, _, rfl, rfl, Below.refl _ _⟩
    · intro f W hbW hdp
      have e4 : f 4 = .pointer (some ⟨l, 0, none⟩) := hdp ⟨4, .data⟩ (List.mem_filter.2 ⟨by simp, rfl⟩)
      simp only [fillF, Act.put, List.setIfInBounds_toArray, List.set_cons_succ, List.set_cons_zero, Nat.reduceAdd, e4]
      go_wp2_with fail
      refine (walSize_any l d limit kept forced m pv sv mv A n c stale head sure fuse o W hh hh2 hn (Blk.via hbW KL.out) (Blk.via hbW KD.out)).mono ?_
      rintro e W' ⟨rfl, hb'⟩
      go_wp2_with fail
      exact ⟨rfl, _, rfl, rfl, hb'⟩
    · intro f W hbW hdp
      have e3 : f 3 = .int .i64 limit := hdp ⟨3, .data⟩ (List.mem_filter.2 ⟨by simp, rfl⟩)
      have e5 : f 5 = .int .i64 (n : Nat) := hdp ⟨5, .data⟩ (List.mem_filter.2 ⟨by simp, rfl⟩)
      simp only [fillF, Act.put, List.setIfInBounds_toArray, List.set_cons_succ, List.set_cons_zero, Nat.reduceAdd, e3, e5]
      go_wp2
      exact ⟨rfl, _, rfl, rfl, Below.refl _ _⟩
    · intro f W hbW hdp
      simp only [fillF, Act.put, List.setIfInBounds_toArray, List.set_cons_succ, List.set_cons_zero, Nat.reduceAdd]
      go_wp2
      exact ⟨rfl, _, rfl, rfl, Below.refl _ _⟩
    · intro f W hbW hdp
      have e7 : f 7 = .pointer (some ⟨l, 0, none⟩) := hdp ⟨7, .data⟩ (List.mem_filter.2 ⟨by simp, rfl⟩)
      simp only [fillF, Act.put, List.setIfInBounds_toArray, List.set_cons_succ, List.set_cons_zero, Nat.reduceAdd, e7]
      go_wp2
      exact ⟨rfl, _, rfl, rfl, Below.refl _ _⟩
    · intro f W hbW hdp
      have e8 : f 8 = .pointer (some ⟨l, 0, none⟩) := hdp ⟨8, .data⟩ (List.mem_filter.2 ⟨by simp, rfl⟩)
      simp only [fillF, Act.put, List.setIfInBounds_toArray, List.set_cons_succ, List.set_cons_zero, Nat.reduceAdd, e8]
      go_wp2
      exact ⟨rfl, _, rfl, rfl, Below.refl _ _⟩
    · intro f W hbW hdp
      have e9 : f 9 = .pointer (some ⟨l, 2, none⟩) := hdp ⟨9, .data⟩ (List.mem_filter.2 ⟨by simp, rfl⟩)
      have q : W.cell? ⟨l, 2, none⟩ = some (.int .i64 kept) := (Blk.via hbW KL.out).cell 2
      simp only [fillF, Act.put, List.setIfInBounds_toArray, List.set_cons_succ, List.set_cons_zero, Nat.reduceAdd, e9]
      go_wp2
      exact ⟨rfl, _, rfl, rfl, Below.refl _ _⟩
    · intro f W hbW hdp
      have e6 : f 6 = .int .i64 (limit - n) := hdp ⟨6, .data⟩ (List.mem_filter.2 ⟨by simp, rfl⟩)
      have e10 : f 10 = .int .i64 kept := hdp ⟨10, .data⟩ (List.mem_filter.2 ⟨by simp, rfl⟩)
      simp only [fillF, Act.put, List.setIfInBounds_toArray, List.set_cons_succ, List.set_cons_zero, Nat.reduceAdd, e6, e10]
      go_wp2
      exact ⟨rfl, _, rfl, rfl, Below.refl _ _⟩
    · intro f W hbW hdp
      have e11 : f 11 = .int .i64 (limit - n - kept) := hdp ⟨11, .data⟩ (List.mem_filter.2 ⟨by simp, rfl⟩)
      simp only [fillF, Act.put, List.setIfInBounds_toArray, List.set_cons_succ, List.set_cons_zero, Nat.reduceAdd, e11]
      go_wp2
      exact ⟨rfl, _, rfl, rfl, Below.refl _ _⟩
  case fin =>
    intro f W hbW hA
    have e12 : f 12 = .int .i64 (limit - n - kept) := hA 12 (by simp)
    show wpList Tryz.prog #[] (Exit.then _ _) [] _ _
    simp only [fillF, Act.put, List.setIfInBounds_toArray, List.set_cons_succ, List.set_cons_zero, Nat.reduceAdd, e12]
    clear hA e12
    go_wp2
    go_ret
    exact ⟨rfl, hbW⟩
end
end Go.Proofs.YtnanlaefehaifaaGreat
