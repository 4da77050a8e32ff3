/-
  WALKS OF THE PROGRAM: the job's operation 'free' (of all that there is).
-/
import Derived.Test.YtnanlaefehaifaaGreatRZ
namespace Go.Proofs.YtnanlaefehaifaaGreat
open Go.RowKit

set_option maxHeartbeats 12800000 in
set_option maxRecDepth 100000 in
/-- The job's operation 'free', of all that there is. -/
theorem jobFree_any (j d L : Nat) (p : Int) (bv sv mv lv : Value) (bs : List UInt8) (stale head sure fuse o : Int) (w : World) (hm : bs.length ≤ 100000000) (hm0 : 0 < bs.length) (hst : 0 ≤ stale) (hst2 : stale ≤ 100000000) (hp : p = head + bs.length) (k : Blk w d 107 (devC sv mv lv stale head sure fuse o)) (js : Array Value) (kj : Blk w j 129 js) (hj : JobC js d p bv)
    (ho : OwnB w L lv bs) :
    Calls Tryz.prog 122 #[.pointer (some ⟨j, 0, none⟩)] w fun e w' => (∃ v, e = .returned v) ∧ ∃ lv', Blk w' d 107 (devC sv mv lv' 0 p (max sure p) fuse o) ∧ OwnB w' w.heap.size lv' [] ∧ Turn (fun k => k = d) w w' := by
  obtain ⟨A, c, rfl, hnc, hcm, junk⟩ := own_slice ho
  have hg : ∃ g, A = some ⟨g, 0, none⟩ := by
    rcases ho.2 with ⟨_, h2⟩ | ⟨g, cap, cur, h2, _⟩
    · omega
    · injection h2 with h2 _ _
      exact ⟨g, h2⟩
  obtain ⟨g, rfl⟩ := hg
  obtain ⟨j0, j1, _⟩ := hj
  have q0 : w.cell? ⟨j, 0, none⟩ = some (.pointer (some ⟨d, 0, none⟩)) := (kj.cell 0).trans j0
  have q1 : w.cell? ⟨j, 1, none⟩ = some (.int .i64 p) := (kj.cell 1).trans j1
  have d2 : w.cell? ⟨d, 2, none⟩ = some (.slice (some ⟨g, 0, none⟩) bs.length c) := k.cell 2
  have d4 : w.cell? ⟨d, 4, none⟩ = some (.int .i64 head) := k.cell 4
  have KD := hide k
  have KJ := hide kj
  have HJ0 := hide j0
  have HJ1 := hide j1
  have ld := k.lt
  have lj := kj.lt
  have hjd := kj.ne_ k (by decide)
  have HO := hide ho
  obtain ⟨n, hn⟩ : ∃ n, n = bs.length := ⟨_, rfl⟩
  rw [← hn] at hm hm0 hp d2 hnc
  have HN := hide hn
  have HP := hide hp
  have hpn : p - head = n := by omega
  clear junk k kj j0 j1 ho hn hp
  go_enter Tryz.func122, Tryz.ntmps122
  go_upto_region 1 with (fail)
  go_quiet (fail)
  refine nameW (w := World.drewN w _) (R := fun W => Exit.then _ _ Exit.normal _ W) (fun W1 hW1 => ?_)
  have kd1 : Blk W1 d 107 _ := hW1 ▸ KD.out.drewN _
  have kj1 : Blk W1 j 129 js := hW1 ▸ KJ.out.drewN _
  have ho1 : OwnB W1 L _ bs := hW1 ▸ (show OwnB (w.drewN _) L _ bs from HO.out.keep (fun _ _ => rfl))
  have hb1 : Below w.heap.size w W1 := hW1 ▸ below_of_drewN w _
  clear hW1 q0 q1 d2 d4
  have d2 : W1.cell? ⟨d, 2, none⟩ = some (.slice (some ⟨g, 0, none⟩) n c) := by rw [HN.out]; exact kd1.cell 2
  have d3 : W1.cell? ⟨d, 3, none⟩ = some (.int .i64 stale) := kd1.cell 3
  have f2 := kd1.frozen 2
  have f3 := kd1.frozen 3
  have ld1 := kd1.lt
  have KD1 := hide kd1
  have KJ1 := hide kj1
  have HO1 := hide ho1
  clear kd1 kj1 ho1
  show wpList Tryz.prog #[] (Exit.then _ _) [] _ _
  go_upto_region 4 with (fail)
  obtain ⟨ad, had⟩ : ∃ ad, (if c = n then some ⟨g, 0, none⟩ else some ⟨g, n, none⟩ : Option Addr) = some ad := by
    split
    · exact ⟨_, rfl⟩
    · exact ⟨_, rfl⟩
  rw [had]
  clear had
  have kd2 : Blk ((W1.setCell ⟨d, 2, none⟩ (.slice (some ad) 0 (c - n))).setCell ⟨d, 3, none⟩ (.int .i64 (stale + n))) d 107 (devC sv mv (.slice (some ad) 0 (c - n)) (stale + n) head sure fuse o) := (KD1.out.set_ 2 _).set_ 3 _
  have kj2 := (KJ1.out.far (p := ⟨d, 2, none⟩) hjd (.slice (some ad) 0 (c - n))).far (p := ⟨d, 3, none⟩) hjd (.int .i64 (stale + n))
  have hT2 : Turn (fun k => k = d) w ((W1.setCell ⟨d, 2, none⟩ (.slice (some ad) 0 (c - n))).setCell ⟨d, 3, none⟩ (.int .i64 (stale + n))) := Turn.set (S := fun k => k = d) (Turn.set (S := fun k => k = d) (Turn.of_below hb1) (p := ⟨d, 2, none⟩) (.inl rfl) _) (p := ⟨d, 3, none⟩) (.inl rfl) _
  generalize (W1.setCell ⟨d, 2, none⟩ (.slice (some ad) 0 (c - n))).setCell ⟨d, 3, none⟩ (.int .i64 (stale + n)) = W2 at *
  clear d2 d3 f2 f3 ld1 hb1
  have d2 : W2.cell? ⟨d, 2, none⟩ = some (.slice (some ad) 0 (c - n)) := kd2.cell 2
  have d3 : W2.cell? ⟨d, 3, none⟩ = some (.int .i64 (stale + n)) := kd2.cell 3
  have KD2 := hide kd2
  have KJ2 := hide kj2
  have HT2 := hide hT2
  have hpos : (0 : Int) < stale + n := by omega
  clear kd2 kj2 hT2
  go_quiet (fail)
  refine nameW (w := World.drewN W2 _) (R := fun W => Exit.then _ _ Exit.normal _ W) (fun W3 hW3 => ?_)
  have kd3 : Blk W3 d 107 _ := hW3 ▸ KD2.out.drewN _
  have kj3 : Blk W3 j 129 js := hW3 ▸ KJ2.out.drewN _
  have hT3 : Turn (fun k => k = d) w W3 := hW3 ▸ HT2.out.trans (Turn.of_below (below_of_drewN W2 _))
  clear hW3 d2 d3
  have d2 : W3.cell? ⟨d, 2, none⟩ = some (.slice (some ad) 0 (c - n)) := kd3.cell 2
  have KD3 := hide kd3
  have KJ3 := hide kj3
  have HT3 := hide hT3
  have hz3 := hT3.size
  clear kd3 kj3 hT3
  show wpList Tryz.prog #[] (Exit.then _ _) [] _ _
  go_wp2_with fail
  refine (cloneB_any (some ad) 0 (c - n) [] 0 W3 (Nat.zero_le _) (by omega) ⟨rfl, fun h => absurd h (by omega)⟩ (fun h => by cases h) (fun _ h => by cases h)).mono ?_
  rintro e W4 ⟨A4, c4, rfl, ho4, hb4⟩
  have kd4 := Blk.via hb4 KD3.out
  have kj4 := Blk.via hb4 KJ3.out
  have hT4 := HT3.out.trans (Turn.of_below hb4)
  have ho4 : OwnB W4 W3.heap.size (.slice A4 0 c4) [] := ho4
  have f2 := kd4.frozen 2
  have f3 := kd4.frozen 3
  have f4 := kd4.frozen 4
  have b2 : W4.cell? ⟨d, 2, none⟩ = some _ := kd4.cell 2
  have b3 : W4.cell? ⟨d, 3, none⟩ = some _ := kd4.cell 3
  have b4 : W4.cell? ⟨d, 4, none⟩ = some _ := kd4.cell 4
  have q1 : W4.cell? ⟨j, 1, none⟩ = some (.int .i64 p) := (kj4.cell 1).trans HJ1.out
  have ld4 := kd4.lt
  have lj4 := kj4.lt
  have hz4 := hT4.size
  have KD4 := hide kd4
  have KJ4 := hide kj4
  have HT4 := hide hT4
  have HO4 := hide (ho4.low hz3)
  clear kd4 kj4 hT4 ho4 hb4 d2
  go_upto_region 8 with (fail)
  have kd5 : Blk (((W4.setCell ⟨d, 2, none⟩ (.slice A4 0 c4)).setCell ⟨d, 3, none⟩ (.int .i64 0)).setCell ⟨d, 4, none⟩ (.int .i64 p)) d 107 (devC sv mv (.slice A4 0 c4) 0 p sure fuse o) := ((KD4.out.set_ 2 _).set_ 3 _).set_ 4 _
  have kj5 := ((KJ4.out.far (p := ⟨d, 2, none⟩) hjd (.slice A4 0 c4)).far (p := ⟨d, 3, none⟩) hjd (.int .i64 0)).far (p := ⟨d, 4, none⟩) hjd (.int .i64 p)
  have hT5 := Turn.set (S := fun k => k = d) (Turn.set (S := fun k => k = d) (Turn.set (S := fun k => k = d) HT4.out (p := ⟨d, 2, none⟩) (.inl rfl) (.slice A4 0 c4)) (p := ⟨d, 3, none⟩) (.inl rfl) (.int .i64 0)) (p := ⟨d, 4, none⟩) (.inl rfl) (.int .i64 p)
  have ho5 := ((HO4.out.far KD4.out (i := 2) (by decide) (.slice A4 0 c4)).far (KD4.out.set_ 2 _) (i := 3) (by decide) (.int .i64 0)).far ((KD4.out.set_ 2 _).set_ 3 _) (i := 4) (by decide) (.int .i64 p)
  generalize ((W4.setCell ⟨d, 2, none⟩ (.slice A4 0 c4)).setCell ⟨d, 3, none⟩ (.int .i64 0)).setCell ⟨d, 4, none⟩ (.int .i64 p) = W5 at *
  have KD5 := hide kd5
  have KJ5 := hide kj5
  have HT5 := hide hT5
  have HO5 := hide ho5
  clear f2 f3 f4 b2 b3 b4 q1 kd5 kj5 hT5 ho5
  refine wp_region_inv_tail 12 [fun v _ => v = .pointer (some ⟨d, 0, none⟩), fun v _ => v = .pointer (some ⟨d, 0, none⟩), fun v _ => v = .pointer (some ⟨d, 0, none⟩), fun v _ => v = .pointer (some ⟨d, 5, none⟩), fun v _ => v = .int .i64 sure, fun v _ => v = .pointer (some ⟨j, 0, none⟩), fun v _ => v = .pointer (some ⟨j, 0, none⟩), fun v _ => v = .pointer (some ⟨j, 1, none⟩), fun v _ => v = .int .i64 p, fun v _ => v = .int .i64 (max sure p), fun v _ => v = .pointer (some ⟨d, 0, none⟩), fun v _ => v = .pointer (some ⟨d, 5, none⟩)] (by kernel_rfl) (by kernel_rfl) (by kernel_rfl) (by kernel_rfl) (by kernel_rfl) (by simp) (by kernel_rfl) ?st ?steps ?fin
  case st =>
    intro i v W W' _ h
    match i with
    | 0 | 1 | 2 | 3 | 4 | 5 | 6 | 7 | 8 | 9 | 10 | 11 => exact h
    | (i + 12) => exact h
  case steps =>
    simp only [stepsT, List.take_succ_cons, List.take_zero]
    refine ⟨?_, ?_, ?_, ?_, ?_, ?_, ?_, ?_, ?_, ?_, ?_, ?_, trivial⟩
    · intro f W hbW hdp
      simp only [fillF, Act.put, List.setIfInBounds_toArray, List.set_cons_succ, List.set_cons_zero, Nat.reduceAdd]
      go_wp2
      exact ⟨rfl, _, rfl, rfl, Below.refl _ _⟩
    · intro f W hbW hdp
      simp only [fillF, Act.put, List.setIfInBounds_toArray, List.set_cons_succ, List.set_cons_zero, Nat.reduceAdd]
      go_wp2
      exact ⟨rfl, _, rfl, rfl, Below.refl _ _⟩
    · intro f W hbW hdp
      have e1 : f 1 = .pointer (some ⟨d, 0, none⟩) := hdp ⟨1, .data⟩ (List.mem_filter.2 ⟨by simp, rfl⟩)
      simp only [fillF, Act.put, List.setIfInBounds_toArray, List.set_cons_succ, List.set_cons_zero, Nat.reduceAdd, e1]
      go_wp2
      exact ⟨rfl, _, rfl, rfl, Below.refl _ _⟩
    · intro f W hbW hdp
      have e2 : f 2 = .pointer (some ⟨d, 0, none⟩) := hdp ⟨2, .data⟩ (List.mem_filter.2 ⟨by simp, rfl⟩)
      simp only [fillF, Act.put, List.setIfInBounds_toArray, List.set_cons_succ, List.set_cons_zero, Nat.reduceAdd, e2]
      go_wp2
      exact ⟨rfl, _, rfl, rfl, Below.refl _ _⟩
    · intro f W hbW hdp
      have e3 : f 3 = .pointer (some ⟨d, 5, none⟩) := hdp ⟨3, .data⟩ (List.mem_filter.2 ⟨by simp, rfl⟩)
      have q : W.cell? ⟨d, 5, none⟩ = some (.int .i64 sure) := (Blk.via hbW KD5.out).cell 5
      simp only [fillF, Act.put, List.setIfInBounds_toArray, List.set_cons_succ, List.set_cons_zero, Nat.reduceAdd, e3]
      go_wp2
      exact ⟨rfl, _, rfl, rfl, Below.refl _ _⟩
    · intro f W hbW hdp
      simp only [fillF, Act.put, List.setIfInBounds_toArray, List.set_cons_succ, List.set_cons_zero, Nat.reduceAdd]
      go_wp2
      exact ⟨rfl, _, rfl, rfl, Below.refl _ _⟩
    · intro f W hbW hdp
      have e5 : f 5 = .pointer (some ⟨j, 0, none⟩) := hdp ⟨5, .data⟩ (List.mem_filter.2 ⟨by simp, rfl⟩)
      simp only [fillF, Act.put, List.setIfInBounds_toArray, List.set_cons_succ, List.set_cons_zero, Nat.reduceAdd, e5]
      go_wp2
      exact ⟨rfl, _, rfl, rfl, Below.refl _ _⟩
    · intro f W hbW hdp
      have e6 : f 6 = .pointer (some ⟨j, 0, none⟩) := hdp ⟨6, .data⟩ (List.mem_filter.2 ⟨by simp, rfl⟩)
      simp only [fillF, Act.put, List.setIfInBounds_toArray, List.set_cons_succ, List.set_cons_zero, Nat.reduceAdd, e6]
      go_wp2
      exact ⟨rfl, _, rfl, rfl, Below.refl _ _⟩
    · intro f W hbW hdp
      have e7 : f 7 = .pointer (some ⟨j, 1, none⟩) := hdp ⟨7, .data⟩ (List.mem_filter.2 ⟨by simp, rfl⟩)
      have q : W.cell? ⟨j, 1, none⟩ = some (.int .i64 p) := ((Blk.via hbW KJ5.out).cell 1).trans HJ1.out
      simp only [fillF, Act.put, List.setIfInBounds_toArray, List.set_cons_succ, List.set_cons_zero, Nat.reduceAdd, e7]
      go_wp2
      exact ⟨rfl, _, rfl, rfl, Below.refl _ _⟩
    · intro f W hbW hdp
      have e4 : f 4 = .int .i64 sure := hdp ⟨4, .data⟩ (List.mem_filter.2 ⟨by simp, rfl⟩)
      have e8 : f 8 = .int .i64 p := hdp ⟨8, .data⟩ (List.mem_filter.2 ⟨by simp, rfl⟩)
      simp only [fillF, Act.put, List.setIfInBounds_toArray, List.set_cons_succ, List.set_cons_zero, Nat.reduceAdd, e4, e8]
      go_wp2
      all_goals exact ⟨rfl, _, rfl, congrArg (Value.int IntKind.i64) (by omega), Below.refl _ _⟩
    · intro f W hbW hdp
      have e0 : f 0 = .pointer (some ⟨d, 0, none⟩) := hdp ⟨0, .data⟩ (List.mem_filter.2 ⟨by simp, rfl⟩)
      simp only [fillF, Act.put, List.setIfInBounds_toArray, List.set_cons_succ, List.set_cons_zero, Nat.reduceAdd, e0]
      go_wp2
      exact ⟨rfl, _, rfl, rfl, Below.refl _ _⟩
    · intro f W hbW hdp
      have e10 : f 10 = .pointer (some ⟨d, 0, none⟩) := hdp ⟨10, .data⟩ (List.mem_filter.2 ⟨by simp, rfl⟩)
      simp only [fillF, Act.put, List.setIfInBounds_toArray, List.set_cons_succ, List.set_cons_zero, Nat.reduceAdd, e10]
      go_wp2
      exact ⟨rfl, _, rfl, rfl, Below.refl _ _⟩
  case fin =>
    intro f W hbW hA
    have e9 : f 9 = .int .i64 (max sure p) := hA 9 (by omega)
    have e11 : f 11 = .pointer (some ⟨d, 5, none⟩) := hA 11 (by omega)
    have kd := Blk.via hbW KD5.out
    have q5 : W.cell? ⟨d, 5, none⟩ = some (.int .i64 sure) := kd.cell 5
    have f5 := kd.frozen 5
    have ldW := kd.lt
    have HE := hide (show ∃ lv', Blk (W.setCell ⟨d, 5, none⟩ (.int .i64 (max sure p))) d 107 (devC sv mv lv' 0 p (max sure p) fuse o) ∧ OwnB (W.setCell ⟨d, 5, none⟩ (.int .i64 (max sure p))) w.heap.size lv' [] ∧ Turn (fun k => k = d) w (W.setCell ⟨d, 5, none⟩ (.int .i64 (max sure p))) from
      ⟨_, kd.set_ 5 _, (HO5.out.via hbW).far kd (i := 5) (by decide) _, Turn.set (S := fun k => k = d) (HT5.out.trans (Turn.of_below hbW)) (p := ⟨d, 5, none⟩) (.inl rfl) _⟩)
    simp only [List.drop_succ_cons, List.drop_zero, fillF, List.take_succ_cons, List.take_zero, Act.put, List.setIfInBounds_toArray, List.set_cons_succ, List.set_cons_zero, Nat.reduceAdd, e9, e11]
    clear hA e9 e11 kd
    go_wp2
    go_end0
    exact ⟨⟨_, rfl⟩, HE.out⟩
/-- What freeing all of the log leaves: nothing in it. -/
def FreeP (w : World) (d : Nat) (sv mv : Value) (p sure fuse : Int) (e : Ending) (w' : World) : Prop :=
  e = .returned (.int .i64 0) ∧ ∃ lv' o', Blk w' d 107 (devC sv mv lv' 0 p sure fuse o') ∧ OwnB w' w.heap.size lv' [] ∧ Turn (fun k => k = d) w w'
set_option maxHeartbeats 6400000 in
set_option maxRecDepth 100000 in
/-- dev.Free of all that there is. -/
theorem devFree_any (d L : Nat) (p : Int) (sv mv lv : Value) (bs : List UInt8) (stale head sure fuse o : Int) (w : World) (hm : bs.length ≤ 100000000) (hm0 : 0 < bs.length) (hst : 0 ≤ stale) (hst2 : stale ≤ 100000000) (hh : 0 ≤ head) (hh2 : head ≤ 100000000) (hp : p = head + bs.length) (k : Blk w d 107 (devC sv mv lv stale head sure fuse o)) (ho : OwnB w L lv bs) :
    Calls Tryz.prog 52 #[.pointer (some ⟨d, 0, none⟩), .int .i64 p] w (FreeP w d sv mv p (max sure p) fuse) := by
  have hmf : ∀ (fn : Fn) (first cap : Array Value) (w : World), (Instr.makeFunc fn first cap).run Tryz.prog w = .ok (.func fn first cap) w := fun _ _ _ _ => rfl
  have HK := hide k
  have HO := hide ho
  have HP := hide hp
  clear k ho hp
  obtain ⟨X, hX⟩ : ∃ X, X = (Tryz.zeroCells129.setIfInBounds 0 (.pointer (some ⟨d, 0, none⟩))).setIfInBounds 1 (.int .i64 p) := ⟨_, rfl⟩
  have HX := hide hX
  have hJ : JobC X d p (.slice none 0 0) := by
    rw [hX]
    refine ⟨?_, ?_, ?_⟩
    · rw [Array.getElem?_setIfInBounds, if_neg (by decide), Array.getElem?_setIfInBounds, if_pos rfl, if_pos (by rw [zeros_job]; decide)]
    · rw [Array.getElem?_setIfInBounds, if_pos rfl, if_pos (by rw [Array.size_setIfInBounds, zeros_job]; decide)]
    · rw [Array.getElem?_setIfInBounds, if_neg (by decide), Array.getElem?_setIfInBounds, if_neg (by decide)]
      kernel_rfl
  have hsz : X.size = 515 := by rw [hX, Array.size_setIfInBounds, Array.size_setIfInBounds, zeros_job]
  have h1c : X.all (·.oneCell') = true := by
    rw [hX]
    exact all_set (all_set zero_job_one 0 rfl) 1 rfl
  have HII := hide (show (Tryz.prog.info? 129).map (·.size) = some X.size by rw [hsz]; exact info_job)
  have HZ := hide (show Tryz.zeroCells129.size = X.size by rw [hsz]; exact zeros_job)
  have H1 := hide h1c
  have HJ := hide hJ
  clear hX hJ hsz h1c
  go_enter Tryz.func52, Tryz.ntmps52
  go_wp2_with (refine wpList_store_row rfl 129 (.tmp 5) (.tmp 10) rfl w.heap.size X rfl (by rw [HX.out]; rfl) 129 _ (Blk.new w _ _) HII.out HZ.out H1.out ?_)
  refine nameW (w := World.setRow _ w.heap.size X) (R := fun W => Calls Tryz.prog _ _ W _) (fun W2 hW2 => ?_)
  have kj2 : Blk W2 w.heap.size 129 X := by
    rw [hW2]
    exact setRow_heap _ w.heap.size _ _ _ _ (Blk.new w _ _)
  have hb2 : Below w.heap.size w W2 := by
    rw [hW2]
    exact (touch_setRow _ w.heap.size X).below ((Below.refl w.heap.size w).alloc (Nat.le_refl _) _) (Nat.le_refl _)
  have hdl := HK.out.lt
  have hz2 := kj2.lt
  clear hW2
  obtain ⟨A, c, rfl, junk⟩ := own_slice HO.out
  clear junk
  refine (spans_any d p sv mv A bs.length c stale head sure fuse o W2 hh hh2 hm (by have := HP.out; omega) (by have := HP.out; omega) (Blk.via hb2 HK.out)).mono ?_
  rintro e W3 ⟨rfl, hb3⟩
  go_wp2_with fail
  have kj3 := Blk.via hb3 kj2
  have kd3 := Blk.via hb3 (Blk.via hb2 HK.out)
  have ho3 := (HO.out.via hb2).via hb3
  have hz3 := hb3.size
  have hb4 : Below W3.heap.size W3 (W3.alloc (.cells #[.pointer (some ⟨d, 0, none⟩)] 28)) := (Below.refl _ _).alloc (Nat.le_refl _) _
  have kd4 := Blk.via hb4 kd3
  have ho4 := ho3.via hb4
  have kb4 := Blk.new W3 28 #[.pointer (some ⟨d, 0, none⟩)]
  have hact := jobFree_any w.heap.size d L p (.slice none 0 0) sv mv (.slice A bs.length c) bs stale head sure fuse o (W3.alloc (.cells #[.pointer (some ⟨d, 0, none⟩)] 28)) hm hm0 hst hst2 HP.out kd4 X (Blk.via hb4 kj3) HJ.out ho4
  have hR : DoR W3.heap.size d (fun W => ∃ lv', Blk W d 107 (devC sv mv lv' 0 p (max sure p) fuse o) ∧ OwnB W (W3.alloc (.cells #[.pointer (some ⟨d, 0, none⟩)] 28)).heap.size lv' [] ∧ Turn (fun k => k = d) (W3.alloc (.cells #[.pointer (some ⟨d, 0, none⟩)] 28)) W) := by
    rintro W ⟨lv', g1, g2, g3⟩
    exact ⟨(g3.block _ kb4.lt (by omega)).trans kb4, _, o, g1, rfl, rfl⟩
  have HD := hide (do_any d 122 (.pointer (some ⟨w.heap.size, 0, none⟩)) _ _ W3 kd3 rfl rfl hR (fun W => by simp [go_sem]) hact)
  have HF := hide (show ∀ w', (∃ W o', (∃ lv', Blk W d 107 (devC sv mv lv' 0 p (max sure p) fuse o) ∧ OwnB W (W3.alloc (.cells #[.pointer (some ⟨d, 0, none⟩)] 28)).heap.size lv' [] ∧ Turn (fun k => k = d) (W3.alloc (.cells #[.pointer (some ⟨d, 0, none⟩)] 28)) W) ∧ w' = W.setCell ⟨d, 9, none⟩ (.int .i64 o')) → FreeP w d sv mv p (max sure p) fuse (.returned (.int .i64 0)) w' from by
    rintro w' ⟨W, o', ⟨lv', g1, g2, g3⟩, rfl⟩
    have hT : Turn (fun k => k = d) w W := (Turn.of_below hb2).trans ((Turn.of_below hb3).trans ((Turn.of_below hb4).trans g3))
    exact ⟨rfl, lv', o', g1.set_ 9 _, (g2.low (by simp; omega)).far g1 (by decide) _, Turn.set (S := fun k => k = d) hT (p := ⟨d, 9, none⟩) (.inl rfl) _⟩)
  clear hact hR kb4 ho4 kd4 hb4 kd3 ho3 kj3 hb3 hb2 kj2
  refine HD.out.mono ?_
  rintro e w' ⟨rfl, hw'⟩
  have HL := hide (HF.out w' hw')
  clear hw'
  go_wp2
  go_ret
  exact HL.out
end Go.Proofs.YtnanlaefehaifaaGreat
