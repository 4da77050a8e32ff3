/-
  WALKS OF THE PROGRAM: dev.Dev.do, a device in memory.
-/
import Derived.Test.YtnanlaefehaifaaGreatRV
import Derived.Test.YtnanlaefehaifaaGreatRX
import Derived.Defers
namespace Go.Proofs.YtnanlaefehaifaaGreat
open Go.RowKit

set_option maxHeartbeats 1600000 in
set_option maxRecDepth 100000 in
theorem do1_deferred (bd d : Nat) (o : Int) (w : World) (hb : w.cell? ⟨bd, 0, none⟩ = some (.pointer (some ⟨d, 0, none⟩))) (h9 : w.cell? ⟨d, 9, none⟩ = some (.int .i64 o)) (h6 : w.cell? ⟨d, 6, none⟩ = some (.bool false)) (f9 : w.frozen? ⟨d, 9, none⟩ = false) :
    CallsD Tryz.prog 130 #[.pointer (some ⟨bd, 0, none⟩)] .returning w fun e u' w' => u' = .returning ∧ (e = .returned (.tuple #[]) ∧ ∃ o', w' = w.setCell ⟨d, 9, none⟩ (.int .i64 o')) := by
  go_enter_d Tryz.func130, Tryz.ntmps130
  go_wp2
  go_end0
  exact ⟨rfl, _, rfl⟩
/-- What an operation of the device leaves, ahead of the count. -/
def DoR (bd d : Nat) (R : World → Prop) : Prop := ∀ W, R W → Blk W bd 28 #[.pointer (some ⟨d, 0, none⟩)] ∧ ∃ cs o, Blk W d 107 cs ∧ cs[6]? = some (.bool false) ∧ cs[9]? = some (.int .i64 o)
set_option maxHeartbeats 3200000 in
set_option maxRecDepth 100000 in
theorem do_any (d F : Nat) (ja : Value) (cs : Array Value) (R : World → Prop) (w : World) (k : Blk w d 107 cs) (h6 : cs[6]? = some (.bool false)) (h8 : cs[8]? = some (.bool false))
    (hR : DoR w.heap.size d R) (hcf : ∀ W, (callFunc F #[ja]).run Tryz.prog W = .ok (.enter F #[ja]) W) (hact : Calls Tryz.prog F #[ja] (w.alloc (.cells #[.pointer (some ⟨d, 0, none⟩)] 28)) fun e w' => (∃ v, e = .returned v) ∧ R w') :
    Calls Tryz.prog 63 #[.pointer (some ⟨d, 0, none⟩), .bool true, .func (.func F) #[ja] #[]] w fun e w' => e = .returned (.int .i64 0) ∧ ∃ W o', R W ∧ w' = W.setCell ⟨d, 9, none⟩ (.int .i64 o') := by
  have hmf : ∀ (fn : Fn) (first cap : Array Value) (w : World), (Instr.makeFunc fn first cap).run Tryz.prog w = .ok (.func fn first cap) w := fun _ _ _ _ => rfl
  have c6 : w.cell? ⟨d, 6, none⟩ = some (.bool false) := (k.cell 6).trans h6
  have c8 : w.cell? ⟨d, 8, none⟩ = some (.bool false) := (k.cell 8).trans h8
  have hdl := k.lt
  have HA := hide hact
  have HR := hide hR
  clear hact hR k h6 h8
  go_enter_defers Tryz.func63, Tryz.ntmps63
  go_wp2_with fail
  refine HA.out.mono ?_
  rintro e w2 ⟨⟨v, rfl⟩, hR2⟩
  obtain ⟨kb, cs2, o2, kd, g6, g9⟩ := HR.out w2 hR2
  have HKB := hide kb
  have HKD := hide kd
  have HG6 := hide g6
  have HG9 := hide g9
  have HRR := hide hR2
  clear kb kd g6 g9 hR2
  go_wp2_with fail
  refine leaves_cons (f := 130) (args := #[.pointer (some ⟨w.heap.size, 0, none⟩)]) (by simp) (by simp [go_sem]) ?_
  refine (do1_deferred w.heap.size d o2 w2 (HKB.out.cell 0) ((HKD.out.cell 9).trans HG9.out) ((HKD.out.cell 6).trans HG6.out) (HKD.out.frozen 9)).mono ?_
  rintro e u' w'' ⟨rfl, rfl, o', rfl⟩
  exact ⟨_, results_tmp rfl _ _ _, rfl, w2, o', HRR.out, rfl⟩
/-- A device: safe pages, writings, the log's bytes, how many are stale, its head, what is sure, how many operations. -/
def devC (sv mv lv : Value) (stale head sure fuse o : Int) : Array Value := #[sv, mv, lv, .int .i64 stale, .int .i64 head, .int .i64 sure, .bool false, .int .i64 fuse, .bool false, .int .i64 o]
set_option maxHeartbeats 1600000 in
set_option maxRecDepth 100000 in
theorem devHead_any (d : Nat) (sv mv lv : Value) (stale head sure fuse o : Int) (w : World) (k : Blk w d 107 (devC sv mv lv stale head sure fuse o)) :
    Calls Tryz.prog 40 #[.pointer (some ⟨d, 0, none⟩)] w fun e w' => e = .returned (.int .i64 head) ∧ w' = w := by
  have c4 : w.cell? ⟨d, 4, none⟩ = some _ := k.cell 4
  clear k
  go_enter Tryz.func40, Tryz.ntmps40
  go_wp2
  go_ret
  exact ⟨rfl, rfl⟩
set_option maxHeartbeats 1600000 in
set_option maxRecDepth 100000 in
theorem devEnd_any (d : Nat) (sv mv : Value) (A : Option Addr) (n c : Nat) (stale head sure fuse o : Int) (w : World) (hh : 0 ≤ head) (hh2 : head ≤ 100000000) (hn : n ≤ 100000000) (k : Blk w d 107 (devC sv mv (.slice A n c) stale head sure fuse o)) :
    Calls Tryz.prog 111 #[.pointer (some ⟨d, 0, none⟩)] w fun e w' => e = .returned (.int .i64 (head + n)) ∧ Below w.heap.size w w' := by
  have c4 : w.cell? ⟨d, 4, none⟩ = some (.int .i64 head) := k.cell 4
  have c2 : w.cell? ⟨d, 2, none⟩ = some (.slice A n c) := k.cell 2
  clear k
  go_enter Tryz.func111, Tryz.ntmps111
  go_upto_region 3 with (fail)
  go_quiet (fail)
  go_wp2
  go_ret
  exact ⟨rfl, below_of_drewN _ _⟩
/-- A job: its device, its place, its bytes. -/
def JobC (js : Array Value) (d : Nat) (at_ : Int) (bv : Value) : Prop := js[0]? = some (.pointer (some ⟨d, 0, none⟩)) ∧ js[1]? = some (.int .i64 at_) ∧ js[514]? = some bv
set_option maxHeartbeats 3200000 in
set_option maxRecDepth 100000 in
theorem spans_any (d : Nat) (p : Int) (sv mv : Value) (A : Option Addr) (n c : Nat) (stale head sure fuse o : Int) (w : World) (hh : 0 ≤ head) (hh2 : head ≤ 100000000) (hn : n ≤ 100000000) (hp1 : head ≤ p) (hp2 : p ≤ head + n) (k : Blk w d 107 (devC sv mv (.slice A n c) stale head sure fuse o)) :
    Calls Tryz.prog 109 #[.pointer (some ⟨d, 0, none⟩), .int .i64 p] w fun e w' => e = .returned (.bool true) ∧ Below w.heap.size w w' := by
  have HE := hide (devEnd_any d sv mv A n c stale head sure fuse o w hh hh2 hn k)
  have c4 : w.cell? ⟨d, 4, none⟩ = some (.int .i64 head) := k.cell 4
  clear k
  go_enter Tryz.func109, Tryz.ntmps109
  go_wp2_with (refine HE.out.mono ?_; rintro e w1 ⟨rfl, hb1⟩)
  go_ret
  exact ⟨rfl, hb1⟩
theorem World.grownBy.drewR (w : World) (r : Option Nat) : w.grownBy w.drew r := ⟨rfl, rfl, rfl, Nat.le_refl _, fun _ _ _ => rfl⟩
set_option maxHeartbeats 6400000 in
set_option maxRecDepth 100000 in
/-- The job's operation 'add'. -/
theorem jobAdd_any (j d L : Nat) (at_ : Int) (B : Nat) (A2 : Option Addr) (n2 c2 : Nat) (bs2 : List UInt8) (sv mv lv : Value) (bs : List UInt8) (stale head sure fuse o : Int) (w : World) (hL : L ≤ w.heap.size) (hm : bs.length ≤ 100000000) (hm2 : n2 ≤ 1000000) (k : Blk w d 107 (devC sv mv lv stale head sure fuse o)) (js : Array Value) (kj : Blk w j 129 js) (hj : JobC js d at_ (.slice A2 n2 c2))
    (ho : OwnB w L lv bs) (hn : n2 = bs2.length) (hr : Reads w B 1 A2 n2 (bs2.map byteV)) :
    Calls Tryz.prog 119 #[.pointer (some ⟨j, 0, none⟩)] w fun e w' => (∃ v, e = .returned v) ∧ ∃ lv' W, OwnB W L lv' (bs ++ bs2) ∧ w.grownBy W lv.ownBlock ∧ (lv'.ownBlock = lv.ownBlock ∨ lv'.ownBlock = some w.heap.size) ∧ w' = W.setCell ⟨d, 2, none⟩ lv' := by
  obtain ⟨A, c, rfl, junk⟩ := own_slice ho
  have HJ := hide hj
  have keep : ∀ {g : Nat} {t : TypeId} {cs : Array Value}, Blk w g t cs → t ≠ 5 → ∀ W, w.grownBy W (Value.slice A bs.length c).ownBlock → Blk W g t cs := fun kk hne W hG => kk.keepB ho hne hG
  have HKD := hide (fun W hG => keep k (by decide) W hG)
  have HKJ := hide (fun W hG => keep kj (by decide) W hG)
  have HO := hide ho
  have HR := hide hr
  have HN := hide hn
  clear junk k kj hj ho hr hn keep
  go_enter Tryz.func119, Tryz.ntmps119
  go_upto_region 0 with (fail)
  refine wp_region_inv_tailE 18 [fun v _ => v = .pointer (some ⟨j, 0, none⟩), fun v _ => v = .pointer (some ⟨j, 0, none⟩), fun v _ => v = .pointer (some ⟨j, 0, none⟩), fun v _ => v = .pointer (some ⟨d, 0, none⟩), fun v _ => v = .pointer (some ⟨j, 0, none⟩), fun v _ => v = .pointer (some ⟨j, 0, none⟩), fun v _ => v = .pointer (some ⟨j, 0, none⟩), fun v _ => v = .pointer (some ⟨d, 0, none⟩), fun v _ => v = .pointer (some ⟨d, 0, none⟩), fun v _ => v = .pointer (some ⟨d, 2, none⟩), fun v _ => v = .slice A bs.length c, fun v _ => v = .pointer (some ⟨j, 0, none⟩), fun v _ => v = .pointer (some ⟨j, 0, none⟩), fun v _ => v = .pointer (some ⟨j, 514, none⟩), fun v _ => v = .slice A2 n2 c2, fun v W => OwnB W L v (bs ++ bs2) ∧ (v.ownBlock = (Value.slice A bs.length c).ownBlock ∨ v.ownBlock = some w.heap.size), fun v _ => v = .pointer (some ⟨d, 0, none⟩), fun v _ => v = .pointer (some ⟨d, 2, none⟩)] (fun W => w.grownBy W (Value.slice A bs.length c).ownBlock) (fun i W => i = 15 → W = w.drew) (fun i W W' => (i = 15 ∧ W.grownBy W' (Value.slice A bs.length c).ownBlock) ∨ W' = W) ?hg ?hpr (World.grownBy.drewR _ _) (fun _ _ => rfl) (by kernel_rfl) (by kernel_rfl) (by kernel_rfl) (by kernel_rfl) (by kernel_rfl) (by simp) (by kernel_rfl) ?st ?steps ?fin
  case hg =>
    rintro i W W' hG (⟨_, h⟩ | rfl)
    · exact World.grownBy.trans hG h
    · exact hG
  case hpr =>
    rintro i j W W' hij (⟨h, _⟩ | rfl) hp
    · exact fun h2 => absurd (h2.trans h.symm) hij
    · exact hp
  case st =>
    rintro i j v W W' hij (⟨hj, hgr⟩ | rfl) h
    · subst hj
      match i with
      | 0 | 1 | 2 | 3 | 4 | 5 | 6 | 7 | 8 | 9 | 10 | 11 | 12 | 13 | 14 => exact h
      | 15 => exact absurd rfl hij
      | 16 | 17 => exact h
      | (i + 18) => exact h
    · exact h
  case steps =>
    simp only [stepsE, List.take_succ_cons, List.take_zero]
    refine ⟨?_, ?_, ?_, ?_, ?_, ?_, ?_, ?_, ?_, ?_, ?_, ?_, ?_, ?_, ?_, ?_, ?_, ?_, trivial⟩
    · intro f W hG hP hdp
      simp only [fillF, Act.put, List.setIfInBounds_toArray, List.set_cons_succ, List.set_cons_zero, Nat.reduceAdd]
      go_wp2
      first | exact ⟨rfl, _, rfl, rfl, rfl⟩ | exact ⟨rfl, _, rfl, rfl, .inr rfl⟩
    · intro f W hG hP hdp
      have e1 : f 0 = .pointer (some ⟨j, 0, none⟩) := hdp ⟨0, .data⟩ (List.mem_filter.2 ⟨by simp, rfl⟩)
      simp only [fillF, Act.put, List.setIfInBounds_toArray, List.set_cons_succ, List.set_cons_zero, Nat.reduceAdd, e1]
      go_wp2
      first | exact ⟨rfl, _, rfl, rfl, rfl⟩ | exact ⟨rfl, _, rfl, rfl, .inr rfl⟩
    · intro f W hG hP hdp
      have e1 : f 1 = .pointer (some ⟨j, 0, none⟩) := hdp ⟨1, .data⟩ (List.mem_filter.2 ⟨by simp, rfl⟩)
      simp only [fillF, Act.put, List.setIfInBounds_toArray, List.set_cons_succ, List.set_cons_zero, Nat.reduceAdd, e1]
      go_wp2
      first | exact ⟨rfl, _, rfl, rfl, rfl⟩ | exact ⟨rfl, _, rfl, rfl, .inr rfl⟩
    · intro f W hG hP hdp
      have e1 : f 2 = .pointer (some ⟨j, 0, none⟩) := hdp ⟨2, .data⟩ (List.mem_filter.2 ⟨by simp, rfl⟩)
      have q : W.cell? ⟨j, 0, none⟩ = some (.pointer (some ⟨d, 0, none⟩)) := ((HKJ.out W hG).cell 0).trans HJ.out.1
      simp only [fillF, Act.put, List.setIfInBounds_toArray, List.set_cons_succ, List.set_cons_zero, Nat.reduceAdd, e1]
      go_wp2
      first | exact ⟨rfl, _, rfl, rfl, rfl⟩ | exact ⟨rfl, _, rfl, rfl, .inr rfl⟩
    · intro f W hG hP hdp
      simp only [fillF, Act.put, List.setIfInBounds_toArray, List.set_cons_succ, List.set_cons_zero, Nat.reduceAdd]
      go_wp2
      first | exact ⟨rfl, _, rfl, rfl, rfl⟩ | exact ⟨rfl, _, rfl, rfl, .inr rfl⟩
    · intro f W hG hP hdp
      have e1 : f 4 = .pointer (some ⟨j, 0, none⟩) := hdp ⟨4, .data⟩ (List.mem_filter.2 ⟨by simp, rfl⟩)
      simp only [fillF, Act.put, List.setIfInBounds_toArray, List.set_cons_succ, List.set_cons_zero, Nat.reduceAdd, e1]
      go_wp2
      first | exact ⟨rfl, _, rfl, rfl, rfl⟩ | exact ⟨rfl, _, rfl, rfl, .inr rfl⟩
    · intro f W hG hP hdp
      have e1 : f 5 = .pointer (some ⟨j, 0, none⟩) := hdp ⟨5, .data⟩ (List.mem_filter.2 ⟨by simp, rfl⟩)
      simp only [fillF, Act.put, List.setIfInBounds_toArray, List.set_cons_succ, List.set_cons_zero, Nat.reduceAdd, e1]
      go_wp2
      first | exact ⟨rfl, _, rfl, rfl, rfl⟩ | exact ⟨rfl, _, rfl, rfl, .inr rfl⟩
    · intro f W hG hP hdp
      have e1 : f 6 = .pointer (some ⟨j, 0, none⟩) := hdp ⟨6, .data⟩ (List.mem_filter.2 ⟨by simp, rfl⟩)
      have q : W.cell? ⟨j, 0, none⟩ = some (.pointer (some ⟨d, 0, none⟩)) := ((HKJ.out W hG).cell 0).trans HJ.out.1
      simp only [fillF, Act.put, List.setIfInBounds_toArray, List.set_cons_succ, List.set_cons_zero, Nat.reduceAdd, e1]
      go_wp2
      first | exact ⟨rfl, _, rfl, rfl, rfl⟩ | exact ⟨rfl, _, rfl, rfl, .inr rfl⟩
    · intro f W hG hP hdp
      have e1 : f 7 = .pointer (some ⟨d, 0, none⟩) := hdp ⟨7, .data⟩ (List.mem_filter.2 ⟨by simp, rfl⟩)
      simp only [fillF, Act.put, List.setIfInBounds_toArray, List.set_cons_succ, List.set_cons_zero, Nat.reduceAdd, e1]
      go_wp2
      first | exact ⟨rfl, _, rfl, rfl, rfl⟩ | exact ⟨rfl, _, rfl, rfl, .inr rfl⟩
    · intro f W hG hP hdp
      have e1 : f 8 = .pointer (some ⟨d, 0, none⟩) := hdp ⟨8, .data⟩ (List.mem_filter.2 ⟨by simp, rfl⟩)
      simp only [fillF, Act.put, List.setIfInBounds_toArray, List.set_cons_succ, List.set_cons_zero, Nat.reduceAdd, e1]
      go_wp2
      first | exact ⟨rfl, _, rfl, rfl, rfl⟩ | exact ⟨rfl, _, rfl, rfl, .inr rfl⟩
    · intro f W hG hP hdp
      have e1 : f 9 = .pointer (some ⟨d, 2, none⟩) := hdp ⟨9, .data⟩ (List.mem_filter.2 ⟨by simp, rfl⟩)
      have q : W.cell? ⟨d, 2, none⟩ = some (.slice A bs.length c) := (HKD.out W hG).cell 2
      simp only [fillF, Act.put, List.setIfInBounds_toArray, List.set_cons_succ, List.set_cons_zero, Nat.reduceAdd, e1]
      go_wp2
      first | exact ⟨rfl, _, rfl, rfl, rfl⟩ | exact ⟨rfl, _, rfl, rfl, .inr rfl⟩
    · intro f W hG hP hdp
      simp only [fillF, Act.put, List.setIfInBounds_toArray, List.set_cons_succ, List.set_cons_zero, Nat.reduceAdd]
      go_wp2
      first | exact ⟨rfl, _, rfl, rfl, rfl⟩ | exact ⟨rfl, _, rfl, rfl, .inr rfl⟩
    · intro f W hG hP hdp
      have e1 : f 11 = .pointer (some ⟨j, 0, none⟩) := hdp ⟨11, .data⟩ (List.mem_filter.2 ⟨by simp, rfl⟩)
      simp only [fillF, Act.put, List.setIfInBounds_toArray, List.set_cons_succ, List.set_cons_zero, Nat.reduceAdd, e1]
      go_wp2
      first | exact ⟨rfl, _, rfl, rfl, rfl⟩ | exact ⟨rfl, _, rfl, rfl, .inr rfl⟩
    · intro f W hG hP hdp
      have e1 : f 12 = .pointer (some ⟨j, 0, none⟩) := hdp ⟨12, .data⟩ (List.mem_filter.2 ⟨by simp, rfl⟩)
      simp only [fillF, Act.put, List.setIfInBounds_toArray, List.set_cons_succ, List.set_cons_zero, Nat.reduceAdd, e1]
      go_wp2
      first | exact ⟨rfl, _, rfl, rfl, rfl⟩ | exact ⟨rfl, _, rfl, rfl, .inr rfl⟩
    · intro f W hG hP hdp
      have e1 : f 13 = .pointer (some ⟨j, 514, none⟩) := hdp ⟨13, .data⟩ (List.mem_filter.2 ⟨by simp, rfl⟩)
      have q : W.cell? ⟨j, 514, none⟩ = some (.slice A2 n2 c2) := ((HKJ.out W hG).cell 514).trans HJ.out.2.2
      simp only [fillF, Act.put, List.setIfInBounds_toArray, List.set_cons_succ, List.set_cons_zero, Nat.reduceAdd, e1]
      go_wp2
      first | exact ⟨rfl, _, rfl, rfl, rfl⟩ | exact ⟨rfl, _, rfl, rfl, .inr rfl⟩
    · intro f W hG hP hdp
      obtain rfl : W = w.drew := hP rfl
      have e1 : f 10 = .slice A bs.length c := hdp ⟨10, .data⟩ (List.mem_filter.2 ⟨by simp, rfl⟩)
      have e2' : f 14 = .slice A2 n2 c2 := hdp ⟨14, .data⟩ (List.mem_filter.2 ⟨by simp, rfl⟩)
      obtain ⟨i0, hi, hz0, hz1, hz2⟩ := info_parts info_u8R
      simp only [fillF, Act.put, List.setIfInBounds_toArray, List.set_cons_succ, List.set_cons_zero, Nat.reduceAdd, e1, e2']
      refine wpList_append_any _ rfl _ _ _ rfl L 5 i0 _ 1 1 Tryz.underlying33 hi hz0 hz1 hz2 rfl (by omega) _ bs.length _ rfl (show OwnB w.drew L _ bs from HO.out) B A2 n2 c2 _ rfl (show Reads w.drew B 1 A2 n2 _ from HR.out) (bytes_one _) (by unfold maxLen; omega) (by omega) hL ?_
      intro v' W' ho' hg' hloc
      refine ⟨rfl, v', rfl, ⟨?_, hloc⟩, by first | exact .inl hg' | exact .inl ⟨trivial, hg'⟩⟩
      unfold OwnB
      rw [List.length_append, List.map_append, ← HN.out]
      exact ho'
    · intro f W hG hP hdp
      have e1 : f 3 = .pointer (some ⟨d, 0, none⟩) := hdp ⟨3, .data⟩ (List.mem_filter.2 ⟨by simp, rfl⟩)
      simp only [fillF, Act.put, List.setIfInBounds_toArray, List.set_cons_succ, List.set_cons_zero, Nat.reduceAdd, e1]
      go_wp2
      first | exact ⟨rfl, _, rfl, rfl, rfl⟩ | exact ⟨rfl, _, rfl, rfl, .inr rfl⟩
    · intro f W hG hP hdp
      have e1 : f 16 = .pointer (some ⟨d, 0, none⟩) := hdp ⟨16, .data⟩ (List.mem_filter.2 ⟨by simp, rfl⟩)
      simp only [fillF, Act.put, List.setIfInBounds_toArray, List.set_cons_succ, List.set_cons_zero, Nat.reduceAdd, e1]
      go_wp2
      first | exact ⟨rfl, _, rfl, rfl, rfl⟩ | exact ⟨rfl, _, rfl, rfl, .inr rfl⟩
  case fin =>
    intro f W hG hA
    obtain ⟨ho15, hloc⟩ : OwnB W L (f 15) (bs ++ bs2) ∧ ((f 15).ownBlock = (Value.slice A bs.length c).ownBlock ∨ (f 15).ownBlock = some w.heap.size) := hA 15 (by omega)
    have e17 : f 17 = .pointer (some ⟨d, 2, none⟩) := hA 17 (by omega)
    have kd := HKD.out W hG
    have q2 : W.cell? ⟨d, 2, none⟩ = some (.slice A bs.length c) := kd.cell 2
    have f2 := kd.frozen 2
    have ld := kd.lt
    obtain ⟨bs3, hb3⟩ : ∃ bs3, bs3 = bs ++ bs2 := ⟨_, rfl⟩
    rw [← hb3] at ho15
    have HB3 := hide hb3
    clear hb3
    obtain ⟨A9, c9, e15, junk⟩ := own_slice ho15
    rw [e15] at ho15 hloc
    have HO9 := hide ho15
    have HL9 := hide hloc
    have HG := hide hG
    simp only [List.drop_succ_cons, List.drop_zero, fillF, List.take_succ_cons, List.take_zero, Act.put, List.setIfInBounds_toArray, List.set_cons_succ, List.set_cons_zero, Nat.reduceAdd, e17, e15]
    clear ho15 hloc hG hA e17 e15 junk kd
    go_wp2
    go_end0
    exact ⟨⟨_, rfl⟩, .slice A9 bs3.length c9, W, by rw [← HB3.out]; exact HO9.out, HG.out, HL9.out, rfl⟩
end Go.Proofs.YtnanlaefehaifaaGreat
