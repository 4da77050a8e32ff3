/-
  WALKS OF THE PROGRAM: wal.records of nothing, wal.Load of a device of which the log is empty.
-/
import Derived.Test.YtnanlaefehaifaaGreatLA
import Derived.Test.YtnanlaefehaifaaGreatRZm
import Derived.Maps.OwnIn
import Derived.Sort.CutIn
namespace Go.Proofs.YtnanlaefehaifaaGreat
open Go.RowKit Go.Shelf Go.Maps

attribute [local go_sem] Oper.semAt_some

theorem records_any (A : Option Addr) (c : Nat) (w : World) : Calls Tryz.prog 41 #[.slice A 0 c] w fun e w' => e = .returned (.func (.func 106) #[] #[.pointer (some ⟨w.heap.size, 0, none⟩)]) ∧ w' = w.alloc (.cells #[.slice A 0 c] 33) := by
  have hmf : ∀ (fn : Fn) (first cap : Array Value) (w : World), (Instr.makeFunc fn first cap).run Tryz.prog w = .ok (.func fn first cap) w := fun _ _ _ _ => rfl
  go_enter Tryz.func41, Tryz.ntmps41
  go_wp2
  go_ret
  exact ⟨rfl, rfl⟩
set_option maxRecDepth 100000 in
set_option maxHeartbeats 8000000 in
theorem records1_in (n : Nat) (hn : 1 ≤ n) (lp Bl : Nat) (A : Option Addr) (c : Nat) (w : World) (hBl : Blk w Bl 33 #[.slice A 0 c]) :
    CallsIn Fence.wide n Tryz.prog 106 #[.func (.yield lp) #[] #[], .pointer (some ⟨Bl, 0, none⟩)] w fun e W' => (∃ v, e = .returned v) ∧ Below w.heap.size w W' := by
  have HG := hide (fun W => getNil_any A c W)
  have q0 : w.cell? ⟨Bl, 0, none⟩ = some (.slice A 0 c) := hBl.cell 0
  have hX : recZ = #[.int .i64 0, .int .i64 0, .int .i64 0, .int .i64 0, .slice none 0 0, .int .i64 0, .string ⟨#[]⟩, .int .i64 0, .string ⟨#[]⟩, .int .i64 0, .slice none 0 0, .int .i64 0, .int .i64 0, .int .i64 0, .int .i64 0] := rfl
  rw [hX] at HG
  clear hX
  refine callsIn_of_wp Tryz.func106 rfl trivial ?_ rfl
  simp only [Tryz.ntmps106, List.size_toArray, List.length_cons, List.length_nil, Nat.reduceAdd, Nat.reduceSub, Array.replicate_succ, Array.replicate_zero, List.push_toArray, List.append_toArray, List.nil_append, List.cons_append]
  gi_wp2
  refine wpIn_loop_rounds 1 ?_
  rw [roundsIn_succ]
  gi_upto_region 1 with (refine ⟨trivial, ?_⟩; gi_at_call 107; refine (callsIn_wide.2 (HG.out _)).mono ?_; rintro e w1 ⟨rfl, hb1⟩)
  gi_wp2_with fail
  refine ⟨fun f hf => (by cases hf), ?_⟩
  gi_wp2_with fail
  exact bodyPost_ret (v := .tuple #[]) (by simp [results, Tryz.results106, go_sem]) rfl ⟨⟨_, rfl⟩, hb1.alloc hb1.size _⟩
/-- What wal.Load gives over a device of which the log is empty. -/
def LoadP (w : World) (d : Nat) (limit : Int) (sv mv : Value) (stale fuse : Int) (e : Ending) (w' : World) : Prop :=
  ∃ l m o', e = .returned (.tuple #[.pointer (some ⟨l, 0, none⟩), .int .i64 0]) ∧ Blk w' l 97 (logC d limit 0 0 m (.slice none 0 0)) ∧ MapF w' m 0 (fun _ => none) ∧ Blk w' d 107 (devC sv mv (.slice none 0 0) stale 0 0 fuse o') ∧ w.heap.size ≤ l ∧ w.heap.size ≤ m ∧ Turn (fun q => q = d) w w'
/-- The map that was made, three blocks. -/
theorem gen4N {w : World} {c1 c2 : Array Value} {t1 t2 : TypeId} {R : World → Prop} (h : ∀ W, MapF W w.heap.size 0 (fun _ => none) → Blk W (w.heap.size + 1) t1 c1 → Blk W (w.heap.size + 1 + 1) t2 c2 → Below w.heap.size w W → w.heap.size + 3 = W.heap.size → R W) :
    R (((w.alloc (.map #[] 0)).alloc (.cells c1 t1)).alloc (.cells c2 t2)) := by
  refine h _ ?_ ?_ ?_ ?_ (by simp)
  · exact (MapF.start w).kept (by rw [Below.heap_alloc _ _ _ (by simp; omega), Below.heap_alloc _ _ _ (by simp)])
  · exact ((by simpa using Blk.new (w.alloc (.map #[] 0)) t1 c1 : Blk _ (w.heap.size + 1) t1 c1).alloc _)
  · exact (by simpa using Blk.new ((w.alloc (.map #[] 0)).alloc (.cells c1 t1)) t2 c2 : Blk _ (w.heap.size + 1 + 1) t2 c2)
  · exact (((Below.refl _ _).alloc (Nat.le_refl _) _).alloc (by simp) _).alloc (by simp; omega) _
set_option maxRecDepth 100000 in
set_option maxHeartbeats 8000000 in
theorem walLoad_any (d : Nat) (limit : Int) (sv mv : Value) (stale fuse o : Int) (w : World) (h1 : 1 ≤ limit) (h2 : limit ≤ 1048576) (k : Blk w d 107 (devC sv mv (.slice none 0 0) stale 0 0 fuse o)) :
    Calls Tryz.prog 7 #[.pointer (some ⟨d, 0, none⟩), .int .i64 limit] w (LoadP w d limit sv mv stale fuse) := by
  have hmm := @run_makeMap Tryz.prog
  have HK := hide k
  have ld := k.lt
  clear k
  refine (callsIn_wide (n := 9)).1 ?_
  refine callsIn_of_wp_marks Tryz.func7 rfl trivial ?_ rfl
  simp only [Tryz.ntmps7, List.size_toArray, List.length_cons, List.length_nil, Nat.reduceAdd, Nat.reduceSub, Array.replicate_succ, Array.replicate_zero, List.push_toArray, List.append_toArray, List.nil_append, List.cons_append]
  gi_upto_region 6 with (fail)
  refine gen4N (R := fun W => Code.wpIn _ _ _ _ _ _ W) (fun W1 kM kX kB hb1 hz1 => ?_)
  have HM1 := hide kM
  have HX1 := hide kX
  have HB1 := hide kB
  have HL1 := hide hb1
  have HHD := hide (devHead_any d sv mv (.slice none 0 0) stale 0 0 fuse o W1 (Blk.via hb1 HK.out))
  clear kM kX kB hb1
  gi_upto_region 7 with (refine ⟨trivial, ?_⟩; gi_at_call 40; refine (callsIn_wide.2 HHD.out).mono ?_; rintro e w' ⟨rfl, hw'⟩; obtain rfl := hw'.symm)
  refine gen1 (R := fun W => Code.wpIn _ _ _ _ _ _ W) (fun W2 kE hb2 hz2 => ?_)
  have HLG := hide (devLog_any d sv mv stale 0 0 fuse o W2 (Blk.via hb2 (Blk.via HL1.out HK.out)))
  have HREC := hide (fun A c W => records_any A c W)
  have HE2 := hide kE
  have HL2 := hide hb2
  clear kE hb2
  gi_wp2_with (refine ⟨trivial, ?_⟩; first
    | (gi_at_call 42; refine (callsIn_wide.2 HLG.out).mono ?_; rintro e W3 ⟨⟨A3, c3, rfl⟩, hb3⟩)
    | (gi_at_call 41; refine (callsIn_wide.2 (HREC.out _ _ _)).mono ?_; rintro e w' ⟨rfl, hw'⟩; obtain rfl := hw'.symm))
  have HW2 := hide (Blk.via hb3 HE2.out)
  have hl2 : Below w.heap.size w W2 := HL1.out.trans (HL2.out.mono HL1.out.size)
  have hl3 : Below w.heap.size w W3 := hl2.trans (hb3.mono hl2.size)
  have h13 : Below W1.heap.size W1 W3 := HL2.out.trans (hb3.mono HL2.out.size)
  have HB3 := hide h13
  have HL3 := hide hl3
  have hs1 := HL2.out.size
  have hs2 := hb3.size
  have hs3 := HL1.out.size
  have hE3 := HE2.out.lt
  clear hl2 hl3 h13 hb3
  have hp3 := Blk.new W3 33 #[.slice A3 0 c3]
  refine wpIn_rangeFunc_ownH (α := Empty) (encs := fun x => x.elim) (Kp := fun _ _ => True) (S := fun xs => xs = []) (Sp := fun _ => False) (N := 0) (w0 := W3.alloc (.cells #[.slice A3 0 c3] 33)) rfl (by omega) (gf := 106) (lb := #[.pointer (some ⟨W3.heap.size, 0, none⟩)]) rfl trivial (enters_of Tryz.func106 (by kernel_rfl) rfl) ?seq
    (fun _ _ => trivial) (fun _ _ _ _ _ _ _ _ => trivial) (Below.refl _ _) (fun x => x.elim)
    (fun _ W => Below W1.heap.size W1 W ∧ Blk W W1.heap.size 3 #[.int .i64 0]) (fun _ _ _ => False) ?own (fun _ _ _ _ _ hs _ _ => hs) ?start (fun x _ _ => x.elim) (fun x _ => x.elim) ?assign ?body ?done ?stop
  case seq =>
    intro lp J Jx W hW hJ _ _ h0
    refine (records1_in 8 (by omega) lp W3.heap.size A3 c3 W (Blk.via hW hp3)).mono ?_
    rintro e W' ⟨hv, hb⟩
    exact ⟨hv, .inl ⟨[], rfl, hJ [] W W' none h0 ⟨hb.os, hb.tape, hb.output, hb.size, fun q hq _ => hb.block q hq⟩ (fun r e => by cases e)⟩⟩
  case own =>
    rintro hs W W' row ⟨k1, k2⟩ hg hr
    exact ⟨k1.grown hg k1.size (fun q hq => by have := (hr q hq).1; simp at this; omega), k2.grown hg (nc_ne hr k2)⟩
  case start => exact ⟨HB3.out.alloc HB3.out.size _, HW2.out.alloc _⟩
  case assign => intro _ _ x; exact x.elim
  case body => intro _ _ x; exact x.elim
  case stop => rintro _ _ _ _ _ hF _ _; exact hF.elim
  case done =>
    rintro D xs W hD hS ⟨i1, i2⟩ hK
    have kd := Blk.via i1 (Blk.via HL1.out HK.out)
    have hww : Below w.heap.size w W := HL1.out.trans (i1.mono HL1.out.size)
    have kX := Blk.via i1 HX1.out
    have kB := Blk.via i1 HB1.out
    have kM := World.ownsMap.kept' HM1.out i1
    have q1 := i2.cell 0
    have l1 := i2.lt
    have HC := hide (devCut_any d sv mv stale fuse o W kd)
    have HKM := hide kM
    have HKX := hide kX
    have HKB := hide kB
    have HWW := hide hww
    have HKD := hide kd
    have HKK := hide hK
    have hDl : D < W.heap.size := (Array.getElem?_eq_some_iff.1 hK).1
    have hDW : d < D := by simp at hD; omega
    have hDW2 : w.heap.size + 1 + 1 < D := by simp at hD; omega
    clear kM kX kB hww kd hK i1 i2 hS
    dsimp only
    gi_upto_region 13 with (refine ⟨trivial, ?_⟩; gi_at_call 44; refine (callsIn_wide.2 HC.out).mono ?_; rintro e W4 ⟨rfl, o4, hd4, ht4⟩)
    gi_upto_region 15 with (fail)
    have g4 : ∀ q, q < W.heap.size → q ≠ d → W4.heap[q]? = W.heap[q]? := fun q hq hne => ht4.block q hq hne
    have kX4 : Blk W4 (w.heap.size + 1) 97 (logC d limit 0 0 w.heap.size (.slice none 0 0)) := (g4 _ HKX.out.lt (by omega)).trans HKX.out
    have kB4 : Blk W4 (w.heap.size + 1 + 1) 24 #[.pointer (some ⟨w.heap.size + 1, 0, none⟩)] := (g4 _ HKB.out.lt (by omega)).trans HKB.out
    have kM4 := HKM.out.kept (g4 _ HKM.out.lt (by omega))
    have hD4 : W4.heap[D]? = some (.deferred (some [])) := (g4 _ hDl (by omega)).trans HKK.out
    have hDn := HKX.out.lt
    have KX4 := hide kX4
    have KB4 := hide kB4
    have KM4 := hide kM4
    have KD4 := hide hd4
    have HD4 := hide hD4
    have HT4 := hide ht4
    have HEN := hide (fun W5 (hb : Below W4.heap.size W4 W5) => walEnd_any (w.heap.size + 1) d limit 0 0 w.heap.size (.slice none 0 0) sv mv none 0 0 stale 0 0 fuse o4 W5 (by omega) (by omega) (by omega) (Blk.via hb kX4) (Blk.via hb hd4))
    clear kX4 kB4 kM4 hd4 hD4 ht4 g4 q1 l1
    refine wpIn_wide.2 ?_
    refine wp_region_inv_tail 5 [fun v _ => v = .pointer (some ⟨w.heap.size + 1, 0, none⟩), fun v _ => v = .pointer (some ⟨w.heap.size + 1, 0, none⟩), fun v _ => v = .int .i64 0, fun v _ => v = .pointer (some ⟨w.heap.size + 1, 0, none⟩), fun v _ => v = .pointer (some ⟨w.heap.size + 1, 3, none⟩)] (by kernel_rfl) (by kernel_rfl) (by kernel_rfl) (by kernel_rfl) (by kernel_rfl) (by first | simp | decide) (by kernel_rfl) ?st ?steps ?fin
    case st =>
      intro i v W W' _ h
      match i with
      | 0 | 1 | 2 | 3 | 4 => exact h
      | (i + 5) => exact h
    case steps =>
      simp only [stepsT, List.take_succ_cons, List.take_zero]
      refine ⟨?_, ?_, ?_, ?_, ?_, trivial⟩
      · intro f W hbW hdp
        have q : W.cell? ⟨w.heap.size + 1 + 1, 0, none⟩ = some (.pointer (some ⟨w.heap.size + 1, 0, none⟩)) := (Blk.via hbW KB4.out).cell 0
        simp only [fillF, Act.put, List.setIfInBounds_toArray, List.set_cons_succ, List.set_cons_zero, Nat.reduceAdd]
        go_wp2
        exact ⟨rfl, _, rfl, rfl, Below.refl _ _⟩
      · intro f W hbW hdp
        have q : W.cell? ⟨w.heap.size + 1 + 1, 0, none⟩ = some (.pointer (some ⟨w.heap.size + 1, 0, none⟩)) := (Blk.via hbW KB4.out).cell 0
        simp only [fillF, Act.put, List.setIfInBounds_toArray, List.set_cons_succ, List.set_cons_zero, Nat.reduceAdd]
        go_wp2
        exact ⟨rfl, _, rfl, rfl, Below.refl _ _⟩
      · intro f W hbW hdp
        have e1 : f 1 = .pointer (some ⟨w.heap.size + 1, 0, none⟩) := hdp ⟨1, .data⟩ (List.mem_filter.2 ⟨by simp, rfl⟩)
        simp only [fillF, Act.put, List.setIfInBounds_toArray, List.set_cons_succ, List.set_cons_zero, Nat.reduceAdd, e1]
        go_wp2_with (go_at_call 45; refine (HEN.out _ hbW).mono ?_; rintro e w' ⟨rfl, hb'⟩)
        exact ⟨rfl, _, rfl, rfl, hb'⟩
      · intro f W hbW hdp
        have e0 : f 0 = .pointer (some ⟨w.heap.size + 1, 0, none⟩) := hdp ⟨0, .data⟩ (List.mem_filter.2 ⟨by simp, rfl⟩)
        simp only [fillF, Act.put, List.setIfInBounds_toArray, List.set_cons_succ, List.set_cons_zero, Nat.reduceAdd, e0]
        go_wp2
        exact ⟨rfl, _, rfl, rfl, Below.refl _ _⟩
      · intro f W hbW hdp
        have e3 : f 3 = .pointer (some ⟨w.heap.size + 1, 0, none⟩) := hdp ⟨3, .data⟩ (List.mem_filter.2 ⟨by simp, rfl⟩)
        simp only [fillF, Act.put, List.setIfInBounds_toArray, List.set_cons_succ, List.set_cons_zero, Nat.reduceAdd, e3]
        go_wp2
        exact ⟨rfl, _, rfl, rfl, Below.refl _ _⟩
    case fin =>
      intro f W hbW hA
      have e2 : f 2 = .int .i64 0 := hA 2 (by omega)
      have e4 : f 4 = .pointer (some ⟨w.heap.size + 1, 3, none⟩) := hA 4 (by omega)
      simp only [List.drop_succ_cons, List.drop_zero, List.take_succ_cons, List.take_zero, fillF, Act.put, List.setIfInBounds_toArray, List.set_cons_succ, List.set_cons_zero, Nat.reduceAdd, e2, e4]
      clear hA e2 e4
      have kx := Blk.via hbW KX4.out
      have lx := kx.lt
      have fx := kx.frozen 3
      have cx := kx.cell 3
      have kb := Blk.via hbW KB4.out
      have hne2 : w.heap.size + 1 + 1 ≠ w.heap.size + 1 := by omega
      have kb5 : Blk (W.setCell ⟨w.heap.size + 1, 3, none⟩ (.int .i64 0)) (w.heap.size + 1 + 1) 24 #[.pointer (some ⟨w.heap.size + 1, 0, none⟩)] := kb.far hne2 _
      have qb := kb5.cell 0
      have lb := kb5.lt
      have KX5 := hide kx
      have HBW5 := hide hbW
      clear kx hbW kb kb5
      go_wp2_with fail
      gi_wp2_with fail
      have hD5 : D < W4.heap.size := (Array.getElem?_eq_some_iff.1 HD4.out).1
      have hDk : (W.setCell ⟨w.heap.size + 1, 3, none⟩ (.int .i64 0)).heap[D]? = some (.deferred (some [])) := (Below.heap_setCell _ _ _ _ (by simp; omega)).trans ((HBW5.out.block D hD5).trans HD4.out)
      have hT5 : Turn (fun q => q = d) w (W.setCell ⟨w.heap.size + 1, 3, none⟩ (.int .i64 0)) := Turn.set (S := fun q => q = d) (((Turn.of_below HWW.out).trans HT4.out).trans (Turn.of_below HBW5.out)) (p := ⟨w.heap.size + 1, 3, none⟩) (.inr (by simp)) _
      have kx6 := KX5.out.set_ 3 (.int .i64 0)
      have kd6 := (Blk.via HBW5.out KD4.out).far (p := ⟨w.heap.size + 1, 3, none⟩) (by simp; omega) (.int .i64 0)
      have km6 := (KM4.out.kept (HBW5.out.block _ KM4.out.lt)).kept (W' := W.setCell ⟨w.heap.size + 1, 3, none⟩ (.int .i64 0)) (Below.heap_setCell _ _ _ _ (by simp))
      generalize W.setCell ⟨w.heap.size + 1, 3, none⟩ (.int .i64 0) = W6 at *
      have hg6 := grownBy_putObj' W6 D (.deferred none)
      refine leave_mark (v := .tuple #[.pointer (some ⟨w.heap.size + 1, 0, none⟩), .int .i64 0]) hDk (by simp [results, Tryz.results7, go_sem]) ⟨w.heap.size + 1, w.heap.size, o4, rfl, (World.putObj_heap_other (by omega)).trans kx6, km6.kept (World.putObj_heap_other (by omega)), (World.putObj_heap_other (by omega)).trans kd6, by omega, Nat.le_refl _, ?_⟩
      exact ⟨hg6.os.trans hT5.os, hg6.tape.trans hT5.tape, hg6.output.trans hT5.output, Nat.le_trans hT5.size hg6.size, fun q hq hn => (hg6.block q (Nat.lt_of_lt_of_le hq hT5.size) (fun e => by injection e with e; omega)).trans (hT5.block q hq hn)⟩
end Go.Proofs.YtnanlaefehaifaaGreat
