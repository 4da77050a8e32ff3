/-
  Texts of this claim, joined: LL, LM, LO, LP.
-/
import Derived.Test.YtnanlaefehaifaaGreatBo12
set_option maxHeartbeats 6400000
set_option maxRecDepth 100000
namespace Go.Proofs.YtnanlaefehaifaaGreat
open Go.RowKit Go.Shelf Go.Maps
attribute [local go_sem] Oper.semAt_some
def LoadPF (fs : Bool) (w : World) (d : Nat) (limit : Int) (sv mv : Value) (stale fuse : Int) (e : Ending) (w' : World) : Prop :=
  ∃ l m o', e = .returned (.tuple #[.pointer (some ⟨l, 0, none⟩), .int .i64 0]) ∧ Blk w' l 97 (logC d limit 0 0 m (.slice none 0 0)) ∧ MapF w' m 0 (fun _ => none) ∧ Blk w' d 107 (devF fs sv mv (.slice none 0 0) stale 0 0 (if fs = true then fuse - 1 else fuse) o') ∧ w.heap.size ≤ l ∧ w.heap.size ≤ m ∧ Turn (fun q => q = d) w w'
theorem walLoadF_any (fs : Bool) (d : Nat) (limit : Int) (sv mv : Value) (stale fuse o : Int) (w : World) (h1 : 1 ≤ limit) (h2 : limit ≤ 1048576) (hfu : fs = true → 0 < fuse ∧ fuse ≤ 9223372036854775807) (k : Blk w d 107 (devF fs sv mv (.slice none 0 0) stale 0 0 fuse o)) :
    Calls Tryz.prog 7 #[.pointer (some ⟨d, 0, none⟩), .int .i64 limit] w (LoadPF fs w d limit sv mv stale fuse) := by
  have hmm := @run_makeMap Tryz.prog
  have HK := hide k
  have HFU := hide hfu
  have ld := k.lt
  clear k hfu
  refine (callsIn_wide (n := 9)).1 ?_
  refine callsIn_of_wp_marks Tryz.func7 rfl trivial ?_ rfl
  simp only [Tryz.ntmps7, List.size_toArray, List.length_cons, List.length_nil, Nat.reduceAdd, Nat.reduceSub, Array.replicate_succ, Array.replicate_zero, List.push_toArray, List.append_toArray, List.nil_append, List.cons_append]
  gi_upto_region 6 with (fail)
  refine gen4N (R := fun W => Code.wpIn _ _ _ _ _ _ W) (fun W1 kM kX kB hb1 hz1 => ?_)
  have HM1 := hide kM
  have HX1 := hide kX
  have HB1 := hide kB
  have HL1 := hide hb1
  have HHD := hide (devHeadF_any fs d sv mv (.slice none 0 0) stale 0 0 fuse o W1 (Blk.via hb1 HK.out))
  clear kM kX kB hb1
  gi_upto_region 7 with (refine ⟨trivial, ?_⟩; gi_at_call 40; refine (callsIn_wide.2 HHD.out).mono ?_; rintro e w' ⟨rfl, hw'⟩; obtain rfl := hw'.symm)
  refine gen1 (R := fun W => Code.wpIn _ _ _ _ _ _ W) (fun W2 kE hb2 hz2 => ?_)
  have HLG := hide (devLogF_any fs d sv mv stale 0 0 fuse o W2 (Blk.via hb2 (Blk.via HL1.out HK.out)))
  have HREC := hide (fun A c W => records_any A c W)
  have HE2 := hide kE
  have HL2 := hide hb2
  clear kE hb2
  gi_wp2_with (refine ⟨trivial, ?_⟩; first
    | (gi_at_call 42; refine (callsIn_wide.2 HLG.out).mono ?_; rintro e W3 ⟨⟨A3, c3, rfl⟩, hb3⟩)
    | (gi_at_call 41; refine (callsIn_wide.2 (HREC.out _ _ _)).mono ?_; rintro e w' ⟨rfl, hw'⟩; obtain rfl := hw'.symm))
  have HW2 := hide (Blk.via hb3 HE2.out)
  have hl2 : Below w.heap.size w W2 := HL1.out.trans (HL2.out.mono HL1.out.size)
  have hl3 : Below w.heap.size w W3 := hl2.trans (hb3.mono hl2.size)
  have h13 : Below W1.heap.size W1 W3 := HL2.out.trans (hb3.mono HL2.out.size)
  have HB3 := hide h13
  have HL3 := hide hl3
  have hs1 := HL2.out.size
  have hs2 := hb3.size
  have hs3 := HL1.out.size
  have hE3 := HE2.out.lt
  clear hl2 hl3 h13 hb3
  have hp3 := Blk.new W3 33 #[.slice A3 0 c3]
  refine wpIn_rangeFunc_ownH (α := Empty) (encs := fun x => x.elim) (Kp := fun _ _ => True) (S := fun xs => xs = []) (Sp := fun _ => False) (N := 0) (w0 := W3.alloc (.cells #[.slice A3 0 c3] 33)) rfl (by omega) (gf := 106) (lb := #[.pointer (some ⟨W3.heap.size, 0, none⟩)]) rfl trivial (enters_of Tryz.func106 (by kernel_rfl) rfl) ?seq
    (fun _ _ => trivial) (fun _ _ _ _ _ _ _ _ => trivial) (Below.refl _ _) (fun x => x.elim)
    (fun _ W => Below W1.heap.size W1 W ∧ Blk W W1.heap.size 3 #[.int .i64 0]) (fun _ _ _ => False) ?own (fun _ _ _ _ _ hs _ _ => hs) ?start (fun x _ _ => x.elim) (fun x _ => x.elim) ?assign ?body ?done ?stop
  case seq =>
    intro lp J Jx W hW hJ _ _ h0
    refine (records1_in 8 (by omega) lp W3.heap.size A3 c3 W (Blk.via hW hp3)).mono ?_
    rintro e W' ⟨hv, hb⟩
    exact ⟨hv, .inl ⟨[], rfl, hJ [] W W' none h0 ⟨hb.os, hb.tape, hb.output, hb.size, fun q hq _ => hb.block q hq⟩ (fun r e => by cases e)⟩⟩
  case own =>
    rintro hs W W' row ⟨k1, k2⟩ hg hr
    exact ⟨k1.grown hg k1.size (fun q hq => by have := (hr q hq).1; simp at this; omega), k2.grown hg (nc_ne hr k2)⟩
  case start => exact ⟨HB3.out.alloc HB3.out.size _, HW2.out.alloc _⟩
  case assign => intro _ _ x; exact x.elim
  case body => intro _ _ x; exact x.elim
  case stop => rintro _ _ _ _ _ hF _ _; exact hF.elim
  case done =>
    rintro D xs W hD hS ⟨i1, i2⟩ hK
    have kd := Blk.via i1 (Blk.via HL1.out HK.out)
    have hww : Below w.heap.size w W := HL1.out.trans (i1.mono HL1.out.size)
    have kX := Blk.via i1 HX1.out
    have kB := Blk.via i1 HB1.out
    have kM := World.ownsMap.kept' HM1.out i1
    have q1 := i2.cell 0
    have l1 := i2.lt
    have HC := hide (devCutF_any fs d sv mv stale fuse o W HFU.out kd)
    have HKM := hide kM
    have HKX := hide kX
    have HKB := hide kB
    have HWW := hide hww
    have HKD := hide kd
    have HKK := hide hK
    have hDl : D < W.heap.size := (Array.getElem?_eq_some_iff.1 hK).1
    have hDW : d < D := by simp at hD; omega
    have hDW2 : w.heap.size + 1 + 1 < D := by simp at hD; omega
    clear kM kX kB hww kd hK i1 i2 hS
    dsimp only
    gi_upto_region 13 with (refine ⟨trivial, ?_⟩; gi_at_call 44; refine (callsIn_wide.2 HC.out).mono ?_; rintro e W4 ⟨rfl, o4, hd4, ht4⟩)
    gi_upto_region 15 with (fail)
    have g4 : ∀ q, q < W.heap.size → q ≠ d → W4.heap[q]? = W.heap[q]? := fun q hq hne => ht4.block q hq hne
    have kX4 : Blk W4 (w.heap.size + 1) 97 (logC d limit 0 0 w.heap.size (.slice none 0 0)) := (g4 _ HKX.out.lt (by omega)).trans HKX.out
    have kB4 : Blk W4 (w.heap.size + 1 + 1) 24 #[.pointer (some ⟨w.heap.size + 1, 0, none⟩)] := (g4 _ HKB.out.lt (by omega)).trans HKB.out
    have kM4 := HKM.out.kept (g4 _ HKM.out.lt (by omega))
    have hD4 : W4.heap[D]? = some (.deferred (some [])) := (g4 _ hDl (by omega)).trans HKK.out
    have hDn := HKX.out.lt
    have KX4 := hide kX4
    have KB4 := hide kB4
    have KM4 := hide kM4
    have KD4 := hide hd4
    have HD4 := hide hD4
    have HT4 := hide ht4
    have HEN := hide (fun W5 (hb : Below W4.heap.size W4 W5) => walEndF_any fs (w.heap.size + 1) d limit 0 0 w.heap.size (.slice none 0 0) sv mv none 0 0 stale 0 0 (if fs = true then fuse - 1 else fuse) o4 W5 (by omega) (by omega) (by omega) (Blk.via hb kX4) (Blk.via hb hd4))
    clear kX4 kB4 kM4 hd4 hD4 ht4 g4 q1 l1
    refine wpIn_wide.2 ?_
    refine wp_region_inv_tail 5 [fun v _ => v = .pointer (some ⟨w.heap.size + 1, 0, none⟩), fun v _ => v = .pointer (some ⟨w.heap.size + 1, 0, none⟩), fun v _ => v = .int .i64 0, fun v _ => v = .pointer (some ⟨w.heap.size + 1, 0, none⟩), fun v _ => v = .pointer (some ⟨w.heap.size + 1, 3, none⟩)] (by kernel_rfl) (by kernel_rfl) (by kernel_rfl) (by kernel_rfl) (by kernel_rfl) (by first | simp | decide) (by kernel_rfl) ?st ?steps ?fin
    case st =>
      intro i v W W' hWW h
      match i with
      | 0 | 1 | 2 | 3 | 4 => exact h
      | (i + 5) => exact h
    case steps =>
      simp only [stepsT, List.take_succ_cons, List.take_zero]
      refine ⟨?_, ?_, ?_, ?_, ?_, trivial⟩
      · intro f W hbW hdp
        have q : W.cell? ⟨w.heap.size + 1 + 1, 0, none⟩ = some (.pointer (some ⟨w.heap.size + 1, 0, none⟩)) := (Blk.via hbW KB4.out).cell 0
        simp only [fS, Nat.reduceAdd]
        go_wp2
        exact ⟨rfl, _, rfl, rfl, Below.refl _ _⟩
      · intro f W hbW hdp
        have q : W.cell? ⟨w.heap.size + 1 + 1, 0, none⟩ = some (.pointer (some ⟨w.heap.size + 1, 0, none⟩)) := (Blk.via hbW KB4.out).cell 0
        simp only [fS, Nat.reduceAdd]
        go_wp2
        exact ⟨rfl, _, rfl, rfl, Below.refl _ _⟩
      · intro f W hbW hdp
        have e1 : f 1 = .pointer (some ⟨w.heap.size + 1, 0, none⟩) := hdp ⟨1, .data⟩ (mfl (by simp) rfl)
        simp only [fS, Nat.reduceAdd, e1]
        go_wp2_with (go_at_call 45; refine (HEN.out _ hbW).mono ?_; rintro e w' ⟨rfl, hb'⟩)
        exact ⟨rfl, _, rfl, rfl, hb'⟩
      · intro f W hbW hdp
        have e0 : f 0 = .pointer (some ⟨w.heap.size + 1, 0, none⟩) := hdp ⟨0, .data⟩ (mfl (by simp) rfl)
        simp only [fS, Nat.reduceAdd, e0]
        go_wp2
        exact ⟨rfl, _, rfl, rfl, Below.refl _ _⟩
      · intro f W hbW hdp
        have e3 : f 3 = .pointer (some ⟨w.heap.size + 1, 0, none⟩) := hdp ⟨3, .data⟩ (mfl (by simp) rfl)
        simp only [fS, Nat.reduceAdd, e3]
        go_wp2
        exact ⟨rfl, _, rfl, rfl, Below.refl _ _⟩
    case fin =>
      intro f W hbW hA
      have e2 : f 2 = .int .i64 0 := hA 2 (by omega)
      have e4 : f 4 = .pointer (some ⟨w.heap.size + 1, 3, none⟩) := hA 4 (by omega)
      simp only [List.drop_succ_cons, List.drop_zero, List.take_succ_cons, List.take_zero, fillF, Act.put, List.setIfInBounds_toArray, List.set_cons_succ, List.set_cons_zero, Nat.reduceAdd, e2, e4]
      clear hA e2 e4
      have kx := Blk.via hbW KX4.out
      have lx := kx.lt
      have fx := kx.frozen 3
      have cx := kx.cell 3
      have kb := Blk.via hbW KB4.out
      have hne2 : w.heap.size + 1 + 1 ≠ w.heap.size + 1 := by omega
      have kb5 : Blk (W.setCell ⟨w.heap.size + 1, 3, none⟩ (.int .i64 0)) (w.heap.size + 1 + 1) 24 #[.pointer (some ⟨w.heap.size + 1, 0, none⟩)] := kb.far hne2 _
      have qb := kb5.cell 0
      have lb := kb5.lt
      have KX5 := hide kx
      have HBW5 := hide hbW
      clear kx hbW kb kb5
      go_wp2_with fail
      gi_wp2_with fail
      have hD5 : D < W4.heap.size := (Array.getElem?_eq_some_iff.1 HD4.out).1
      have hDk : (W.setCell ⟨w.heap.size + 1, 3, none⟩ (.int .i64 0)).heap[D]? = some (.deferred (some [])) := (Below.heap_setCell _ _ _ _ (by simp; omega)).trans ((HBW5.out.block D hD5).trans HD4.out)
      have hT5 : Turn (fun q => q = d) w (W.setCell ⟨w.heap.size + 1, 3, none⟩ (.int .i64 0)) := Turn.set (S := fun q => q = d) (((Turn.of_below HWW.out).trans HT4.out).trans (Turn.of_below HBW5.out)) (p := ⟨w.heap.size + 1, 3, none⟩) (.inr (by simp)) _
      have kx6 := KX5.out.set_ 3 (.int .i64 0)
      have kd6 := (Blk.via HBW5.out KD4.out).far (p := ⟨w.heap.size + 1, 3, none⟩) (by simp; omega) (.int .i64 0)
      have km6 := (KM4.out.kept (HBW5.out.block _ KM4.out.lt)).kept (W' := W.setCell ⟨w.heap.size + 1, 3, none⟩ (.int .i64 0)) (Below.heap_setCell _ _ _ _ (by simp))
      generalize W.setCell ⟨w.heap.size + 1, 3, none⟩ (.int .i64 0) = W6 at *
      have hg6 := grownBy_putObj' W6 D (.deferred none)
      refine leave_mark (v := .tuple #[.pointer (some ⟨w.heap.size + 1, 0, none⟩), .int .i64 0]) hDk (by simp [results, Tryz.results7, go_sem]) ⟨w.heap.size + 1, w.heap.size, o4, rfl, (World.putObj_heap_other (by omega)).trans kx6, km6.kept (World.putObj_heap_other (by omega)), (World.putObj_heap_other (by omega)).trans kd6, by omega, Nat.le_refl _, ?_⟩
      exact ⟨hg6.os.trans hT5.os, hg6.tape.trans hT5.tape, hg6.output.trans hT5.output, Nat.le_trans hT5.size hg6.size, fun q hq hn => (hg6.block q (Nat.lt_of_lt_of_le hq hT5.size) (fun e => by injection e with e; omega)).trans (hT5.block q hq hn)⟩
theorem walLoad_power (d : Nat) (limit : Int) (sv mv : Value) (stale o : Int) (w : World) (h1 : 1 ≤ limit) (h2 : limit ≤ 1048576) (k : Blk w d 107 (devF true sv mv (.slice none 0 0) stale 0 0 0 o)) :
    Calls Tryz.prog 7 #[.pointer (some ⟨d, 0, none⟩), .int .i64 limit] w (fun e w' => e = .returned (.tuple #[.pointer none, .int .i64 3]) ∧ Turn (fun q => q = d) w w') := by
  have hmm := @run_makeMap Tryz.prog
  have HK := hide k
  have ld := k.lt
  clear k
  refine (callsIn_wide (n := 9)).1 ?_
  refine callsIn_of_wp_marks Tryz.func7 rfl trivial ?_ rfl
  simp only [Tryz.ntmps7, List.size_toArray, List.length_cons, List.length_nil, Nat.reduceAdd, Nat.reduceSub, Array.replicate_succ, Array.replicate_zero, List.push_toArray, List.append_toArray, List.nil_append, List.cons_append]
  gi_upto_region 6 with (fail)
  refine gen4N (R := fun W => Code.wpIn _ _ _ _ _ _ W) (fun W1 kM kX kB hb1 hz1 => ?_)
  have HM1 := hide kM
  have HX1 := hide kX
  have HB1 := hide kB
  have HL1 := hide hb1
  have HHD := hide (devHeadF_any true d sv mv (.slice none 0 0) stale 0 0 0 o W1 (Blk.via hb1 HK.out))
  clear kM kX kB hb1
  gi_upto_region 7 with (refine ⟨trivial, ?_⟩; gi_at_call 40; refine (callsIn_wide.2 HHD.out).mono ?_; rintro e w' ⟨rfl, hw'⟩; obtain rfl := hw'.symm)
  refine gen1 (R := fun W => Code.wpIn _ _ _ _ _ _ W) (fun W2 kE hb2 hz2 => ?_)
  have HLG := hide (devLogF_any true d sv mv stale 0 0 0 o W2 (Blk.via hb2 (Blk.via HL1.out HK.out)))
  have HREC := hide (fun A c W => records_any A c W)
  have HE2 := hide kE
  have HL2 := hide hb2
  clear kE hb2
  gi_wp2_with (refine ⟨trivial, ?_⟩; first
    | (gi_at_call 42; refine (callsIn_wide.2 HLG.out).mono ?_; rintro e W3 ⟨⟨A3, c3, rfl⟩, hb3⟩)
    | (gi_at_call 41; refine (callsIn_wide.2 (HREC.out _ _ _)).mono ?_; rintro e w' ⟨rfl, hw'⟩; obtain rfl := hw'.symm))
  have HW2 := hide (Blk.via hb3 HE2.out)
  have hl2 : Below w.heap.size w W2 := HL1.out.trans (HL2.out.mono HL1.out.size)
  have hl3 : Below w.heap.size w W3 := hl2.trans (hb3.mono hl2.size)
  have h13 : Below W1.heap.size W1 W3 := HL2.out.trans (hb3.mono HL2.out.size)
  have HB3 := hide h13
  have HL3 := hide hl3
  have hs1 := HL2.out.size
  have hs2 := hb3.size
  have hs3 := HL1.out.size
  have hE3 := HE2.out.lt
  clear hl2 hl3 h13 hb3
  have hp3 := Blk.new W3 33 #[.slice A3 0 c3]
  refine wpIn_rangeFunc_ownH (α := Empty) (encs := fun x => x.elim) (Kp := fun _ _ => True) (S := fun xs => xs = []) (Sp := fun _ => False) (N := 0) (w0 := W3.alloc (.cells #[.slice A3 0 c3] 33)) rfl (by omega) (gf := 106) (lb := #[.pointer (some ⟨W3.heap.size, 0, none⟩)]) rfl trivial (enters_of Tryz.func106 (by kernel_rfl) rfl) ?seq
    (fun _ _ => trivial) (fun _ _ _ _ _ _ _ _ => trivial) (Below.refl _ _) (fun x => x.elim)
    (fun _ W => Below W1.heap.size W1 W ∧ Blk W W1.heap.size 3 #[.int .i64 0]) (fun _ _ _ => False) ?own (fun _ _ _ _ _ hs _ _ => hs) ?start (fun x _ _ => x.elim) (fun x _ => x.elim) ?assign ?body ?done ?stop
  case seq =>
    intro lp J Jx W hW hJ _ _ h0
    refine (records1_in 8 (by omega) lp W3.heap.size A3 c3 W (Blk.via hW hp3)).mono ?_
    rintro e W' ⟨hv, hb⟩
    exact ⟨hv, .inl ⟨[], rfl, hJ [] W W' none h0 ⟨hb.os, hb.tape, hb.output, hb.size, fun q hq _ => hb.block q hq⟩ (fun r e => by cases e)⟩⟩
  case own =>
    rintro hs W W' row ⟨k1, k2⟩ hg hr
    exact ⟨k1.grown hg k1.size (fun q hq => by have := (hr q hq).1; simp at this; omega), k2.grown hg (nc_ne hr k2)⟩
  case start => exact ⟨HB3.out.alloc HB3.out.size _, HW2.out.alloc _⟩
  case assign => intro _ _ x; exact x.elim
  case body => intro _ _ x; exact x.elim
  case stop => rintro _ _ _ _ _ hF _ _; exact hF.elim
  case done =>
    rintro D xs W hD hS ⟨i1, i2⟩ hK
    have kd := Blk.via i1 (Blk.via HL1.out HK.out)
    have hww : Below w.heap.size w W := HL1.out.trans (i1.mono HL1.out.size)
    have kX := Blk.via i1 HX1.out
    have kB := Blk.via i1 HB1.out
    have kM := World.ownsMap.kept' HM1.out i1
    have q1 := i2.cell 0
    have l1 := i2.lt
    have HC := hide (devCut_power d sv mv stale o W kd)
    have HKM := hide kM
    have HKX := hide kX
    have HKB := hide kB
    have HWW := hide hww
    have HKD := hide kd
    have HKK := hide hK
    have hDl : D < W.heap.size := (Array.getElem?_eq_some_iff.1 hK).1
    have hDW : d < D := by simp at hD; omega
    have hDW2 : w.heap.size + 1 + 1 < D := by simp at hD; omega
    clear kM kX kB hww kd hK i1 i2 hS
    dsimp only
    gi_wp2_with (refine ⟨trivial, ?_⟩; gi_at_call 44; refine (callsIn_wide.2 HC.out).mono ?_; rintro e W4 ⟨rfl, ht4⟩)
    have hDk : W4.heap[D]? = some (.deferred (some [])) := (ht4.block _ hDl (by omega)).trans HKK.out
    have hT5 : Turn (fun q => q = d) w W4 := (Turn.of_below HWW.out).trans ht4
    have hg6 := grownBy_putObj' W4 D (.deferred none)
    refine leave_mark (v := .tuple #[.pointer none, .int .i64 3]) hDk (by simp [results, Tryz.results7, go_sem]) ⟨rfl, ?_⟩
    exact ⟨hg6.os.trans hT5.os, hg6.tape.trans hT5.tape, hg6.output.trans hT5.output, Nat.le_trans hT5.size hg6.size, fun q hq hn => (hg6.block q (Nat.lt_of_lt_of_le hq hT5.size) (fun e => by injection e with e; omega)).trans (hT5.block q hq hn)⟩
end Go.Proofs.YtnanlaefehaifaaGreat
namespace Go.Proofs.YtnanlaefehaifaaGreat
open Go.RowKit Go.Maps
theorem devRead_power (w : World) (d no n : Nat) (A : Option Addr) (c : Nat) (mv lv : Value) (stale head sure o : Int)
    (k : Blk w d 107 (devF true (.slice A n c) mv lv stale head sure 0 o)) (hno : no < n) (_hn : n ≤ 1024) :
    Calls Tryz.prog 72 #[.pointer (some ⟨d, 0, none⟩), .int .i64 (no : Nat)] w fun e w' => e = .returned (.tuple #[pgV (List.replicate 512 0), .int .i64 3]) ∧ Turn (fun q => q = d) w w' := by
  have hmf : ∀ (fn : Fn) (first cap : Array Value) (w : World), (Instr.makeFunc fn first cap).run Tryz.prog w = .ok (.func fn first cap) w := fun _ _ _ _ => rfl
  have HK := hide k
  obtain ⟨J, hJ⟩ : ∃ J, J = (Tryz.zeroCells129.setIfInBounds 0 (.pointer (some ⟨d, 0, none⟩))).setIfInBounds 1 (.int .i64 (no : Nat)) := ⟨_, rfl⟩
  have hJ2 : J = jobPg d (no : Nat) (List.replicate 512 0) := hJ.trans (job_zero d _)
  have hsz : J.size = 515 := by rw [hJ2]; exact jobPg_size _ _ _ (by simp)
  have h1c : J.all (·.oneCell') = true := by
    rw [hJ]
    exact all_set (all_set zero_job_one 0 rfl) 1 rfl
  have HII := hide (show (Tryz.prog.info? 129).map (·.size) = some J.size by rw [hsz]; exact info_job)
  have HZ := hide (show Tryz.zeroCells129.size = J.size by rw [hsz]; exact zeros_job)
  have H1 := hide h1c
  have HJ := hide hJ
  have HJ2 := hide hJ2
  obtain ⟨q, hq⟩ : ∃ q : List UInt8, q = List.replicate 512 0 := ⟨_, rfl⟩
  rw [← hq] at HJ2
  have hql : q.length = 512 := by rw [hq]; simp
  have HQ := hide hq
  have HPI := hide (show (Tryz.prog.info? 63).map (·.size) = some (q.map byteV).length by rw [List.length_map, hql]; exact info_pg)
  have HPS := hide (show (Tryz.prog.info? 63).map (·.size) = some (q.map byteV).toArray.size by rw [List.size_toArray, List.length_map, hql]; exact info_pg)
  have HZP := hide (show Tryz.zeroCells63.size = (q.map byteV).toArray.size by rw [zeros_page, List.size_toArray, List.length_map, hql])
  clear k hJ hJ2 hsz h1c hq hql
  go_enter Tryz.func72, Tryz.ntmps72
  go_upto_region 1 with (fail)
  refine gen1 (R := fun W => Code.wp _ _ _ _ W) (fun W1 kT hb1 hz1 => ?_)
  have HKT := hide kT
  have HB1 := hide hb1
  clear kT hb1
  go_wp2_with (refine wpList_store_row rfl 129 (.tmp 6) (.tmp 13) rfl W1.heap.size J rfl (by rw [HJ.out]; rfl) 129 _ (Blk.new W1 _ _) HII.out HZ.out H1.out ?_)
  refine nameW (w := World.setRow _ W1.heap.size J) (R := fun W => Calls Tryz.prog _ _ W _) (fun W2 hW2 => ?_)
  have kj2 : Blk W2 W1.heap.size 129 J := by
    rw [hW2]
    exact setRow_heap _ W1.heap.size _ _ _ _ (Blk.new W1 _ _)
  have hb2 : Below W1.heap.size W1 W2 := by
    rw [hW2]
    exact (touch_setRow _ W1.heap.size J).below ((Below.refl W1.heap.size W1).alloc (Nat.le_refl _) _) (Nat.le_refl _)
  have hl2 : Below w.heap.size w W2 := HB1.out.trans (hb2.mono HB1.out.size)
  have hz2 := kj2.lt
  have hz1' := HB1.out.size
  have kT2 := Blk.via hb2 HKT.out
  have kd2 := Blk.via hl2 HK.out
  have hdl := HK.out.lt
  clear hW2
  refine (devHas_any d no n _ _ _ W2 kd2 rfl hno).mono ?_
  rintro e w' ⟨rfl, hw'⟩
  obtain rfl := hw'.symm
  have HD := hide (do_power d 134 (.pointer (some ⟨W1.heap.size, 0, none⟩)) _ W2 kd2 rfl rfl rfl)
  have HF := hide (show ∀ w', Turn (fun q => q = d) W2 w' → (Blk w' W1.heap.size 129 (jobPg d no q) ∧ Blk w' w.heap.size 63 Tryz.zeroCells63 ∧ Turn (fun q => q = d) w w') from fun w' ht => ⟨ht.blk (HJ2.out ▸ kj2) (by omega), ht.blk kT2 (by omega), (Turn.of_below hl2).trans ht⟩)
  clear kd2 hl2 hb2 kj2 kT2
  go_wp2_with fail
  refine HD.out.mono ?_
  rintro e w3 ⟨rfl, hw'⟩
  obtain ⟨k1, k2, k3⟩ := HF.out w3 hw'
  have K1 := hide k1
  have K2 := hide k2
  have K3 := hide k3
  have hl3 := k2.lt
  have hl4 := k1.lt
  clear hw' k1 k2 k3
  go_wp2_with (first
    | (refine wpList_load_mid rfl 63 (.tmp 20) rfl W1.heap.size 2 rfl (q.map byteV) _ (jobPg_range K1.out) Tryz.underlying63 rfl HPI.out ?_)
    | (refine wpList_store_row rfl 63 (.tmp 4) (.tmp 21) rfl w.heap.size (q.map byteV).toArray rfl rfl 63 _ K2.out HPS.out HZP.out (all_oneCell_toArray (bytes_one _)) ?_))
  refine bodyPost_ret (results_row_1 Tryz.results72 _ _ w.heap.size (q.map byteV).toArray rfl (run_loadVar_row _ _ _ _ (q.map byteV).toArray (0, 0) _ (setRow_heap w3 w.heap.size _ _ _ _ K2.out) Tryz.underlying63 rfl HPS.out)) rfl ⟨by rw [← HQ.out]; rfl, ?_⟩
  exact K3.out.setRow (Nat.le_refl _) (q.map byteV).toArray
def poolC (d l : Nat) (frames : Int) (fv : Value) : Array Value := #[.pointer (some ⟨d, 0, none⟩), .iface 24 (.pointer (some ⟨l, 0, none⟩)), .int .i64 frames, fv]
theorem poolNew_any (d l : Nat) (f : Int) (w : World) (h1 : 1 ≤ f) (h2 : f ≤ 64) : Calls Tryz.prog 76 #[.pointer (some ⟨d, 0, none⟩), .iface 24 (.pointer (some ⟨l, 0, none⟩)), .int .i64 f] w fun e w' => ∃ p, e = .returned (.pointer (some ⟨p, 0, none⟩)) ∧ Blk w' p 209 (poolC d l f (.slice none 0 0)) ∧ w.heap.size ≤ p ∧ Below w.heap.size w w' := by
  have m1 : max f 1 = f := by omega
  have m2 : min f 64 = f := by omega
  go_enter Tryz.func76, Tryz.ntmps76
  go_wp2
  go_ret
  exact ⟨_, rfl, Blk.new _ _ _, Nat.le_refl _, (Below.refl _ _).alloc (Nat.le_refl _) _⟩
end Go.Proofs.YtnanlaefehaifaaGreat
namespace Go.Proofs.YtnanlaefehaifaaGreat
open Go.RowKit Go.Maps
def sumB (bs : List UInt8) : List UInt8 := beB 4 ((moreD 0 bs : Nat) : Int) ++ bs
def sealB (bs : List UInt8) : List UInt8 := sumB (bs.drop 4)
theorem sumB_length (bs : List UInt8) : (sumB bs).length = 4 + bs.length := by unfold sumB; rw [List.length_append, beB_length]
theorem sealB_length {bs : List UInt8} (h : bs.length = 512) : (sealB bs).length = 512 := by unfold sealB; rw [sumB_length, List.length_drop, h]
theorem sealR2_any (A : Option Addr) (n c : Nat) (bs : List UInt8) (B : Nat) (w : World) (hB : B ≤ w.heap.size) (hm : n ≤ 100000) (hn : n = bs.length) (hr : Reads w B 1 A n (bs.map byteV)) :
    Calls Tryz.prog 66 #[.slice A n c] w fun e w' => ∃ A' c', e = .returned (.slice A' (4 + n) c') ∧ OwnB w' w.heap.size (.slice A' (4 + n) c') (sumB bs) ∧ Below w.heap.size w w' := by
  have HM := hide (moreR_any 0 A n c bs B w (by omega) (by omega) hn hr)
  have hlt : moreR 0 bs < 4294967296 := by unfold moreR; omega
  have HR := hide hr
  have HN := hide hn
  have HSB := hide (show sumB bs = beB 4 ((moreR 0 bs : Nat) : Int) ++ bs by unfold sumB; rw [moreD_eq])
  have HBY := hide (fun (x : Int) W => bytesR_any 4 x (by omega) W)
  generalize moreR 0 bs = v at *
  clear hr hn
  go_enter Tryz.func66, Tryz.ntmps66
  go_wp2_with (first
    | (go_at_call 131; refine HM.out.mono ?_; rintro e w' ⟨rfl, hw'⟩; obtain rfl := hw'.symm)
    | (go_at_call 61; refine (HBY.out _ _).mono ?_; rintro e W1 ⟨⟨A1, c1, rfl, ho⟩, hb⟩)
    | (at_builtin; refine heldG ?_))
  refine unheldG ?_
  at_builtin
  have hz := hb.size
  refine wpList_app rfl _ _ rfl w.heap.size _ 4 _ _ rfl ho (by rw [beB_length]) B A n c bs rfl (HR.out.below hb hB) HN.out (by omega) w hb hz ?_
  intro A4 c4 W4 ho4 hl4 hg4
  have HO := hide ho4
  have HL := hide hl4
  clear ho4 hl4 hg4 ho hb
  go_wp2
  go_ret
  exact ⟨A4, c4, rfl, by rw [HSB.out]; exact HO.out, HL.out⟩
theorem sealR_any (A : Option Addr) (c : Nat) (bs : List UInt8) (B : Nat) (w : World) (hB : B ≤ w.heap.size) (hc : 512 ≤ c) (hl : bs.length = 512) (hr : Reads w B 1 A 512 (bs.map byteV)) :
    Calls Tryz.prog 24 #[.slice A 512 c] w fun e w' => ∃ A' c', e = .returned (.slice A' 512 c') ∧ OwnB w' w.heap.size (.slice A' 512 c') (sealB bs) ∧ Below w.heap.size w w' := by
  obtain ⟨b, o, rfl, _, _⟩ := hr.plain (by omega) (by omega)
  have hr4 := hr.cut (k := 4) (cap := c) (by omega) (by omega)
  rw [if_neg (by omega), Option.map_some, add_plain] at hr4
  have HS := hide (show Calls Tryz.prog 66 #[.slice (some ⟨b, o + 4, none⟩) 508 (c - 4)] w (fun e w' => ∃ A' c', e = .returned (.slice A' 512 c') ∧ OwnB w' w.heap.size (.slice A' 512 c') (sealB bs) ∧ Below w.heap.size w w') from sealR2_any (some ⟨b, o + 4, none⟩) 508 (c - 4) (bs.drop 4) B w hB (by omega) (by rw [List.length_drop, hl]) (by rw [List.map_drop]; simpa using hr4))
  have g1 : (4 : Int) ≤ 512 := by omega
  have g3 : ¬ (c = 4) := by omega
  clear hr hr4 hl
  go_enter Tryz.func24, Tryz.ntmps24
  go_wp2_with (go_at_call 66; refine HS.out.mono ?_; rintro e W1 ⟨A1, c1, rfl, ho, hb⟩)
  go_ret
  exact ⟨A1, c1, rfl, ho, hb⟩
def arrK (bs : List UInt8) (k : Nat) : Array Value := ((bs.take k ++ List.replicate (512 - k) 0).map byteV).toArray
theorem arrK_size (bs : List UInt8) (hl : bs.length = 512) (k : Nat) (hk : k ≤ 512) : (arrK bs k).size = 512 := by
  unfold arrK
  rw [List.size_toArray, List.length_map, List.length_append, List.length_take, List.length_replicate]
  omega
theorem arrK_succ (bs : List UInt8) (hl : bs.length = 512) (k : Nat) (hk : k < 512) (x : UInt8) (hx : bs[k]? = some x) : (arrK bs k).setIfInBounds k (byteV x) = arrK bs (k + 1) := by
  refine Array.ext (by rw [Array.size_setIfInBounds, arrK_size bs hl k (by omega), arrK_size bs hl (k + 1) (by omega)]) (fun i h1 h2 => ?_)
  have e : ((arrK bs k).setIfInBounds k (byteV x))[i]? = (arrK bs (k + 1))[i]? := by
    rw [Array.getElem?_setIfInBounds]
    have hs := arrK_size bs hl k (by omega)
    unfold arrK at hs ⊢
    have ht : (bs.take k).length = k := by rw [List.length_take]; omega
    have ht2 : (bs.take (k + 1)).length = k + 1 := by rw [List.length_take]; omega
    split
    · rename_i hki
      subst hki
      rw [if_pos (by omega), List.getElem?_toArray, List.getElem?_map, List.getElem?_append_left (by omega), List.getElem?_take, if_pos (by omega), hx]
      rfl
    · rename_i hki
      rw [List.getElem?_toArray, List.getElem?_toArray, List.getElem?_map, List.getElem?_map]
      congr 1
      rcases Nat.lt_or_ge i k with h | h
      · rw [List.getElem?_append_left (by omega), List.getElem?_append_left (by omega), List.getElem?_take, List.getElem?_take, if_pos h, if_pos (by omega)]
      · rw [List.getElem?_append_right (by omega), List.getElem?_append_right (by omega), ht, ht2, List.getElem?_replicate, List.getElem?_replicate]
        have : i < 512 := by rw [Array.size_setIfInBounds, arrK_size bs hl k (by omega)] at h1; exact h1
        rw [if_pos (by omega), if_pos (by omega)]
  rw [Array.getElem?_eq_getElem h1, Array.getElem?_eq_getElem h2] at e
  exact Option.some.inj e
theorem arrK_full (bs : List UInt8) (hl : bs.length = 512) : arrK bs 512 = (bs.map byteV).toArray := by
  unfold arrK
  rw [List.take_of_length_le (by omega), Nat.sub_self, List.replicate_zero, List.append_nil]
theorem arrK_zero (bs : List UInt8) : arrK bs 0 = Tryz.zeroCells62 := by
  unfold arrK
  rw [List.take_zero, List.nil_append]
  kernel_rfl
theorem info_arr : (Tryz.prog.info? 62).map (·.size) = some 512 := by kernel_rfl
theorem arrayR_any (A : Option Addr) (c : Nat) (bs : List UInt8) (B : Nat) (w : World) (hB : B ≤ w.heap.size) (hl : bs.length = 512) (hr : Reads w B 1 A 512 (bs.map byteV)) :
    Calls Tryz.prog 23 #[.slice A 512 c] w fun e w' => e = .returned (pgV bs) ∧ Below w.heap.size w w' := by
  obtain ⟨b, o, rfl, hbB, hcell⟩ := hr.plain (by omega) (by omega)
  have HC := hide (fun (W : World) (hb : Below w.heap.size w W) (k : Nat) (x : UInt8) (hx : bs[k]? = some x) => (show W.cell? ⟨b, o + k, none⟩ = some (.int .u8 ((x.toNat : Nat) : Int)) from (hb.cell (p := ⟨b, o + k, none⟩) (by show b < w.heap.size; omega)).trans (hcell k (byteV x) (by rw [List.getElem?_map, hx]; rfl))))
  have HL := hide hl
  have HZ0 := hide (arrK_zero bs)
  have HAI := hide (show (Tryz.prog.info? 62).map (·.size) = some ((bs.map byteV).toArray).size by rw [pg_size bs hl]; exact info_arr)
  have HAZ := hide (show Tryz.zeroCells62.size = ((bs.map byteV).toArray).size by rw [pg_size bs hl, ← arrK_zero bs, arrK_size bs hl 0 (by omega)])
  have H1 := hide (row_one bs)
  clear hr hcell hl
  go_enter Tryz.func23, Tryz.ntmps23
  go_upto_region 2 with (fail)
  refine gen2 (R := fun W => Code.wp _ _ _ _ W) (fun W1 kR kO hb1 hz1 => ?_)
  rw [← HZ0.out] at kO
  have HKR := hide kR
  have HKO := hide kO
  have HL1 := hide hb1
  clear kR kO hb1
  go_wp2
  go_loopw [4] (fun iv wr => ∃ k : Nat, k ≤ 512 ∧ iv = .int .i64 k ∧ Hid (Blk wr (w.heap.size + 1) 62 (arrK bs k)) ∧ Hid (Blk wr w.heap.size 62 Tryz.zeroCells62) ∧ Hid (Below w.heap.size w wr)) (fun iv _ => 512 - (intOf iv).toNat)
  case atStart => exact ⟨0, by omega, rfl, HKO, HKR, HL1⟩
  case round =>
    obtain ⟨k, hk, rfl, hO, hR, hL⟩ := hrel
    by_cases hlt : (k : Int) < 512
    · obtain ⟨x, hx⟩ : ∃ x, bs[k]? = some x := ⟨_, List.getElem?_eq_getElem (by have := HL.out; omega)⟩
      have hc := HC.out wr hL.out k x hx
      have hxl := x.toNat_lt
      have HS := hide (arrK_succ bs HL.out k (by omega) x hx)
      have hck : wr.cell? ⟨w.heap.size + 1, k, none⟩ = some _ := (hO.out.cell k).trans (Array.getElem?_eq_getElem (by rw [arrK_size bs HL.out k hk]; omega))
      have hfk := hO.out.frozen k
      have hok := hO.out.lt
      have hk0 : (0 : Int) ≤ k := by omega
      have HBX := hide (show byteV x = .int .u8 ((x.toNat : Nat) : Int) from rfl)
      generalize x.toNat = y at *
      clear hx
      go_wp2
      go_roundw
      case rel =>
        refine ⟨k + 1, by omega, by go_num, ?_, ?_, ?_⟩
        · rw [← HS.out, HBX.out]
          exact hide (hO.out.set_ k _)
        · exact hide (hR.out.far (p := ⟨w.heap.size + 1, k, none⟩) (by simp) _)
        · exact hide (hL.out.setCell (p := ⟨w.heap.size + 1, k, none⟩) (Nat.le_succ _) _)
      case measure => simp [intOf]; omega
    · obtain rfl : k = 512 := by omega
      have HO := hide (arrK_full bs HL.out ▸ hO.out)
      have hok := hO.out.lt
      generalize hX : (bs.map byteV).toArray = X at *
      go_wp2_with (first
        | (refine wpList_load_row rfl 62 (.tmp 3) rfl (w.heap.size + 1) rfl 62 X (0, 0) _ HO.out Tryz.underlying62 rfl HAI.out ?_)
        | (refine wpList_store_row rfl 62 (.tmp 2) (.tmp 21) rfl w.heap.size X rfl rfl 62 _ hR.out HAI.out HAZ.out H1.out ?_))
      refine bodyPost_ret (results_cell_row Tryz.results23 _ _ w.heap.size 62 X (0, 0) _ rfl (setRow_heap _ w.heap.size _ _ _ _ hR.out) Tryz.underlying62 rfl HAI.out) rfl ⟨by rw [← hX]; rfl, ?_⟩
      exact (touch_setRow _ w.heap.size X).below hL.out (Nat.le_refl _)
end Go.Proofs.YtnanlaefehaifaaGreat
namespace Go.Proofs.YtnanlaefehaifaaGreat
open Go.RowKit Go.Maps
def OpenNo (w : World) (d : Nat) (er : Int) (e : Ending) (w' : World) : Prop := e = .returned (.tuple #[.pointer none, .int .i64 er]) ∧ Turn (fun q => q = d) w w'
theorem open_power0 (w : World) (d n : Nat) (A : Option Addr) (c : Nat) (mv lv : Value) (stale head sure o : Int)
    (k : Blk w d 107 (devF true (.slice A n c) mv lv stale head sure 0 o)) (h0 : 0 < n) (hn : n ≤ 1024) :
    Calls Tryz.prog 26 #[.pointer (some ⟨d, 0, none⟩)] w (OpenNo w d 3) := by
  have HRD := hide (show Calls Tryz.prog 72 #[.pointer (some ⟨d, 0, none⟩), .int .i64 0] w _ from devRead_power w d 0 n A c mv lv stale head sure o k h0 hn)
  obtain ⟨bs, hbs⟩ : ∃ bs : List UInt8, bs = List.replicate 512 0 := ⟨_, rfl⟩
  have hl : bs.length = 512 := by rw [hbs]; simp
  rw [← hbs] at HRD
  clear k hbs
  have HPX := hide (pg_size bs hl)
  have HPI := hide (show (Tryz.prog.info? 63).map (·.size) = some ((bs.map byteV).toArray).size by rw [HPX.out]; exact info_pg)
  have HPZ := hide (show Tryz.zeroCells63.size = ((bs.map byteV).toArray).size by rw [HPX.out]; exact zeros_page)
  have HP1 := hide (row_one bs)
  unfold pgV at *
  generalize hX : (bs.map byteV).toArray = X at *
  clear hX hl
  go_enter Tryz.func26, Tryz.ntmps26
  go_upto_region 3 with (fail)
  go_wp2_with fail
  refine HRD.out.mono ?_
  rintro e W1 ⟨rfl, ht1⟩
  have HT1 := hide ht1
  clear ht1
  go_upto_region 4 with (refine wpList_store_row rfl 63 (.tmp 4) (.tmp 17) rfl W1.heap.size X rfl rfl 63 _ (Blk.new W1 _ _) HPI.out HPZ.out HP1.out ?_)
  go_wp2
  go_ret2
  exact ⟨rfl, HT1.out.trans (Turn.of_below ((touch_setRow _ W1.heap.size X).below ((Below.refl W1.heap.size W1).alloc (Nat.le_refl _) _) (Nat.le_refl _)))⟩
theorem rightE_no {bs : List UInt8} {no : Int} (h : rightP bs no = false) : rightE bs no = 14 := by
  unfold rightE
  rw [if_neg]
  rw [h]
  decide
theorem rightE_yes {bs : List UInt8} {no : Int} (h : rightP bs no = true) : rightE bs no = 0 := by
  unfold rightE
  rw [if_pos h]
theorem open_bad (w : World) (d g m n : Nat) (fs : Bool) (fuse : Int) (lv : Value) (stale head sure : Int) (safe : List (List UInt8)) (k : Nat) (mf : Int → Option Value) (wr : Nat → List (List UInt8))
    (h : DevS w d g m n fs fuse lv stale head sure safe k mf wr) (h0 : 0 < n) (hn : n ≤ 1024) (hw : (wr 0).length ≤ 1000000) (hfu : fs = true → 0 < fuse ∧ fuse ≤ 9223372036854775807) (hbad : ∀ x u, metaG (pgOf safe wr 0) = some (x, u) → rightP (pgOf safe wr 0) 0 = true → (n : Int) < x.p) :
    Calls Tryz.prog 26 #[.pointer (some ⟨d, 0, none⟩)] w (OpenNo w d 14) := by
  have HRD := hide (show Calls Tryz.prog 72 #[.pointer (some ⟨d, 0, none⟩), .int .i64 0] w _ from devRead_any w d g m n fs fuse lv stale head sure safe k mf wr 0 h h0 hn hw hfu)
  have hl := pgOf_length h h0
  have HS := hide h
  have hd := h.lt d (.inl rfl)
  generalize pgOf safe wr 0 = bs at *
  have HCH := hide (fun W => pCheck_any bs hl 0 W)
  have HMG := hide (fun W => metaGet_any bs hl W)
  clear h hfu
  have HBAD := hide hbad
  clear hbad
  have HPX := hide (pg_size bs hl)
  have HPI := hide (show (Tryz.prog.info? 63).map (·.size) = some ((bs.map byteV).toArray).size by rw [HPX.out]; exact info_pg)
  have HPZ := hide (show Tryz.zeroCells63.size = ((bs.map byteV).toArray).size by rw [HPX.out]; exact zeros_page)
  have HP1 := hide (row_one bs)
  unfold pgV at *
  generalize hX : (bs.map byteV).toArray = X at *
  clear hX hl
  go_enter Tryz.func26, Tryz.ntmps26
  go_upto_region 3 with (fail)
  go_wp2_with fail
  refine HRD.out.mono ?_
  rintro e W1 ⟨rfl, hs1, ht1⟩
  have HS1 := hide hs1
  have HT1 := hide ht1
  have hz1 := ht1.size
  clear hs1 ht1
  go_upto_region 4 with (refine wpList_store_row rfl 63 (.tmp 4) (.tmp 17) rfl W1.heap.size X rfl rfl 63 _ (Blk.new W1 _ _) HPI.out HPZ.out HP1.out ?_)
  refine nameW (w := World.setRow _ W1.heap.size X) (R := fun W => Code.wp _ _ _ _ W) (fun W2 hW2 => ?_)
  have kp2 : Blk W2 W1.heap.size 63 X := by
    rw [hW2]
    exact setRow_heap _ W1.heap.size _ _ _ _ (Blk.new W1 _ _)
  have hb2 : Below W1.heap.size W1 W2 := by
    rw [hW2]
    exact (touch_setRow _ W1.heap.size X).below ((Below.refl W1.heap.size W1).alloc (Nat.le_refl _) _) (Nat.le_refl _)
  obtain ⟨gp, hgp⟩ : ∃ g, g = W1.heap.size := ⟨_, rfl⟩
  rw [← hgp] at kp2
  rw [← hgp]
  have KP2 := hide kp2
  have HB2 := hide hb2
  have hz2 := hb2.size
  clear hW2 kp2 hb2 hgp
  go_wp2_with (refine wpList_load_row rfl 63 (.tmp 4) rfl gp rfl 63 X (0, 0) _ KP2.out Tryz.underlying63 rfl HPI.out ?_)
  refine (HMG.out _).mono ?_
  rintro e W3 ⟨hcase, hb3⟩
  rcases hcase with ⟨hno, rfl⟩ | ⟨x, u, hyes, rfl⟩
  · clear hno
    unfold confV
    dsimp only
    go_upto_region 7 with (fail)
    refine gen1 (R := fun W => Code.wp _ _ _ _ W) (fun W4 kC hb4 hz4 => ?_)
    obtain ⟨gc, hgc⟩ : ∃ g, g = W3.heap.size := ⟨_, rfl⟩
    rw [← hgc] at kC
    rw [← hgc]
    have h34 : Below W2.heap.size W2 W4 := hb3.trans (hb4.mono hb3.size)
    have h14 : Below W1.heap.size W1 W4 := HB2.out.trans (h34.mono hz2)
    have KC := hide kC
    have KP := hide (Blk.via h34 KP2.out)
    have HS4 := hide (HS1.out.via h14)
    have HT4 := hide (HT1.out.trans (Turn.of_below h14))
    have HPG := hide (fun W (hb : Below W4.heap.size W4 W) => (show Calls Tryz.prog 75 #[.pointer (some ⟨d, 0, none⟩)] W (fun e w' => e = .returned (.int .i64 (n : Nat)) ∧ w' = W) by
      obtain ⟨o, kd⟩ := (HS4.out.via hb).kd
      exact devPagesF_any _ d _ n n _ _ _ _ _ _ _ W kd))
    clear kC h34 h14 hb3 hb4 hgc
    refine wp_region_inv [fun v _ => v = .int .i64 14, fun v _ => v = .bool true, fun v _ => v = .bool true, fun v _ => v = undef, fun v _ => v = undef, fun v _ => v = undef, fun v _ => v = .bool true, fun v _ => v = .bool true, fun v _ => v = undef, fun v _ => v = undef, fun v _ => v = undef, fun v _ => v = undef, fun v _ => v = undef, fun v _ => v = .bool true] (by kernel_rfl) (by kernel_rfl) (by kernel_rfl) ?st ?steps ?fin
    case st =>
      intro i v W W' hWW h
      match i with
      | 0 | 1 | 2 | 3 | 4 | 5 | 6 | 7 | 8 | 9 | 10 | 11 | 12 | 13 => exact h
      | (i + 14) => exact h
    case steps =>
      simp only [stepsI]
      refine ⟨?_, ?_, ?_, ?_, ?_, ?_, ?_, ?_, ?_, ?_, ?_, ?_, ?_, ?_, trivial⟩
      · intro f W hbW hdp
        simp only [fS, Nat.reduceAdd]
        go_wp2
        exact ⟨rfl, _, rfl, rfl, Below.refl _ _⟩
      · intro f W hbW hdp
        have e0 : f 0 = .int .i64 14 := hdp ⟨0, .data⟩ (mfl (by simp) rfl)
        simp only [fS, Nat.reduceAdd, e0]
        go_wp2
        exact ⟨rfl, _, rfl, rfl, Below.refl _ _⟩
      · intro f W hbW hdp
        have e1 : f 1 = .bool true := hdp ⟨1, .data⟩ (mfl (by simp) rfl)
        simp only [fS, Nat.reduceAdd, e1]
        go_wp2
        exact ⟨rfl, _, rfl, rfl, Below.refl _ _⟩
      · intro f W hbW hdp
        have e2 : f 2 = .bool true := hdp ⟨2, .guard⟩ (mfl (by simp) rfl)
        simp only [fS, Nat.reduceAdd, e2]
        go_wp2
        exact ⟨rfl, _, rfl, rfl, Below.refl _ _⟩
      · intro f W hbW hdp
        have e2 : f 2 = .bool true := hdp ⟨2, .guard⟩ (mfl (by simp) rfl)
        simp only [fS, Nat.reduceAdd, e2]
        go_wp2
        exact ⟨rfl, _, rfl, rfl, Below.refl _ _⟩
      · intro f W hbW hdp
        have e2 : f 2 = .bool true := hdp ⟨2, .guard⟩ (mfl (by simp) rfl)
        simp only [fS, Nat.reduceAdd, e2]
        go_wp2
        exact ⟨rfl, _, rfl, rfl, Below.refl _ _⟩
      · intro f W hbW hdp
        have e2 : f 2 = .bool true := hdp ⟨2, .data⟩ (mfl (by simp) rfl)
        have e5 : f 5 = undef := hdp ⟨5, .data⟩ (mfl (by simp) rfl)
        simp only [fS, Nat.reduceAdd, e2, e5]
        go_wp2
        exact ⟨rfl, _, rfl, rfl, Below.refl _ _⟩
      · intro f W hbW hdp
        have e6 : f 6 = .bool true := hdp ⟨6, .data⟩ (mfl (by simp) rfl)
        simp only [fS, Nat.reduceAdd, e6]
        go_wp2
        exact ⟨rfl, _, rfl, rfl, Below.refl _ _⟩
      · intro f W hbW hdp
        have e7 : f 7 = .bool true := hdp ⟨7, .guard⟩ (mfl (by simp) rfl)
        simp only [fS, Nat.reduceAdd, e7]
        go_wp2
        exact ⟨rfl, _, rfl, rfl, Below.refl _ _⟩
      · intro f W hbW hdp
        have e7 : f 7 = .bool true := hdp ⟨7, .guard⟩ (mfl (by simp) rfl)
        simp only [fS, Nat.reduceAdd, e7]
        go_wp2
        exact ⟨rfl, _, rfl, rfl, Below.refl _ _⟩
      · intro f W hbW hdp
        have e7 : f 7 = .bool true := hdp ⟨7, .guard⟩ (mfl (by simp) rfl)
        simp only [fS, Nat.reduceAdd, e7]
        go_wp2
        exact ⟨rfl, _, rfl, rfl, Below.refl _ _⟩
      · intro f W hbW hdp
        have e7 : f 7 = .bool true := hdp ⟨7, .guard⟩ (mfl (by simp) rfl)
        simp only [fS, Nat.reduceAdd, e7]
        go_wp2
        exact ⟨rfl, _, rfl, rfl, Below.refl _ _⟩
      · intro f W hbW hdp
        have e7 : f 7 = .bool true := hdp ⟨7, .guard⟩ (mfl (by simp) rfl)
        simp only [fS, Nat.reduceAdd, e7]
        go_wp2
        exact ⟨rfl, _, rfl, rfl, Below.refl _ _⟩
      · intro f W hbW hdp
        have e7 : f 7 = .bool true := hdp ⟨7, .data⟩ (mfl (by simp) rfl)
        have e12 : f 12 = undef := hdp ⟨12, .data⟩ (mfl (by simp) rfl)
        simp only [fS, Nat.reduceAdd, e7, e12]
        go_wp2
        exact ⟨rfl, _, rfl, rfl, Below.refl _ _⟩
    case fin =>
      intro f W hbW hA
      have e13 : f 13 = .bool true := hA 13 (by simp)
      show wpList Tryz.prog #[] (Exit.then _ _) [] _ _
      simp only [fS, Nat.reduceAdd, e13]
      clear hA e13
      have HT5 := hide (HT4.out.trans (Turn.of_below hbW))
      clear hbW
      go_wp2
      go_ret2
      exact ⟨rfl, HT5.out⟩
  · have HB := hide (HBAD.out x u hyes)
    clear hyes HBAD
    unfold confV
    go_upto_region 7 with (fail)
    refine gen1 (R := fun W => Code.wp _ _ _ _ W) (fun W4 kC hb4 hz4 => ?_)
    obtain ⟨gc, hgc⟩ : ∃ g, g = W3.heap.size := ⟨_, rfl⟩
    rw [← hgc] at kC
    rw [← hgc]
    have h34 : Below W2.heap.size W2 W4 := hb3.trans (hb4.mono hb3.size)
    have h14 : Below W1.heap.size W1 W4 := HB2.out.trans (h34.mono hz2)
    have KC := hide kC
    have KP := hide (Blk.via h34 KP2.out)
    have HS4 := hide (HS1.out.via h14)
    have HT4 := hide (HT1.out.trans (Turn.of_below h14))
    have HPG := hide (fun W (hb : Below W4.heap.size W4 W) => (show Calls Tryz.prog 75 #[.pointer (some ⟨d, 0, none⟩)] W (fun e w' => e = .returned (.int .i64 (n : Nat)) ∧ w' = W) by
      obtain ⟨o, kd⟩ := (HS4.out.via hb).kd
      exact devPagesF_any _ d _ n n _ _ _ _ _ _ _ W kd))
    clear kC h34 h14 hb3 hb4 hgc
    cases hr : rightP bs 0
    · have hre := rightE_no hr
      rw [hre] at HCH
      clear hre hr
      refine wp_region_inv [fun v _ => v = .int .i64 0, fun v _ => v = .bool false, fun v _ => v = .bool false, fun v _ => v = .agg X, fun v _ => v = .int .i64 14, fun v _ => v = .bool true, fun v _ => v = .bool true, fun v _ => v = .bool true, fun v _ => v = undef, fun v _ => v = undef, fun v _ => v = undef, fun v _ => v = undef, fun v _ => v = undef, fun v _ => v = .bool true] (by kernel_rfl) (by kernel_rfl) (by kernel_rfl) ?st ?steps ?fin
      case st =>
        intro i v W W' hWW h
        match i with
        | 0 | 1 | 2 | 3 | 4 | 5 | 6 | 7 | 8 | 9 | 10 | 11 | 12 | 13 => exact h
        | (i + 14) => exact h
      case steps =>
        simp only [stepsI]
        refine ⟨?_, ?_, ?_, ?_, ?_, ?_, ?_, ?_, ?_, ?_, ?_, ?_, ?_, ?_, trivial⟩
        · intro f W hbW hdp
          simp only [fS, Nat.reduceAdd]
          go_wp2
          exact ⟨rfl, _, rfl, rfl, Below.refl _ _⟩
        · intro f W hbW hdp
          have e0 : f 0 = .int .i64 0 := hdp ⟨0, .data⟩ (mfl (by simp) rfl)
          simp only [fS, Nat.reduceAdd, e0]
          go_wp2
          exact ⟨rfl, _, rfl, rfl, Below.refl _ _⟩
        · intro f W hbW hdp
          have e1 : f 1 = .bool false := hdp ⟨1, .data⟩ (mfl (by simp) rfl)
          simp only [fS, Nat.reduceAdd, e1]
          go_wp2
          exact ⟨rfl, _, rfl, rfl, Below.refl _ _⟩
        · intro f W hbW hdp
          have e2 : f 2 = .bool false := hdp ⟨2, .guard⟩ (mfl (by simp) rfl)
          have kB := hide (Blk.via hbW KP.out)
          simp only [fS, Nat.reduceAdd, e2]
          refine wpList_load_rowG (by simp [Region.wanted, yielded]) 63 (.tmp 4) rfl gp rfl 63 X (0, 0) _ kB.out Tryz.underlying63 rfl HPI.out ?_
          exact ⟨rfl, _, rfl, rfl, Below.refl _ _⟩
        · intro f W hbW hdp
          have e2 : f 2 = .bool false := hdp ⟨2, .guard⟩ (mfl (by simp) rfl)
          have e3 : f 3 = .agg X := hdp ⟨3, .data⟩ (mfl (by simp) rfl)
          simp only [fS, Nat.reduceAdd, e2, e3]
          go_wp2_with (go_at_call 74; refine (HCH.out _).mono ?_; rintro e w' ⟨rfl, hb'⟩)
          exact ⟨rfl, _, rfl, rfl, hb'⟩
        · intro f W hbW hdp
          have e2 : f 2 = .bool false := hdp ⟨2, .guard⟩ (mfl (by simp) rfl)
          have e4 : f 4 = .int .i64 14 := hdp ⟨4, .data⟩ (mfl (by simp) rfl)
          simp only [fS, Nat.reduceAdd, e2, e4]
          go_wp2
          exact ⟨rfl, _, rfl, rfl, Below.refl _ _⟩
        · intro f W hbW hdp
          have e2 : f 2 = .bool false := hdp ⟨2, .data⟩ (mfl (by simp) rfl)
          have e5 : f 5 = .bool true := hdp ⟨5, .data⟩ (mfl (by simp) rfl)
          simp only [fS, Nat.reduceAdd, e2, e5]
          go_wp2
          exact ⟨rfl, _, rfl, rfl, Below.refl _ _⟩
        · intro f W hbW hdp
          have e6 : f 6 = .bool true := hdp ⟨6, .data⟩ (mfl (by simp) rfl)
          simp only [fS, Nat.reduceAdd, e6]
          go_wp2
          exact ⟨rfl, _, rfl, rfl, Below.refl _ _⟩
        · intro f W hbW hdp
          have e7 : f 7 = .bool true := hdp ⟨7, .guard⟩ (mfl (by simp) rfl)
          simp only [fS, Nat.reduceAdd, e7]
          go_wp2
          exact ⟨rfl, _, rfl, rfl, Below.refl _ _⟩
        · intro f W hbW hdp
          have e7 : f 7 = .bool true := hdp ⟨7, .guard⟩ (mfl (by simp) rfl)
          simp only [fS, Nat.reduceAdd, e7]
          go_wp2
          exact ⟨rfl, _, rfl, rfl, Below.refl _ _⟩
        · intro f W hbW hdp
          have e7 : f 7 = .bool true := hdp ⟨7, .guard⟩ (mfl (by simp) rfl)
          simp only [fS, Nat.reduceAdd, e7]
          go_wp2
          exact ⟨rfl, _, rfl, rfl, Below.refl _ _⟩
        · intro f W hbW hdp
          have e7 : f 7 = .bool true := hdp ⟨7, .guard⟩ (mfl (by simp) rfl)
          simp only [fS, Nat.reduceAdd, e7]
          go_wp2
          exact ⟨rfl, _, rfl, rfl, Below.refl _ _⟩
        · intro f W hbW hdp
          have e7 : f 7 = .bool true := hdp ⟨7, .guard⟩ (mfl (by simp) rfl)
          simp only [fS, Nat.reduceAdd, e7]
          go_wp2
          exact ⟨rfl, _, rfl, rfl, Below.refl _ _⟩
        · intro f W hbW hdp
          have e7 : f 7 = .bool true := hdp ⟨7, .data⟩ (mfl (by simp) rfl)
          have e12 : f 12 = undef := hdp ⟨12, .data⟩ (mfl (by simp) rfl)
          simp only [fS, Nat.reduceAdd, e7, e12]
          go_wp2
          exact ⟨rfl, _, rfl, rfl, Below.refl _ _⟩
      case fin =>
        intro f W hbW hA
        have e13 : f 13 = .bool true := hA 13 (by simp)
        show wpList Tryz.prog #[] (Exit.then _ _) [] _ _
        simp only [fS, Nat.reduceAdd, e13]
        clear hA e13
        have HT5 := hide (HT4.out.trans (Turn.of_below hbW))
        clear hbW
        go_wp2
        go_ret2
        exact ⟨rfl, HT5.out⟩
    · have hre := rightE_yes hr
      rw [hre] at HCH
      have hlt := HB.out hr
      obtain ⟨lt, hlt2⟩ : ∃ b, decide ((n : Int) < x.p) = b := ⟨_, rfl⟩
      have HLT := hide (show lt = true by rw [← hlt2]; exact decide_eq_true hlt)
      clear hre hr hlt
      refine wp_region_inv [fun v _ => v = .int .i64 0, fun v _ => v = .bool false, fun v _ => v = .bool false, fun v _ => v = .agg X, fun v _ => v = .int .i64 0, fun v _ => v = .bool false, fun v _ => v = .bool false, fun v _ => v = .bool false, fun v _ => v = .pointer (some ⟨d, 0, none⟩), fun v _ => v = .int .i64 (n : Nat), fun v _ => v = .pointer (some ⟨gc, 1, none⟩), fun v _ => v = .int .i64 x.p, fun v _ => v = .bool lt, fun v _ => v = .bool lt] (by kernel_rfl) (by kernel_rfl) (by kernel_rfl) ?st ?steps ?fin
      case st =>
        intro i v W W' hWW h
        match i with
        | 0 | 1 | 2 | 3 | 4 | 5 | 6 | 7 | 8 | 9 | 10 | 11 | 12 | 13 => exact h
        | (i + 14) => exact h
      case steps =>
        simp only [stepsI]
        refine ⟨?_, ?_, ?_, ?_, ?_, ?_, ?_, ?_, ?_, ?_, ?_, ?_, ?_, ?_, trivial⟩
        · intro f W hbW hdp
          simp only [fS, Nat.reduceAdd]
          go_wp2
          exact ⟨rfl, _, rfl, rfl, Below.refl _ _⟩
        · intro f W hbW hdp
          have e0 : f 0 = .int .i64 0 := hdp ⟨0, .data⟩ (mfl (by simp) rfl)
          simp only [fS, Nat.reduceAdd, e0]
          go_wp2
          exact ⟨rfl, _, rfl, rfl, Below.refl _ _⟩
        · intro f W hbW hdp
          have e1 : f 1 = .bool false := hdp ⟨1, .data⟩ (mfl (by simp) rfl)
          simp only [fS, Nat.reduceAdd, e1]
          go_wp2
          exact ⟨rfl, _, rfl, rfl, Below.refl _ _⟩
        · intro f W hbW hdp
          have e2 : f 2 = .bool false := hdp ⟨2, .guard⟩ (mfl (by simp) rfl)
          have kB := hide (Blk.via hbW KP.out)
          simp only [fS, Nat.reduceAdd, e2]
          refine wpList_load_rowG (by simp [Region.wanted, yielded]) 63 (.tmp 4) rfl gp rfl 63 X (0, 0) _ kB.out Tryz.underlying63 rfl HPI.out ?_
          exact ⟨rfl, _, rfl, rfl, Below.refl _ _⟩
        · intro f W hbW hdp
          have e2 : f 2 = .bool false := hdp ⟨2, .guard⟩ (mfl (by simp) rfl)
          have e3 : f 3 = .agg X := hdp ⟨3, .data⟩ (mfl (by simp) rfl)
          simp only [fS, Nat.reduceAdd, e2, e3]
          go_wp2_with (go_at_call 74; refine (HCH.out _).mono ?_; rintro e w' ⟨rfl, hb'⟩)
          exact ⟨rfl, _, rfl, rfl, hb'⟩
        · intro f W hbW hdp
          have e2 : f 2 = .bool false := hdp ⟨2, .guard⟩ (mfl (by simp) rfl)
          have e4 : f 4 = .int .i64 0 := hdp ⟨4, .data⟩ (mfl (by simp) rfl)
          simp only [fS, Nat.reduceAdd, e2, e4]
          go_wp2
          exact ⟨rfl, _, rfl, rfl, Below.refl _ _⟩
        · intro f W hbW hdp
          have e2 : f 2 = .bool false := hdp ⟨2, .data⟩ (mfl (by simp) rfl)
          have e5 : f 5 = .bool false := hdp ⟨5, .data⟩ (mfl (by simp) rfl)
          simp only [fS, Nat.reduceAdd, e2, e5]
          go_wp2
          exact ⟨rfl, _, rfl, rfl, Below.refl _ _⟩
        · intro f W hbW hdp
          have e6 : f 6 = .bool false := hdp ⟨6, .data⟩ (mfl (by simp) rfl)
          simp only [fS, Nat.reduceAdd, e6]
          go_wp2
          exact ⟨rfl, _, rfl, rfl, Below.refl _ _⟩
        · intro f W hbW hdp
          have e7 : f 7 = .bool false := hdp ⟨7, .guard⟩ (mfl (by simp) rfl)
          simp only [fS, Nat.reduceAdd, e7]
          go_wp2
          exact ⟨rfl, _, rfl, rfl, Below.refl _ _⟩
        · intro f W hbW hdp
          have e7 : f 7 = .bool false := hdp ⟨7, .guard⟩ (mfl (by simp) rfl)
          have e8 : f 8 = .pointer (some ⟨d, 0, none⟩) := hdp ⟨8, .data⟩ (mfl (by simp) rfl)
          simp only [fS, Nat.reduceAdd, e7, e8]
          go_wp2_with (go_at_call 75; refine (HPG.out _ hbW).mono ?_; rintro e w' ⟨rfl, hw'⟩; obtain rfl := hw'.symm)
          exact ⟨rfl, _, rfl, rfl, Below.refl _ _⟩
        · intro f W hbW hdp
          have e7 : f 7 = .bool false := hdp ⟨7, .guard⟩ (mfl (by simp) rfl)
          simp only [fS, Nat.reduceAdd, e7]
          go_wp2
          exact ⟨rfl, _, rfl, rfl, Below.refl _ _⟩
        · intro f W hbW hdp
          have e7 : f 7 = .bool false := hdp ⟨7, .guard⟩ (mfl (by simp) rfl)
          have e10 : f 10 = .pointer (some ⟨gc, 1, none⟩) := hdp ⟨10, .data⟩ (mfl (by simp) rfl)
          have z1 := (Blk.via hbW KC.out).cell 1
          simp only [fS, Nat.reduceAdd, e7, e10]
          go_wp2
          exact ⟨rfl, _, rfl, rfl, Below.refl _ _⟩
        · intro f W hbW hdp
          have e7 : f 7 = .bool false := hdp ⟨7, .guard⟩ (mfl (by simp) rfl)
          have e9 : f 9 = .int .i64 (n : Nat) := hdp ⟨9, .data⟩ (mfl (by simp) rfl)
          have e11 : f 11 = .int .i64 x.p := hdp ⟨11, .data⟩ (mfl (by simp) rfl)
          simp only [fS, Nat.reduceAdd, e7, e9, e11]
          go_wp2
          exact ⟨rfl, _, rfl, rfl, Below.refl _ _⟩
        · intro f W hbW hdp
          have e7 : f 7 = .bool false := hdp ⟨7, .data⟩ (mfl (by simp) rfl)
          have e12 : f 12 = .bool lt := hdp ⟨12, .data⟩ (mfl (by simp) rfl)
          simp only [fS, Nat.reduceAdd, e7, e12]
          go_wp2
          exact ⟨rfl, _, rfl, rfl, Below.refl _ _⟩
      case fin =>
        intro f W hbW hA
        have e13 : f 13 = .bool lt := hA 13 (by simp)
        show wpList Tryz.prog #[] (Exit.then _ _) [] _ _
        simp only [fS, Nat.reduceAdd, e13]
        clear hA e13
        obtain rfl := HLT.out
        clear hlt2
        have HT5 := hide (HT4.out.trans (Turn.of_below hbW))
        clear hbW
        go_wp2
        go_ret2
        exact ⟨rfl, HT5.out⟩
end Go.Proofs.YtnanlaefehaifaaGreat
