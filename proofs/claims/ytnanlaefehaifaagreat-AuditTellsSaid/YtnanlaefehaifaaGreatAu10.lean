/-
  Texts of this claim, joined: KX.
-/
import Derived.Test.YtnanlaefehaifaaGreatAu09
set_option maxHeartbeats 6400000
set_option maxRecDepth 100000
namespace Go.Proofs.YtnanlaefehaifaaGreat
open Go.RowKit
theorem Turn.below {B r : Nat} {w W W' : World} (ht : Turn (fun q => q = r) W W') (hb : Below B w W) (hr : B ≤ r) (hl : r < W.heap.size) : Below B w W' :=
  ⟨ht.os.trans hb.os, ht.tape.trans hb.tape, ht.output.trans hb.output, Nat.le_trans hb.size ht.size, fun k hk => (ht.block k (by omega) (by omega)).trans (hb.block k hk)⟩
structure RdS (W : World) (r g o n : Nat) (bs : List UInt8) : Prop where
  k : Blk W r 281 #[.slice (some ⟨g, o, none⟩) n n, .bool false]
  len : bs.length = n
  rd : Reads W r 1 (some ⟨g, o, none⟩) n (bs.map byteV)
theorem RdS.step {W : World} {r g o n : Nat} {bs : List UInt8} (h : RdS W r g o n bs) (h8 : n ≤ 8) (width : Nat) (h1 : 1 ≤ width) (hw : width < n) :
    Calls Tryz.prog 137 #[.pointer (some ⟨r, 0, none⟩), .int .i64 (width : Nat)] W fun e w' => e = .returned (.int .i64 (numI (cutB bs 0 width))) ∧ RdS w' r g (o + width) (n - width) (bs.drop width) ∧ Turn (fun q => q = r) W w' := by
  refine (beNum_any r g o n width bs W h.k h.len h8 h1 (by omega) h.rd).mono ?_
  rintro e w' ⟨rfl, A', k', hA, ht⟩
  obtain rfl := hA hw
  refine ⟨rfl, ⟨k', by rw [List.length_drop, h.len], ?_⟩, ht⟩
  have h2 := h.rd.cut (k := width) (cap := n) (by omega) (Nat.le_refl _)
  rw [if_neg (by omega), Option.map_some, add_plain, Nat.mul_one, ← List.map_drop] at h2
  have hl := h.k.lt
  exact h2.keep (fun p hp => World.cell?_of_block (ht.block p.block (by omega) (by omega)))
theorem RdS.last {W : World} {r g o n : Nat} {bs : List UInt8} (h : RdS W r g o n bs) (h8 : n ≤ 8) (h1 : 1 ≤ n) :
    Calls Tryz.prog 137 #[.pointer (some ⟨r, 0, none⟩), .int .i64 (n : Nat)] W fun e w' => e = .returned (.int .i64 (numI (cutB bs 0 n))) ∧ Turn (fun q => q = r) W w' := by
  refine (beNum_any r g o n n bs W h.k h.len h8 h1 (Nat.le_refl _) h.rd).mono ?_
  rintro e w' ⟨rfl, A', k', _, ht⟩
  exact ⟨rfl, ht⟩
def MetaE (w : World) (o : Option (ConfD × Int)) (e : Ending) (w' : World) : Prop :=
  ((o = none ∧ e = .returned (.tuple #[confV ⟨0, 0, 0, 0, 0⟩, .int .i64 0, .int .i64 14])) ∨ (∃ x u, o = some (x, u) ∧ e = .returned (.tuple #[confV x, .int .i64 u, .int .i64 0]))) ∧ Below w.heap.size w w'
theorem metaGet_any (bs : List UInt8) (hl : bs.length = 512) (w : World) : Calls Tryz.prog 73 #[pgV bs] w (MetaE w (metaG bs)) := by
  have HNT := hide (fun W => pNote_any bs hl W)
  have HNO := hide (fun W => pNo_any bs hl W)
  have HNX := hide (fun W => pNext_any bs hl W)
  have HPT := hide (fun (x : Int) W => put_gives 8 x W (by omega) (by omega))
  have hcl : (cutB bs 16 8).length = 8 := by unfold cutB; rw [List.length_take, List.length_drop]; omega
  have HBB := hide (beB_numI (cutB bs 16 8) hcl)
  have HII := hide (show (Tryz.prog.info? 63).map (·.size) = some ((bs.map byteV).toArray).size by rw [pg_size bs hl]; exact info_pg)
  obtain ⟨x16, hx⟩ : ∃ x, bs[16]? = some x := ⟨_, List.getElem?_eq_getElem (by omega)⟩
  have hx1 := numI_one bs 16 x16 hx
  have HG := hide (show metaG bs = (if numI (cutB bs 12 2) = 0 ∧ numI (cutB bs 16 1) = 0 ∧ confOk ⟨numI (cutB bs 17 1), numI (cutB bs 18 2), numI (cutB bs 20 1), numI (cutB bs 21 1), numI (cutB bs 22 2)⟩ = true ∧ numI (cutB bs 17 1) < numI (cutB bs 14 2) ∧ numI (cutB bs 14 2) ≤ numI (cutB bs 18 2) then some (⟨numI (cutB bs 17 1), numI (cutB bs 18 2), numI (cutB bs 20 1), numI (cutB bs 21 1), numI (cutB bs 22 2)⟩, numI (cutB bs 14 2)) else none) by
    unfold metaG confB
    rw [show bs.getD 16 0 = x16 by rw [List.getD_eq_getElem?_getD, hx]; rfl, hx1]
    congr 2
    rw [eq_iff_iff]
    constructor
    · rintro ⟨q2, q3⟩; exact ⟨by rw [q2]; rfl, q3⟩
    · rintro ⟨q2, q3⟩; exact ⟨by simpa using q2, q3⟩)
  have HCL := hide hcl
  unfold pgV at *
  generalize hX : (bs.map byteV).toArray = X at *
  clear hX hl hx hx1 hcl
  go_enter Tryz.func73, Tryz.ntmps73
  go_upto_region 1 with (fail)
  refine gen2 (R := fun W => Code.wp _ _ _ _ W) (fun W1 kB kR hb1 hz1 => ?_)
  have HKB1 := hide kB
  have HKR1 := hide kR
  have HB1 := hide hb1
  clear kB kR hb1
  go_wp2_with (refine wpList_load_row rfl 63 (.tmp 1) rfl w.heap.size rfl 63 X (0, 0) _ HKB1.out Tryz.underlying63 rfl HII.out ?_)
  refine (HNT.out _).mono ?_
  rintro e W2 ⟨rfl, hb2⟩
  go_wp2_with fail
  refine (HPT.out _ _).mono ?_
  rintro e W3 ⟨A3, c3, rfl, hn3, ho3, hr3, hb3⟩
  rw [HBB.out] at hr3
  have HRE := hide (beRead_any A3 c3 (cutB bs 16 8) W3.heap.size W3 (Nat.le_refl _) HCL.out hr3)
  have HL3 := hide (HB1.out.trans ((hb2.trans (hb3.mono hb2.size)).mono HB1.out.size))
  have HKB3 := hide (Blk.via hb3 (Blk.via hb2 HKB1.out))
  have HKR3 := hide (Blk.via hb3 (Blk.via hb2 HKR1.out))
  clear hn3 ho3 hr3 hb3 hb2
  have hmf : ∀ (fn : Fn) (first cap : Array Value) (w : World), (Instr.makeFunc fn first cap).run Tryz.prog w = .ok (.func fn first cap) w := fun _ _ _ _ => rfl
  go_wp2_with fail
  refine HRE.out.mono ?_
  rintro e W4 ⟨r, g, rfl, kr, hrd, hr4, hb4⟩
  have hlr := kr.lt
  have hrw : w.heap.size + 1 < r := by have := HKR3.out.lt; omega
  have HL4 := hide (HL3.out.trans (hb4.mono HL3.out.size))
  have HKB4 := hide (Blk.via hb4 HKB3.out)
  have HKR4 := hide (Blk.via hb4 HKR3.out)
  obtain ⟨L0, hL0⟩ : ∃ L, L = (cutB bs 16 8).drop 0 := ⟨_, rfl⟩
  have HLL0 := hide hL0
  rw [List.drop_zero] at hL0
  have hst : RdS W4 r g 0 8 L0 := hL0 ▸ ⟨kr, HCL.out, hrd⟩
  clear kr hrd hb4 hL0
  obtain ⟨z, hz⟩ : ∃ x, x = numI (cutB L0 0 1) := ⟨_, rfl⟩
  have HV0 := hide (show z = numI (cutB bs (16 + 0) 1) by rw [hz, HLL0.out, cutB_cutB bs 16 8 0 1 (by omega)])
  have hS := hst.step (by omega) 1 (by omega) (by omega)
  obtain ⟨L1, hL1⟩ : ∃ L, L = L0.drop 1 := ⟨_, rfl⟩
  have HLL1 := hide (show L1 = (cutB bs 16 8).drop 1 by rw [hL1, HLL0.out, List.drop_drop])
  rw [← hz, ← hL1] at hS
  have HS := hide hS
  clear hst hS hz hL1
  go_wp2_with fail
  refine HS.out.mono ?_
  rintro e W5 ⟨rfl, hst1, ht⟩
  have HL5 := hide (ht.below HL4.out (by omega) hlr)
  have HKB5 := hide (show Blk W5 w.heap.size 63 X from (ht.block _ HKB4.out.lt (by omega)).trans HKB4.out)
  have HKR5 := hide (show Blk W5 (w.heap.size + 1) 56 _ from (ht.block _ HKR4.out.lt (by omega)).trans HKR4.out)
  have hlr := Nat.lt_of_lt_of_le hlr ht.size
  clear ht HS
  obtain ⟨v1, hv1⟩ : ∃ x, x = numI (cutB L1 0 1) := ⟨_, rfl⟩
  have HV1 := hide (show v1 = numI (cutB bs (16 + 1) 1) by rw [hv1, HLL1.out, cutB_cutB bs 16 8 1 1 (by omega)])
  have hS := hst1.step (by omega) 1 (by omega) (by omega)
  obtain ⟨L2, hL2⟩ : ∃ L, L = L1.drop 1 := ⟨_, rfl⟩
  have HLL2 := hide (show L2 = (cutB bs 16 8).drop 2 by rw [hL2, HLL1.out, List.drop_drop])
  rw [← hv1, ← hL2] at hS
  have HS := hide hS
  clear hst1 hS hv1 hL2
  go_wp2_with fail
  refine HS.out.mono ?_
  rintro e W6 ⟨rfl, hst2, ht⟩
  have HL6 := hide (ht.below HL5.out (by omega) hlr)
  have HKB6 := hide (show Blk W6 w.heap.size 63 X from (ht.block _ HKB5.out.lt (by omega)).trans HKB5.out)
  have HKR6 := hide (show Blk W6 (w.heap.size + 1) 56 _ from (ht.block _ HKR5.out.lt (by omega)).trans HKR5.out)
  have hlr := Nat.lt_of_lt_of_le hlr ht.size
  clear ht HS
  obtain ⟨v2, hv2⟩ : ∃ x, x = numI (cutB L2 0 2) := ⟨_, rfl⟩
  have HV2 := hide (show v2 = numI (cutB bs (16 + 2) 2) by rw [hv2, HLL2.out, cutB_cutB bs 16 8 2 2 (by omega)])
  have hS := hst2.step (by omega) 2 (by omega) (by omega)
  obtain ⟨L3, hL3⟩ : ∃ L, L = L2.drop 2 := ⟨_, rfl⟩
  have HLL3 := hide (show L3 = (cutB bs 16 8).drop 4 by rw [hL3, HLL2.out, List.drop_drop])
  rw [← hv2, ← hL3] at hS
  have HS := hide hS
  clear hst2 hS hv2 hL3
  go_wp2_with fail
  refine HS.out.mono ?_
  rintro e W7 ⟨rfl, hst3, ht⟩
  have HL7 := hide (ht.below HL6.out (by omega) hlr)
  have HKB7 := hide (show Blk W7 w.heap.size 63 X from (ht.block _ HKB6.out.lt (by omega)).trans HKB6.out)
  have HKR7 := hide (show Blk W7 (w.heap.size + 1) 56 _ from (ht.block _ HKR6.out.lt (by omega)).trans HKR6.out)
  have hlr := Nat.lt_of_lt_of_le hlr ht.size
  clear ht HS
  obtain ⟨v3, hv3⟩ : ∃ x, x = numI (cutB L3 0 1) := ⟨_, rfl⟩
  have HV3 := hide (show v3 = numI (cutB bs (16 + 4) 1) by rw [hv3, HLL3.out, cutB_cutB bs 16 8 4 1 (by omega)])
  have hS := hst3.step (by omega) 1 (by omega) (by omega)
  obtain ⟨L4, hL4⟩ : ∃ L, L = L3.drop 1 := ⟨_, rfl⟩
  have HLL4 := hide (show L4 = (cutB bs 16 8).drop 5 by rw [hL4, HLL3.out, List.drop_drop])
  rw [← hv3, ← hL4] at hS
  have HS := hide hS
  clear hst3 hS hv3 hL4
  go_wp2_with fail
  refine HS.out.mono ?_
  rintro e W8 ⟨rfl, hst4, ht⟩
  have HL8 := hide (ht.below HL7.out (by omega) hlr)
  have HKB8 := hide (show Blk W8 w.heap.size 63 X from (ht.block _ HKB7.out.lt (by omega)).trans HKB7.out)
  have HKR8 := hide (show Blk W8 (w.heap.size + 1) 56 _ from (ht.block _ HKR7.out.lt (by omega)).trans HKR7.out)
  have hlr := Nat.lt_of_lt_of_le hlr ht.size
  clear ht HS
  obtain ⟨v4, hv4⟩ : ∃ x, x = numI (cutB L4 0 1) := ⟨_, rfl⟩
  have HV4 := hide (show v4 = numI (cutB bs (16 + 5) 1) by rw [hv4, HLL4.out, cutB_cutB bs 16 8 5 1 (by omega)])
  have hS := hst4.step (by omega) 1 (by omega) (by omega)
  obtain ⟨L5, hL5⟩ : ∃ L, L = L4.drop 1 := ⟨_, rfl⟩
  have HLL5 := hide (show L5 = (cutB bs 16 8).drop 6 by rw [hL5, HLL4.out, List.drop_drop])
  rw [← hv4, ← hL5] at hS
  have HS := hide hS
  clear hst4 hS hv4 hL5
  go_wp2_with fail
  refine HS.out.mono ?_
  rintro e W9 ⟨rfl, hst5, ht⟩
  have HL9 := hide (ht.below HL8.out (by omega) hlr)
  have HKB9 := hide (show Blk W9 w.heap.size 63 X from (ht.block _ HKB8.out.lt (by omega)).trans HKB8.out)
  have HKR9 := hide (show Blk W9 (w.heap.size + 1) 56 _ from (ht.block _ HKR8.out.lt (by omega)).trans HKR8.out)
  have hlr := Nat.lt_of_lt_of_le hlr ht.size
  clear ht HS
  obtain ⟨v5, hv5⟩ : ∃ x, x = numI (cutB L5 0 2) := ⟨_, rfl⟩
  have HV5 := hide (show v5 = numI (cutB bs (16 + 6) 2) by rw [hv5, HLL5.out, cutB_cutB bs 16 8 6 2 (by omega)])
  have hS := hst5.last (by omega) (by omega)
  rw [← hv5] at hS
  have HS := hide hS
  clear hst5 hS hv5
  go_wp2_with fail
  refine HS.out.mono ?_
  rintro e W10 ⟨rfl, ht⟩
  have HL10 := hide (ht.below HL9.out (by omega) hlr)
  have HKB10 := hide (show Blk W10 w.heap.size 63 X from (ht.block _ HKB9.out.lt (by omega)).trans HKB9.out)
  have HKR10 := hide (show Blk W10 (w.heap.size + 1) 56 _ from (ht.block _ HKR9.out.lt (by omega)).trans HKR9.out)
  have hlr := Nat.lt_of_lt_of_le hlr ht.size
  clear ht HS
  have hgg := HG.out
  rw [← HV0.out, ← HV1.out, ← HV2.out, ← HV3.out, ← HV4.out, ← HV5.out] at hgg
  have HGG := hide hgg
  clear hgg
  generalize numI (cutB bs 12 2) = no at *
  generalize numI (cutB bs 14 2) = u at *
  have HCK := hide (fun W => (show Calls Tryz.prog 138 #[.agg #[.int .i64 v1, .int .i64 v2, .int .i64 v3, .int .i64 v4, .int .i64 v5]] W (fun e w' => e = .returned (.int .i64 (confE ⟨v1, v2, v3, v4, v5⟩)) ∧ Below W.heap.size W w') from metaCheck_any ⟨v1, v2, v3, v4, v5⟩ W))
  have HWI := hide (fun W => metaWithin_any u (v1 + 1) v2 W)
  go_upto_region 4 with (fail)
  refine gen1 (R := fun W => Code.wp _ _ _ _ W) (fun W11 kC hb11 hz11 => ?_)
  obtain ⟨gc, hgc⟩ : ∃ g, g = W10.heap.size := ⟨_, rfl⟩
  rw [← hgc] at kC
  rw [← hgc]
  have HKC := hide kC
  have HL6 := hide (HL10.out.trans (hb11.mono HL10.out.size))
  have HKB := hide (Blk.via hb11 HKB10.out)
  have HKR6 := hide (Blk.via hb11 HKR10.out)
  clear kC hb11 hgc hlr hrw hmf
  cases bno : (no != 0)
  rotate_left
  · have HM := hide (show metaG bs = none by rw [HGG.out, if_neg]; rintro ⟨q1, q2, q3, q4, q5⟩; rw [q1] at bno; cases bno)
    refine wp_region_inv [fun v _ => v = .agg X, fun v _ => v = .int .i64 no, fun v _ => v = .bool true, fun v _ => v = .bool true, fun v _ => v = undef, fun v _ => v = undef, fun v _ => v = .bool true, fun v _ => v = .bool true, fun v _ => v = undef, fun v _ => v = undef, fun v _ => v = undef, fun v _ => v = .bool true, fun v _ => v = .bool true, fun v _ => v = undef, fun v _ => v = undef, fun v _ => v = undef, fun v _ => v = undef, fun v _ => v = undef, fun v _ => v = undef, fun v _ => v = undef, fun v _ => v = undef, fun v _ => v = undef, fun v _ => v = .bool true] (by kernel_rfl) (by kernel_rfl) (by kernel_rfl) ?st ?steps ?fin
    case st =>
      intro i v W W' hWW h
      match i with
      | 0 | 1 | 2 | 3 | 4 | 5 | 6 | 7 | 8 | 9 | 10 | 11 | 12 | 13 | 14 | 15 | 16 | 17 | 18 | 19 | 20 | 21 | 22 => exact h
      | (i + 23) => exact h
    case steps =>
      simp only [stepsI]
      refine ⟨?_, ?_, ?_, ?_, ?_, ?_, ?_, ?_, ?_, ?_, ?_, ?_, ?_, ?_, ?_, ?_, ?_, ?_, ?_, ?_, ?_, ?_, ?_, trivial⟩
      · intro f W hbW hdp
        have kB := hide (Blk.via hbW HKB.out)
        simp only [fS, Nat.reduceAdd]
        go_wp2_with (refine wpList_load_row rfl 63 (.tmp 1) rfl w.heap.size rfl 63 X (0, 0) _ kB.out Tryz.underlying63 rfl HII.out ?_)
        exact ⟨rfl, _, rfl, rfl, Below.refl _ _⟩
      · intro f W hbW hdp
        have e0 : f 0 = .agg X := hdp ⟨0, .data⟩ (mfl (by simp) rfl)
        simp only [fS, Nat.reduceAdd, e0]
        go_wp2_with (go_at_call 91; refine (HNO.out _).mono ?_; rintro e w' ⟨rfl, hb'⟩)
        exact ⟨rfl, _, rfl, rfl, hb'⟩
      · intro f W hbW hdp
        have e1 : f 1 = .int .i64 no := hdp ⟨1, .data⟩ (mfl (by simp) rfl)
        simp only [fS, Nat.reduceAdd, e1]
        go_wp2
        exact ⟨rfl, _, rfl, rfl, Below.refl _ _⟩
      · intro f W hbW hdp
        have e2 : f 2 = .bool true := hdp ⟨2, .data⟩ (mfl (by simp) rfl)
        simp only [fS, Nat.reduceAdd, e2]
        go_wp2
        exact ⟨rfl, _, rfl, rfl, Below.refl _ _⟩
      · intro f W hbW hdp
        have e3 : f 3 = .bool true := hdp ⟨3, .guard⟩ (mfl (by simp) rfl)
        simp only [fS, Nat.reduceAdd, e3]
        go_wp2
        exact ⟨rfl, _, rfl, rfl, Below.refl _ _⟩
      · intro f W hbW hdp
        have e3 : f 3 = .bool true := hdp ⟨3, .guard⟩ (mfl (by simp) rfl)
        simp only [fS, Nat.reduceAdd, e3]
        go_wp2
        exact ⟨rfl, _, rfl, rfl, Below.refl _ _⟩
      · intro f W hbW hdp
        have e3 : f 3 = .bool true := hdp ⟨3, .data⟩ (mfl (by simp) rfl)
        have e5 : f 5 = undef := hdp ⟨5, .data⟩ (mfl (by simp) rfl)
        simp only [fS, Nat.reduceAdd, e3, e5]
        go_wp2
        exact ⟨rfl, _, rfl, rfl, Below.refl _ _⟩
      · intro f W hbW hdp
        have e6 : f 6 = .bool true := hdp ⟨6, .data⟩ (mfl (by simp) rfl)
        simp only [fS, Nat.reduceAdd, e6]
        go_wp2
        exact ⟨rfl, _, rfl, rfl, Below.refl _ _⟩
      · intro f W hbW hdp
        have e7 : f 7 = .bool true := hdp ⟨7, .guard⟩ (mfl (by simp) rfl)
        simp only [fS, Nat.reduceAdd, e7]
        go_wp2
        exact ⟨rfl, _, rfl, rfl, Below.refl _ _⟩
      · intro f W hbW hdp
        have e7 : f 7 = .bool true := hdp ⟨7, .guard⟩ (mfl (by simp) rfl)
        simp only [fS, Nat.reduceAdd, e7]
        go_wp2
        exact ⟨rfl, _, rfl, rfl, Below.refl _ _⟩
      · intro f W hbW hdp
        have e7 : f 7 = .bool true := hdp ⟨7, .guard⟩ (mfl (by simp) rfl)
        simp only [fS, Nat.reduceAdd, e7]
        go_wp2
        exact ⟨rfl, _, rfl, rfl, Below.refl _ _⟩
      · intro f W hbW hdp
        have e7 : f 7 = .bool true := hdp ⟨7, .data⟩ (mfl (by simp) rfl)
        have e10 : f 10 = undef := hdp ⟨10, .data⟩ (mfl (by simp) rfl)
        simp only [fS, Nat.reduceAdd, e7, e10]
        go_wp2
        exact ⟨rfl, _, rfl, rfl, Below.refl _ _⟩
      · intro f W hbW hdp
        have e11 : f 11 = .bool true := hdp ⟨11, .data⟩ (mfl (by simp) rfl)
        simp only [fS, Nat.reduceAdd, e11]
        go_wp2
        exact ⟨rfl, _, rfl, rfl, Below.refl _ _⟩
      · intro f W hbW hdp
        have e12 : f 12 = .bool true := hdp ⟨12, .guard⟩ (mfl (by simp) rfl)
        simp only [fS, Nat.reduceAdd, e12]
        go_wp2
        exact ⟨rfl, _, rfl, rfl, Below.refl _ _⟩
      · intro f W hbW hdp
        have e12 : f 12 = .bool true := hdp ⟨12, .guard⟩ (mfl (by simp) rfl)
        simp only [fS, Nat.reduceAdd, e12]
        go_wp2
        exact ⟨rfl, _, rfl, rfl, Below.refl _ _⟩
      · intro f W hbW hdp
        have e12 : f 12 = .bool true := hdp ⟨12, .guard⟩ (mfl (by simp) rfl)
        simp only [fS, Nat.reduceAdd, e12]
        go_wp2
        exact ⟨rfl, _, rfl, rfl, Below.refl _ _⟩
      · intro f W hbW hdp
        have e12 : f 12 = .bool true := hdp ⟨12, .guard⟩ (mfl (by simp) rfl)
        simp only [fS, Nat.reduceAdd, e12]
        go_wp2
        exact ⟨rfl, _, rfl, rfl, Below.refl _ _⟩
      · intro f W hbW hdp
        have e12 : f 12 = .bool true := hdp ⟨12, .guard⟩ (mfl (by simp) rfl)
        simp only [fS, Nat.reduceAdd, e12]
        go_wp2
        exact ⟨rfl, _, rfl, rfl, Below.refl _ _⟩
      · intro f W hbW hdp
        have e12 : f 12 = .bool true := hdp ⟨12, .guard⟩ (mfl (by simp) rfl)
        simp only [fS, Nat.reduceAdd, e12]
        go_wp2
        exact ⟨rfl, _, rfl, rfl, Below.refl _ _⟩
      · intro f W hbW hdp
        have e12 : f 12 = .bool true := hdp ⟨12, .guard⟩ (mfl (by simp) rfl)
        simp only [fS, Nat.reduceAdd, e12]
        go_wp2
        exact ⟨rfl, _, rfl, rfl, Below.refl _ _⟩
      · intro f W hbW hdp
        have e12 : f 12 = .bool true := hdp ⟨12, .guard⟩ (mfl (by simp) rfl)
        simp only [fS, Nat.reduceAdd, e12]
        go_wp2
        exact ⟨rfl, _, rfl, rfl, Below.refl _ _⟩
      · intro f W hbW hdp
        have e12 : f 12 = .bool true := hdp ⟨12, .guard⟩ (mfl (by simp) rfl)
        simp only [fS, Nat.reduceAdd, e12]
        go_wp2
        exact ⟨rfl, _, rfl, rfl, Below.refl _ _⟩
      · intro f W hbW hdp
        have e12 : f 12 = .bool true := hdp ⟨12, .data⟩ (mfl (by simp) rfl)
        have e21 : f 21 = undef := hdp ⟨21, .data⟩ (mfl (by simp) rfl)
        simp only [fS, Nat.reduceAdd, e12, e21]
        go_wp2
        exact ⟨rfl, _, rfl, rfl, Below.refl _ _⟩
    case fin =>
      intro f W hbW hA
      have e22 : f 22 = .bool true := hA 22 (by simp)
      show wpList Tryz.prog #[] (Exit.then _ _) [] _ _
      simp only [fS, Nat.reduceAdd, e22]
      clear hA e22
      have HKR7 := hide (Blk.via hbW HKR6.out)
      have HL7 := hide (HL6.out.trans (hbW.mono HL6.out.size))
      clear hbW
      have c20 := (HKR7.out).cell 0
      have c21 := (HKR7.out).cell 1
      have c22 := (HKR7.out).cell 2
      have c23 := (HKR7.out).cell 3
      have c24 := (HKR7.out).cell 4
      have f20 := (HKR7.out).frozen 0
      have f21 := (HKR7.out).frozen 1
      have f22 := (HKR7.out).frozen 2
      have f23 := (HKR7.out).frozen 3
      have f24 := (HKR7.out).frozen 4
      have l20 := (HKR7.out).lt
      go_wp2_with fail
      refine bodyPost_ret (results_row_2 Tryz.results73 _ _ (w.heap.size + 1) #[.int .i64 0, .int .i64 0, .int .i64 0, .int .i64 0, .int .i64 0] rfl (run_loadVar_row _ _ _ _ #[.int .i64 0, .int .i64 0, .int .i64 0, .int .i64 0, .int .i64 0] (0, 0) _ (((((Blk.set_ HKR7.out 0 _).set_ 1 _).set_ 2 _).set_ 3 _).set_ 4 _) Tryz.underlying56 rfl info_confK)) rfl ⟨.inl ⟨HM.out, rfl⟩, (((((Below.setCell HL7.out (p := ⟨w.heap.size + 1, 0, none⟩) (Nat.le_succ _) _).setCell (p := ⟨w.heap.size + 1, 1, none⟩) (Nat.le_succ _) _).setCell (p := ⟨w.heap.size + 1, 2, none⟩) (Nat.le_succ _) _).setCell (p := ⟨w.heap.size + 1, 3, none⟩) (Nat.le_succ _) _).setCell (p := ⟨w.heap.size + 1, 4, none⟩) (Nat.le_succ _) _)⟩
  cases bz : (z != 0)
  rotate_left
  · have HM := hide (show metaG bs = none by rw [HGG.out, if_neg]; rintro ⟨q1, q2, q3, q4, q5⟩; rw [q2] at bz; cases bz)
    refine wp_region_inv [fun v _ => v = .agg X, fun v _ => v = .int .i64 no, fun v _ => v = .bool false, fun v _ => v = .bool false, fun v _ => v = .int .i64 z, fun v _ => v = .bool true, fun v _ => v = .bool true, fun v _ => v = .bool true, fun v _ => v = undef, fun v _ => v = undef, fun v _ => v = undef, fun v _ => v = .bool true, fun v _ => v = .bool true, fun v _ => v = undef, fun v _ => v = undef, fun v _ => v = undef, fun v _ => v = undef, fun v _ => v = undef, fun v _ => v = undef, fun v _ => v = undef, fun v _ => v = undef, fun v _ => v = undef, fun v _ => v = .bool true] (by kernel_rfl) (by kernel_rfl) (by kernel_rfl) ?st ?steps ?fin
    case st =>
      intro i v W W' hWW h
      match i with
      | 0 | 1 | 2 | 3 | 4 | 5 | 6 | 7 | 8 | 9 | 10 | 11 | 12 | 13 | 14 | 15 | 16 | 17 | 18 | 19 | 20 | 21 | 22 => exact h
      | (i + 23) => exact h
    case steps =>
      simp only [stepsI]
      refine ⟨?_, ?_, ?_, ?_, ?_, ?_, ?_, ?_, ?_, ?_, ?_, ?_, ?_, ?_, ?_, ?_, ?_, ?_, ?_, ?_, ?_, ?_, ?_, trivial⟩
      · intro f W hbW hdp
        have kB := hide (Blk.via hbW HKB.out)
        simp only [fS, Nat.reduceAdd]
        go_wp2_with (refine wpList_load_row rfl 63 (.tmp 1) rfl w.heap.size rfl 63 X (0, 0) _ kB.out Tryz.underlying63 rfl HII.out ?_)
        exact ⟨rfl, _, rfl, rfl, Below.refl _ _⟩
      · intro f W hbW hdp
        have e0 : f 0 = .agg X := hdp ⟨0, .data⟩ (mfl (by simp) rfl)
        simp only [fS, Nat.reduceAdd, e0]
        go_wp2_with (go_at_call 91; refine (HNO.out _).mono ?_; rintro e w' ⟨rfl, hb'⟩)
        exact ⟨rfl, _, rfl, rfl, hb'⟩
      · intro f W hbW hdp
        have e1 : f 1 = .int .i64 no := hdp ⟨1, .data⟩ (mfl (by simp) rfl)
        simp only [fS, Nat.reduceAdd, e1]
        go_wp2
        exact ⟨rfl, _, rfl, rfl, Below.refl _ _⟩
      · intro f W hbW hdp
        have e2 : f 2 = .bool false := hdp ⟨2, .data⟩ (mfl (by simp) rfl)
        simp only [fS, Nat.reduceAdd, e2]
        go_wp2
        exact ⟨rfl, _, rfl, rfl, Below.refl _ _⟩
      · intro f W hbW hdp
        have e3 : f 3 = .bool false := hdp ⟨3, .guard⟩ (mfl (by simp) rfl)
        simp only [fS, Nat.reduceAdd, e3]
        go_wp2
        exact ⟨rfl, _, rfl, rfl, Below.refl _ _⟩
      · intro f W hbW hdp
        have e3 : f 3 = .bool false := hdp ⟨3, .guard⟩ (mfl (by simp) rfl)
        have e4 : f 4 = .int .i64 z := hdp ⟨4, .data⟩ (mfl (by simp) rfl)
        simp only [fS, Nat.reduceAdd, e3, e4]
        go_wp2
        exact ⟨rfl, _, rfl, rfl, Below.refl _ _⟩
      · intro f W hbW hdp
        have e3 : f 3 = .bool false := hdp ⟨3, .data⟩ (mfl (by simp) rfl)
        have e5 : f 5 = .bool true := hdp ⟨5, .data⟩ (mfl (by simp) rfl)
        simp only [fS, Nat.reduceAdd, e3, e5]
        go_wp2
        exact ⟨rfl, _, rfl, rfl, Below.refl _ _⟩
      · intro f W hbW hdp
        have e6 : f 6 = .bool true := hdp ⟨6, .data⟩ (mfl (by simp) rfl)
        simp only [fS, Nat.reduceAdd, e6]
        go_wp2
        exact ⟨rfl, _, rfl, rfl, Below.refl _ _⟩
      · intro f W hbW hdp
        have e7 : f 7 = .bool true := hdp ⟨7, .guard⟩ (mfl (by simp) rfl)
        simp only [fS, Nat.reduceAdd, e7]
        go_wp2
        exact ⟨rfl, _, rfl, rfl, Below.refl _ _⟩
      · intro f W hbW hdp
        have e7 : f 7 = .bool true := hdp ⟨7, .guard⟩ (mfl (by simp) rfl)
        simp only [fS, Nat.reduceAdd, e7]
        go_wp2
        exact ⟨rfl, _, rfl, rfl, Below.refl _ _⟩
      · intro f W hbW hdp
        have e7 : f 7 = .bool true := hdp ⟨7, .guard⟩ (mfl (by simp) rfl)
        simp only [fS, Nat.reduceAdd, e7]
        go_wp2
        exact ⟨rfl, _, rfl, rfl, Below.refl _ _⟩
      · intro f W hbW hdp
        have e7 : f 7 = .bool true := hdp ⟨7, .data⟩ (mfl (by simp) rfl)
        have e10 : f 10 = undef := hdp ⟨10, .data⟩ (mfl (by simp) rfl)
        simp only [fS, Nat.reduceAdd, e7, e10]
        go_wp2
        exact ⟨rfl, _, rfl, rfl, Below.refl _ _⟩
      · intro f W hbW hdp
        have e11 : f 11 = .bool true := hdp ⟨11, .data⟩ (mfl (by simp) rfl)
        simp only [fS, Nat.reduceAdd, e11]
        go_wp2
        exact ⟨rfl, _, rfl, rfl, Below.refl _ _⟩
      · intro f W hbW hdp
        have e12 : f 12 = .bool true := hdp ⟨12, .guard⟩ (mfl (by simp) rfl)
        simp only [fS, Nat.reduceAdd, e12]
        go_wp2
        exact ⟨rfl, _, rfl, rfl, Below.refl _ _⟩
      · intro f W hbW hdp
        have e12 : f 12 = .bool true := hdp ⟨12, .guard⟩ (mfl (by simp) rfl)
        simp only [fS, Nat.reduceAdd, e12]
        go_wp2
        exact ⟨rfl, _, rfl, rfl, Below.refl _ _⟩
      · intro f W hbW hdp
        have e12 : f 12 = .bool true := hdp ⟨12, .guard⟩ (mfl (by simp) rfl)
        simp only [fS, Nat.reduceAdd, e12]
        go_wp2
        exact ⟨rfl, _, rfl, rfl, Below.refl _ _⟩
      · intro f W hbW hdp
        have e12 : f 12 = .bool true := hdp ⟨12, .guard⟩ (mfl (by simp) rfl)
        simp only [fS, Nat.reduceAdd, e12]
        go_wp2
        exact ⟨rfl, _, rfl, rfl, Below.refl _ _⟩
      · intro f W hbW hdp
        have e12 : f 12 = .bool true := hdp ⟨12, .guard⟩ (mfl (by simp) rfl)
        simp only [fS, Nat.reduceAdd, e12]
        go_wp2
        exact ⟨rfl, _, rfl, rfl, Below.refl _ _⟩
      · intro f W hbW hdp
        have e12 : f 12 = .bool true := hdp ⟨12, .guard⟩ (mfl (by simp) rfl)
        simp only [fS, Nat.reduceAdd, e12]
        go_wp2
        exact ⟨rfl, _, rfl, rfl, Below.refl _ _⟩
      · intro f W hbW hdp
        have e12 : f 12 = .bool true := hdp ⟨12, .guard⟩ (mfl (by simp) rfl)
        simp only [fS, Nat.reduceAdd, e12]
        go_wp2
        exact ⟨rfl, _, rfl, rfl, Below.refl _ _⟩
      · intro f W hbW hdp
        have e12 : f 12 = .bool true := hdp ⟨12, .guard⟩ (mfl (by simp) rfl)
        simp only [fS, Nat.reduceAdd, e12]
        go_wp2
        exact ⟨rfl, _, rfl, rfl, Below.refl _ _⟩
      · intro f W hbW hdp
        have e12 : f 12 = .bool true := hdp ⟨12, .guard⟩ (mfl (by simp) rfl)
        simp only [fS, Nat.reduceAdd, e12]
        go_wp2
        exact ⟨rfl, _, rfl, rfl, Below.refl _ _⟩
      · intro f W hbW hdp
        have e12 : f 12 = .bool true := hdp ⟨12, .data⟩ (mfl (by simp) rfl)
        have e21 : f 21 = undef := hdp ⟨21, .data⟩ (mfl (by simp) rfl)
        simp only [fS, Nat.reduceAdd, e12, e21]
        go_wp2
        exact ⟨rfl, _, rfl, rfl, Below.refl _ _⟩
    case fin =>
      intro f W hbW hA
      have e22 : f 22 = .bool true := hA 22 (by simp)
      show wpList Tryz.prog #[] (Exit.then _ _) [] _ _
      simp only [fS, Nat.reduceAdd, e22]
      clear hA e22
      have HKR7 := hide (Blk.via hbW HKR6.out)
      have HL7 := hide (HL6.out.trans (hbW.mono HL6.out.size))
      clear hbW
      have c20 := (HKR7.out).cell 0
      have c21 := (HKR7.out).cell 1
      have c22 := (HKR7.out).cell 2
      have c23 := (HKR7.out).cell 3
      have c24 := (HKR7.out).cell 4
      have f20 := (HKR7.out).frozen 0
      have f21 := (HKR7.out).frozen 1
      have f22 := (HKR7.out).frozen 2
      have f23 := (HKR7.out).frozen 3
      have f24 := (HKR7.out).frozen 4
      have l20 := (HKR7.out).lt
      go_wp2_with fail
      refine bodyPost_ret (results_row_2 Tryz.results73 _ _ (w.heap.size + 1) #[.int .i64 0, .int .i64 0, .int .i64 0, .int .i64 0, .int .i64 0] rfl (run_loadVar_row _ _ _ _ #[.int .i64 0, .int .i64 0, .int .i64 0, .int .i64 0, .int .i64 0] (0, 0) _ (((((Blk.set_ HKR7.out 0 _).set_ 1 _).set_ 2 _).set_ 3 _).set_ 4 _) Tryz.underlying56 rfl info_confK)) rfl ⟨.inl ⟨HM.out, rfl⟩, (((((Below.setCell HL7.out (p := ⟨w.heap.size + 1, 0, none⟩) (Nat.le_succ _) _).setCell (p := ⟨w.heap.size + 1, 1, none⟩) (Nat.le_succ _) _).setCell (p := ⟨w.heap.size + 1, 2, none⟩) (Nat.le_succ _) _).setCell (p := ⟨w.heap.size + 1, 3, none⟩) (Nat.le_succ _) _).setCell (p := ⟨w.heap.size + 1, 4, none⟩) (Nat.le_succ _) _)⟩
  cases hok : confOk ⟨v1, v2, v3, v4, v5⟩
  · have HM := hide (show metaG bs = none by rw [HGG.out, if_neg]; rintro ⟨q1, q2, q3, q4, q5⟩; rw [hok] at q3; cases q3)
    rw [show confE ⟨v1, v2, v3, v4, v5⟩ = 1 by unfold confE; rw [hok]; rfl] at HCK
    clear hok
    refine wp_region_inv [fun v _ => v = .agg X, fun v _ => v = .int .i64 no, fun v _ => v = .bool false, fun v _ => v = .bool false, fun v _ => v = .int .i64 z, fun v _ => v = .bool false, fun v _ => v = .bool false, fun v _ => v = .bool false, fun v _ => v = .agg #[.int .i64 v1, .int .i64 v2, .int .i64 v3, .int .i64 v4, .int .i64 v5], fun v _ => v = .int .i64 1, fun v _ => v = .bool true, fun v _ => v = .bool true, fun v _ => v = .bool true, fun v _ => v = undef, fun v _ => v = undef, fun v _ => v = undef, fun v _ => v = undef, fun v _ => v = undef, fun v _ => v = undef, fun v _ => v = undef, fun v _ => v = undef, fun v _ => v = undef, fun v _ => v = .bool true] (by kernel_rfl) (by kernel_rfl) (by kernel_rfl) ?st ?steps ?fin
    case st =>
      intro i v W W' hWW h
      match i with
      | 0 | 1 | 2 | 3 | 4 | 5 | 6 | 7 | 8 | 9 | 10 | 11 | 12 | 13 | 14 | 15 | 16 | 17 | 18 | 19 | 20 | 21 | 22 => exact h
      | (i + 23) => exact h
    case steps =>
      simp only [stepsI]
      refine ⟨?_, ?_, ?_, ?_, ?_, ?_, ?_, ?_, ?_, ?_, ?_, ?_, ?_, ?_, ?_, ?_, ?_, ?_, ?_, ?_, ?_, ?_, ?_, trivial⟩
      · intro f W hbW hdp
        have kB := hide (Blk.via hbW HKB.out)
        simp only [fS, Nat.reduceAdd]
        go_wp2_with (refine wpList_load_row rfl 63 (.tmp 1) rfl w.heap.size rfl 63 X (0, 0) _ kB.out Tryz.underlying63 rfl HII.out ?_)
        exact ⟨rfl, _, rfl, rfl, Below.refl _ _⟩
      · intro f W hbW hdp
        have e0 : f 0 = .agg X := hdp ⟨0, .data⟩ (mfl (by simp) rfl)
        simp only [fS, Nat.reduceAdd, e0]
        go_wp2_with (go_at_call 91; refine (HNO.out _).mono ?_; rintro e w' ⟨rfl, hb'⟩)
        exact ⟨rfl, _, rfl, rfl, hb'⟩
      · intro f W hbW hdp
        have e1 : f 1 = .int .i64 no := hdp ⟨1, .data⟩ (mfl (by simp) rfl)
        simp only [fS, Nat.reduceAdd, e1]
        go_wp2
        exact ⟨rfl, _, rfl, rfl, Below.refl _ _⟩
      · intro f W hbW hdp
        have e2 : f 2 = .bool false := hdp ⟨2, .data⟩ (mfl (by simp) rfl)
        simp only [fS, Nat.reduceAdd, e2]
        go_wp2
        exact ⟨rfl, _, rfl, rfl, Below.refl _ _⟩
      · intro f W hbW hdp
        have e3 : f 3 = .bool false := hdp ⟨3, .guard⟩ (mfl (by simp) rfl)
        simp only [fS, Nat.reduceAdd, e3]
        go_wp2
        exact ⟨rfl, _, rfl, rfl, Below.refl _ _⟩
      · intro f W hbW hdp
        have e3 : f 3 = .bool false := hdp ⟨3, .guard⟩ (mfl (by simp) rfl)
        have e4 : f 4 = .int .i64 z := hdp ⟨4, .data⟩ (mfl (by simp) rfl)
        simp only [fS, Nat.reduceAdd, e3, e4]
        go_wp2
        exact ⟨rfl, _, rfl, rfl, Below.refl _ _⟩
      · intro f W hbW hdp
        have e3 : f 3 = .bool false := hdp ⟨3, .data⟩ (mfl (by simp) rfl)
        have e5 : f 5 = .bool false := hdp ⟨5, .data⟩ (mfl (by simp) rfl)
        simp only [fS, Nat.reduceAdd, e3, e5]
        go_wp2
        exact ⟨rfl, _, rfl, rfl, Below.refl _ _⟩
      · intro f W hbW hdp
        have e6 : f 6 = .bool false := hdp ⟨6, .data⟩ (mfl (by simp) rfl)
        simp only [fS, Nat.reduceAdd, e6]
        go_wp2
        exact ⟨rfl, _, rfl, rfl, Below.refl _ _⟩
      · intro f W hbW hdp
        have e7 : f 7 = .bool false := hdp ⟨7, .guard⟩ (mfl (by simp) rfl)
        have kc := Blk.via hbW HKC.out
        have z0 := kc.cell 0
        have z1 := kc.cell 1
        have z2 := kc.cell 2
        have z3 := kc.cell 3
        have z4 := kc.cell 4
        clear kc
        simp only [fS, Nat.reduceAdd, e7]
        go_wp2
        exact ⟨rfl, _, rfl, rfl, Below.refl _ _⟩
      · intro f W hbW hdp
        have e7 : f 7 = .bool false := hdp ⟨7, .guard⟩ (mfl (by simp) rfl)
        have e8 : f 8 = .agg #[.int .i64 v1, .int .i64 v2, .int .i64 v3, .int .i64 v4, .int .i64 v5] := hdp ⟨8, .data⟩ (mfl (by simp) rfl)
        simp only [fS, Nat.reduceAdd, e7, e8]
        go_wp2_with (go_at_call 138; refine (HCK.out _).mono ?_; rintro e w' ⟨rfl, hb'⟩)
        exact ⟨rfl, _, rfl, rfl, hb'⟩
      · intro f W hbW hdp
        have e7 : f 7 = .bool false := hdp ⟨7, .guard⟩ (mfl (by simp) rfl)
        have e9 : f 9 = .int .i64 1 := hdp ⟨9, .data⟩ (mfl (by simp) rfl)
        simp only [fS, Nat.reduceAdd, e7, e9]
        go_wp2
        exact ⟨rfl, _, rfl, rfl, Below.refl _ _⟩
      · intro f W hbW hdp
        have e7 : f 7 = .bool false := hdp ⟨7, .data⟩ (mfl (by simp) rfl)
        have e10 : f 10 = .bool true := hdp ⟨10, .data⟩ (mfl (by simp) rfl)
        simp only [fS, Nat.reduceAdd, e7, e10]
        go_wp2
        exact ⟨rfl, _, rfl, rfl, Below.refl _ _⟩
      · intro f W hbW hdp
        have e11 : f 11 = .bool true := hdp ⟨11, .data⟩ (mfl (by simp) rfl)
        simp only [fS, Nat.reduceAdd, e11]
        go_wp2
        exact ⟨rfl, _, rfl, rfl, Below.refl _ _⟩
      · intro f W hbW hdp
        have e12 : f 12 = .bool true := hdp ⟨12, .guard⟩ (mfl (by simp) rfl)
        simp only [fS, Nat.reduceAdd, e12]
        go_wp2
        exact ⟨rfl, _, rfl, rfl, Below.refl _ _⟩
      · intro f W hbW hdp
        have e12 : f 12 = .bool true := hdp ⟨12, .guard⟩ (mfl (by simp) rfl)
        simp only [fS, Nat.reduceAdd, e12]
        go_wp2
        exact ⟨rfl, _, rfl, rfl, Below.refl _ _⟩
      · intro f W hbW hdp
        have e12 : f 12 = .bool true := hdp ⟨12, .guard⟩ (mfl (by simp) rfl)
        simp only [fS, Nat.reduceAdd, e12]
        go_wp2
        exact ⟨rfl, _, rfl, rfl, Below.refl _ _⟩
      · intro f W hbW hdp
        have e12 : f 12 = .bool true := hdp ⟨12, .guard⟩ (mfl (by simp) rfl)
        simp only [fS, Nat.reduceAdd, e12]
        go_wp2
        exact ⟨rfl, _, rfl, rfl, Below.refl _ _⟩
      · intro f W hbW hdp
        have e12 : f 12 = .bool true := hdp ⟨12, .guard⟩ (mfl (by simp) rfl)
        simp only [fS, Nat.reduceAdd, e12]
        go_wp2
        exact ⟨rfl, _, rfl, rfl, Below.refl _ _⟩
      · intro f W hbW hdp
        have e12 : f 12 = .bool true := hdp ⟨12, .guard⟩ (mfl (by simp) rfl)
        simp only [fS, Nat.reduceAdd, e12]
        go_wp2
        exact ⟨rfl, _, rfl, rfl, Below.refl _ _⟩
      · intro f W hbW hdp
        have e12 : f 12 = .bool true := hdp ⟨12, .guard⟩ (mfl (by simp) rfl)
        simp only [fS, Nat.reduceAdd, e12]
        go_wp2
        exact ⟨rfl, _, rfl, rfl, Below.refl _ _⟩
      · intro f W hbW hdp
        have e12 : f 12 = .bool true := hdp ⟨12, .guard⟩ (mfl (by simp) rfl)
        simp only [fS, Nat.reduceAdd, e12]
        go_wp2
        exact ⟨rfl, _, rfl, rfl, Below.refl _ _⟩
      · intro f W hbW hdp
        have e12 : f 12 = .bool true := hdp ⟨12, .guard⟩ (mfl (by simp) rfl)
        simp only [fS, Nat.reduceAdd, e12]
        go_wp2
        exact ⟨rfl, _, rfl, rfl, Below.refl _ _⟩
      · intro f W hbW hdp
        have e12 : f 12 = .bool true := hdp ⟨12, .data⟩ (mfl (by simp) rfl)
        have e21 : f 21 = undef := hdp ⟨21, .data⟩ (mfl (by simp) rfl)
        simp only [fS, Nat.reduceAdd, e12, e21]
        go_wp2
        exact ⟨rfl, _, rfl, rfl, Below.refl _ _⟩
    case fin =>
      intro f W hbW hA
      have e22 : f 22 = .bool true := hA 22 (by simp)
      show wpList Tryz.prog #[] (Exit.then _ _) [] _ _
      simp only [fS, Nat.reduceAdd, e22]
      clear hA e22
      have HKR7 := hide (Blk.via hbW HKR6.out)
      have HL7 := hide (HL6.out.trans (hbW.mono HL6.out.size))
      clear hbW
      have c20 := (HKR7.out).cell 0
      have c21 := (HKR7.out).cell 1
      have c22 := (HKR7.out).cell 2
      have c23 := (HKR7.out).cell 3
      have c24 := (HKR7.out).cell 4
      have f20 := (HKR7.out).frozen 0
      have f21 := (HKR7.out).frozen 1
      have f22 := (HKR7.out).frozen 2
      have f23 := (HKR7.out).frozen 3
      have f24 := (HKR7.out).frozen 4
      have l20 := (HKR7.out).lt
      go_wp2_with fail
      refine bodyPost_ret (results_row_2 Tryz.results73 _ _ (w.heap.size + 1) #[.int .i64 0, .int .i64 0, .int .i64 0, .int .i64 0, .int .i64 0] rfl (run_loadVar_row _ _ _ _ #[.int .i64 0, .int .i64 0, .int .i64 0, .int .i64 0, .int .i64 0] (0, 0) _ (((((Blk.set_ HKR7.out 0 _).set_ 1 _).set_ 2 _).set_ 3 _).set_ 4 _) Tryz.underlying56 rfl info_confK)) rfl ⟨.inl ⟨HM.out, rfl⟩, (((((Below.setCell HL7.out (p := ⟨w.heap.size + 1, 0, none⟩) (Nat.le_succ _) _).setCell (p := ⟨w.heap.size + 1, 1, none⟩) (Nat.le_succ _) _).setCell (p := ⟨w.heap.size + 1, 2, none⟩) (Nat.le_succ _) _).setCell (p := ⟨w.heap.size + 1, 3, none⟩) (Nat.le_succ _) _).setCell (p := ⟨w.heap.size + 1, 4, none⟩) (Nat.le_succ _) _)⟩
  rw [show confE ⟨v1, v2, v3, v4, v5⟩ = 0 by unfold confE; rw [hok]; rfl] at HCK
  have hb16 : 1 ≤ v1 ∧ v1 ≤ 16 := by
    have := hok
    unfold confOk at this
    simp only [decide_eq_true_eq] at this
    exact ⟨this.1, this.2.1⟩
  have hv1a := hb16.1
  have hv1b := hb16.2
  have HOK := hide hok
  obtain ⟨wi, hwi⟩ : ∃ x, x = withinB u (v1 + 1) v2 := ⟨_, rfl⟩
  rw [← hwi] at HWI
  have HWB := hide hwi
  clear hok hb16 hwi
  refine wp_region_inv [fun v _ => v = .agg X, fun v _ => v = .int .i64 no, fun v _ => v = .bool false, fun v _ => v = .bool false, fun v _ => v = .int .i64 z, fun v _ => v = .bool false, fun v _ => v = .bool false, fun v _ => v = .bool false, fun v _ => v = .agg #[.int .i64 v1, .int .i64 v2, .int .i64 v3, .int .i64 v4, .int .i64 v5], fun v _ => v = .int .i64 0, fun v _ => v = .bool false, fun v _ => v = .bool false, fun v _ => v = .bool false, fun v _ => v = .agg X, fun v _ => v = .int .i64 u, fun v _ => v = .pointer (some ⟨gc, 0, none⟩), fun v _ => v = .int .i64 v1, fun v _ => v = .int .i64 (v1 + 1), fun v _ => v = .pointer (some ⟨gc, 1, none⟩), fun v _ => v = .int .i64 v2, fun v _ => v = .bool wi, fun v _ => v = .bool (!wi), fun v _ => v = .bool (!wi)] (by kernel_rfl) (by kernel_rfl) (by kernel_rfl) ?st ?steps ?fin
  case st =>
    intro i v W W' hWW h
    match i with
    | 0 | 1 | 2 | 3 | 4 | 5 | 6 | 7 | 8 | 9 | 10 | 11 | 12 | 13 | 14 | 15 | 16 | 17 | 18 | 19 | 20 | 21 | 22 => exact h
    | (i + 23) => exact h
  case steps =>
    simp only [stepsI]
    refine ⟨?_, ?_, ?_, ?_, ?_, ?_, ?_, ?_, ?_, ?_, ?_, ?_, ?_, ?_, ?_, ?_, ?_, ?_, ?_, ?_, ?_, ?_, ?_, trivial⟩
    · intro f W hbW hdp
      have kB := hide (Blk.via hbW HKB.out)
      simp only [fS, Nat.reduceAdd]
      go_wp2_with (refine wpList_load_row rfl 63 (.tmp 1) rfl w.heap.size rfl 63 X (0, 0) _ kB.out Tryz.underlying63 rfl HII.out ?_)
      exact ⟨rfl, _, rfl, rfl, Below.refl _ _⟩
    · intro f W hbW hdp
      have e0 : f 0 = .agg X := hdp ⟨0, .data⟩ (mfl (by simp) rfl)
      simp only [fS, Nat.reduceAdd, e0]
      go_wp2_with (go_at_call 91; refine (HNO.out _).mono ?_; rintro e w' ⟨rfl, hb'⟩)
      exact ⟨rfl, _, rfl, rfl, hb'⟩
    · intro f W hbW hdp
      have e1 : f 1 = .int .i64 no := hdp ⟨1, .data⟩ (mfl (by simp) rfl)
      simp only [fS, Nat.reduceAdd, e1]
      go_wp2
      exact ⟨rfl, _, rfl, rfl, Below.refl _ _⟩
    · intro f W hbW hdp
      have e2 : f 2 = .bool false := hdp ⟨2, .data⟩ (mfl (by simp) rfl)
      simp only [fS, Nat.reduceAdd, e2]
      go_wp2
      exact ⟨rfl, _, rfl, rfl, Below.refl _ _⟩
    · intro f W hbW hdp
      have e3 : f 3 = .bool false := hdp ⟨3, .guard⟩ (mfl (by simp) rfl)
      simp only [fS, Nat.reduceAdd, e3]
      go_wp2
      exact ⟨rfl, _, rfl, rfl, Below.refl _ _⟩
    · intro f W hbW hdp
      have e3 : f 3 = .bool false := hdp ⟨3, .guard⟩ (mfl (by simp) rfl)
      have e4 : f 4 = .int .i64 z := hdp ⟨4, .data⟩ (mfl (by simp) rfl)
      simp only [fS, Nat.reduceAdd, e3, e4]
      go_wp2
      exact ⟨rfl, _, rfl, rfl, Below.refl _ _⟩
    · intro f W hbW hdp
      have e3 : f 3 = .bool false := hdp ⟨3, .data⟩ (mfl (by simp) rfl)
      have e5 : f 5 = .bool false := hdp ⟨5, .data⟩ (mfl (by simp) rfl)
      simp only [fS, Nat.reduceAdd, e3, e5]
      go_wp2
      exact ⟨rfl, _, rfl, rfl, Below.refl _ _⟩
    · intro f W hbW hdp
      have e6 : f 6 = .bool false := hdp ⟨6, .data⟩ (mfl (by simp) rfl)
      simp only [fS, Nat.reduceAdd, e6]
      go_wp2
      exact ⟨rfl, _, rfl, rfl, Below.refl _ _⟩
    · intro f W hbW hdp
      have e7 : f 7 = .bool false := hdp ⟨7, .guard⟩ (mfl (by simp) rfl)
      have kc := Blk.via hbW HKC.out
      have z0 := kc.cell 0
      have z1 := kc.cell 1
      have z2 := kc.cell 2
      have z3 := kc.cell 3
      have z4 := kc.cell 4
      clear kc
      simp only [fS, Nat.reduceAdd, e7]
      go_wp2
      exact ⟨rfl, _, rfl, rfl, Below.refl _ _⟩
    · intro f W hbW hdp
      have e7 : f 7 = .bool false := hdp ⟨7, .guard⟩ (mfl (by simp) rfl)
      have e8 : f 8 = .agg #[.int .i64 v1, .int .i64 v2, .int .i64 v3, .int .i64 v4, .int .i64 v5] := hdp ⟨8, .data⟩ (mfl (by simp) rfl)
      simp only [fS, Nat.reduceAdd, e7, e8]
      go_wp2_with (go_at_call 138; refine (HCK.out _).mono ?_; rintro e w' ⟨rfl, hb'⟩)
      exact ⟨rfl, _, rfl, rfl, hb'⟩
    · intro f W hbW hdp
      have e7 : f 7 = .bool false := hdp ⟨7, .guard⟩ (mfl (by simp) rfl)
      have e9 : f 9 = .int .i64 0 := hdp ⟨9, .data⟩ (mfl (by simp) rfl)
      simp only [fS, Nat.reduceAdd, e7, e9]
      go_wp2
      exact ⟨rfl, _, rfl, rfl, Below.refl _ _⟩
    · intro f W hbW hdp
      have e7 : f 7 = .bool false := hdp ⟨7, .data⟩ (mfl (by simp) rfl)
      have e10 : f 10 = .bool false := hdp ⟨10, .data⟩ (mfl (by simp) rfl)
      simp only [fS, Nat.reduceAdd, e7, e10]
      go_wp2
      exact ⟨rfl, _, rfl, rfl, Below.refl _ _⟩
    · intro f W hbW hdp
      have e11 : f 11 = .bool false := hdp ⟨11, .data⟩ (mfl (by simp) rfl)
      simp only [fS, Nat.reduceAdd, e11]
      go_wp2
      exact ⟨rfl, _, rfl, rfl, Below.refl _ _⟩
    · intro f W hbW hdp
      have e12 : f 12 = .bool false := hdp ⟨12, .guard⟩ (mfl (by simp) rfl)
      have kB := hide (Blk.via hbW HKB.out)
      simp only [fS, Nat.reduceAdd, e12]
      refine wpList_load_rowG (by simp [Region.wanted, yielded]) 63 (.tmp 1) rfl w.heap.size rfl 63 X (0, 0) _ kB.out Tryz.underlying63 rfl HII.out ?_
      exact ⟨rfl, _, rfl, rfl, Below.refl _ _⟩
    · intro f W hbW hdp
      have e12 : f 12 = .bool false := hdp ⟨12, .guard⟩ (mfl (by simp) rfl)
      have e13 : f 13 = .agg X := hdp ⟨13, .data⟩ (mfl (by simp) rfl)
      simp only [fS, Nat.reduceAdd, e12, e13]
      go_wp2_with (go_at_call 140; refine (HNX.out _).mono ?_; rintro e w' ⟨rfl, hb'⟩)
      exact ⟨rfl, _, rfl, rfl, hb'⟩
    · intro f W hbW hdp
      have e12 : f 12 = .bool false := hdp ⟨12, .guard⟩ (mfl (by simp) rfl)
      simp only [fS, Nat.reduceAdd, e12]
      go_wp2
      exact ⟨rfl, _, rfl, rfl, Below.refl _ _⟩
    · intro f W hbW hdp
      have e12 : f 12 = .bool false := hdp ⟨12, .guard⟩ (mfl (by simp) rfl)
      have e15 : f 15 = .pointer (some ⟨gc, 0, none⟩) := hdp ⟨15, .data⟩ (mfl (by simp) rfl)
      have z0 := (Blk.via hbW HKC.out).cell 0
      simp only [fS, Nat.reduceAdd, e12, e15]
      go_wp2
      exact ⟨rfl, _, rfl, rfl, Below.refl _ _⟩
    · intro f W hbW hdp
      have e12 : f 12 = .bool false := hdp ⟨12, .guard⟩ (mfl (by simp) rfl)
      have e16 : f 16 = .int .i64 v1 := hdp ⟨16, .data⟩ (mfl (by simp) rfl)
      simp only [fS, Nat.reduceAdd, e12, e16]
      go_wp2
      exact ⟨rfl, _, rfl, rfl, Below.refl _ _⟩
    · intro f W hbW hdp
      have e12 : f 12 = .bool false := hdp ⟨12, .guard⟩ (mfl (by simp) rfl)
      simp only [fS, Nat.reduceAdd, e12]
      go_wp2
      exact ⟨rfl, _, rfl, rfl, Below.refl _ _⟩
    · intro f W hbW hdp
      have e12 : f 12 = .bool false := hdp ⟨12, .guard⟩ (mfl (by simp) rfl)
      have e18 : f 18 = .pointer (some ⟨gc, 1, none⟩) := hdp ⟨18, .data⟩ (mfl (by simp) rfl)
      have z1 := (Blk.via hbW HKC.out).cell 1
      simp only [fS, Nat.reduceAdd, e12, e18]
      go_wp2
      exact ⟨rfl, _, rfl, rfl, Below.refl _ _⟩
    · intro f W hbW hdp
      have e12 : f 12 = .bool false := hdp ⟨12, .guard⟩ (mfl (by simp) rfl)
      have e14 : f 14 = .int .i64 u := hdp ⟨14, .data⟩ (mfl (by simp) rfl)
      have e17 : f 17 = .int .i64 (v1 + 1) := hdp ⟨17, .data⟩ (mfl (by simp) rfl)
      have e19 : f 19 = .int .i64 v2 := hdp ⟨19, .data⟩ (mfl (by simp) rfl)
      simp only [fS, Nat.reduceAdd, e12, e14, e17, e19]
      go_wp2_with (go_at_call 139; refine (HWI.out _).mono ?_; rintro e w' ⟨rfl, hw'⟩; obtain rfl := hw'.symm)
      exact ⟨rfl, _, rfl, rfl, Below.refl _ _⟩
    · intro f W hbW hdp
      have e12 : f 12 = .bool false := hdp ⟨12, .guard⟩ (mfl (by simp) rfl)
      have e20 : f 20 = .bool wi := hdp ⟨20, .data⟩ (mfl (by simp) rfl)
      simp only [fS, Nat.reduceAdd, e12, e20]
      go_wp2
      exact ⟨rfl, _, rfl, rfl, Below.refl _ _⟩
    · intro f W hbW hdp
      have e12 : f 12 = .bool false := hdp ⟨12, .data⟩ (mfl (by simp) rfl)
      have e21 : f 21 = .bool (!wi) := hdp ⟨21, .data⟩ (mfl (by simp) rfl)
      simp only [fS, Nat.reduceAdd, e12, e21]
      go_wp2
      exact ⟨rfl, _, rfl, rfl, Below.refl _ _⟩
  case fin =>
    intro f W hbW hA
    have e22 : f 22 = .bool (!wi) := hA 22 (by simp)
    show wpList Tryz.prog #[] (Exit.then _ _) [] _ _
    simp only [fS, Nat.reduceAdd, e22]
    clear hA e22
    cases wi
    · have HM := hide (show metaG bs = none by
        rw [HGG.out, if_neg]
        rintro ⟨q1, q2, q3, q4, q5⟩
        have h1 := HWB.out
        unfold withinB at h1
        rw [decide_eq_true (show v1 + 1 ≤ u ∧ u ≤ v2 from ⟨q4, q5⟩)] at h1
        cases h1)
      have HKR7 := hide (Blk.via hbW HKR6.out)
      have HL7 := hide (HL6.out.trans (hbW.mono HL6.out.size))
      clear hbW
      have c20 := (HKR7.out).cell 0
      have c21 := (HKR7.out).cell 1
      have c22 := (HKR7.out).cell 2
      have c23 := (HKR7.out).cell 3
      have c24 := (HKR7.out).cell 4
      have f20 := (HKR7.out).frozen 0
      have f21 := (HKR7.out).frozen 1
      have f22 := (HKR7.out).frozen 2
      have f23 := (HKR7.out).frozen 3
      have f24 := (HKR7.out).frozen 4
      have l20 := (HKR7.out).lt
      go_wp2_with fail
      refine bodyPost_ret (results_row_2 Tryz.results73 _ _ (w.heap.size + 1) #[.int .i64 0, .int .i64 0, .int .i64 0, .int .i64 0, .int .i64 0] rfl (run_loadVar_row _ _ _ _ #[.int .i64 0, .int .i64 0, .int .i64 0, .int .i64 0, .int .i64 0] (0, 0) _ (((((Blk.set_ HKR7.out 0 _).set_ 1 _).set_ 2 _).set_ 3 _).set_ 4 _) Tryz.underlying56 rfl info_confK)) rfl ⟨.inl ⟨HM.out, rfl⟩, (((((Below.setCell HL7.out (p := ⟨w.heap.size + 1, 0, none⟩) (Nat.le_succ _) _).setCell (p := ⟨w.heap.size + 1, 1, none⟩) (Nat.le_succ _) _).setCell (p := ⟨w.heap.size + 1, 2, none⟩) (Nat.le_succ _) _).setCell (p := ⟨w.heap.size + 1, 3, none⟩) (Nat.le_succ _) _).setCell (p := ⟨w.heap.size + 1, 4, none⟩) (Nat.le_succ _) _)⟩
    have HM := hide (show metaG bs = some (⟨v1, v2, v3, v4, v5⟩, u) by
      have h1 := HWB.out
      unfold withinB at h1
      have h2 := of_decide_eq_true h1.symm
      rw [HGG.out, if_pos]
      exact ⟨by simpa using bno, by simpa using bz, HOK.out, h2.1, h2.2⟩)
    have HKC7 := hide (Blk.via hbW HKC.out)
    have HKR7 := hide (Blk.via hbW HKR6.out)
    have HKB7 := hide (Blk.via hbW HKB.out)
    have HL7 := hide (HL6.out.trans (hbW.mono HL6.out.size))
    clear hbW
    go_upto_region 6 with (fail)
    have HKB := HKB7
    have HKC := HKC7
    refine wp_region_inv_tail 3 [fun v _ => v = .agg #[.int .i64 v1, .int .i64 v2, .int .i64 v3, .int .i64 v4, .int .i64 v5], fun v _ => v = .agg X, fun v _ => v = .int .i64 u] (by kernel_rfl) (by kernel_rfl) (by kernel_rfl) (by kernel_rfl) (by kernel_rfl) (by first | simp | decide) (by kernel_rfl) ?st ?steps ?fin
    case st =>
      intro i v W W' hWW h
      match i with
      | 0 | 1 | 2 => exact h
      | (i + 3) => exact h
    case steps =>
      simp only [stepsT, List.take_succ_cons, List.take_zero]
      refine ⟨?_, ?_, ?_, trivial⟩
      · intro f W hbW hdp
        have kc := Blk.via hbW HKC.out
        have z0 := kc.cell 0
        have z1 := kc.cell 1
        have z2 := kc.cell 2
        have z3 := kc.cell 3
        have z4 := kc.cell 4
        clear kc
        simp only [fS, Nat.reduceAdd]
        go_wp2
        exact ⟨rfl, _, rfl, rfl, Below.refl _ _⟩
      · intro f W hbW hdp
        have kB := hide (Blk.via hbW HKB.out)
        simp only [fS, Nat.reduceAdd]
        go_wp2_with (refine wpList_load_row rfl 63 (.tmp 1) rfl w.heap.size rfl 63 X (0, 0) _ kB.out Tryz.underlying63 rfl HII.out ?_)
        exact ⟨rfl, _, rfl, rfl, Below.refl _ _⟩
      · intro f W hbW hdp
        have e1 : f 1 = .agg X := hdp ⟨1, .data⟩ (mfl (by simp) rfl)
        simp only [fS, Nat.reduceAdd, e1]
        go_wp2_with (go_at_call 140; refine (HNX.out _).mono ?_; rintro e w' ⟨rfl, hb'⟩)
        exact ⟨rfl, _, rfl, rfl, hb'⟩
    case fin =>
      intro f W hbW hA
      have e0 : f 0 = .agg #[.int .i64 v1, .int .i64 v2, .int .i64 v3, .int .i64 v4, .int .i64 v5] := hA 0 (by omega)
      have e2 : f 2 = .int .i64 u := hA 2 (by omega)
      simp only [List.drop_succ_cons, List.drop_zero, List.take_succ_cons, List.take_zero, fillF, Act.put, List.setIfInBounds_toArray, List.set_cons_succ, List.set_cons_zero, Nat.reduceAdd, e0, e2]
      clear hA e0 e2
      have HKR8 := hide (Blk.via hbW HKR7.out)
      have HL8 := hide (HL7.out.trans (hbW.mono HL7.out.size))
      clear hbW
      have c20 := (HKR8.out).cell 0
      have c21 := (HKR8.out).cell 1
      have c22 := (HKR8.out).cell 2
      have c23 := (HKR8.out).cell 3
      have c24 := (HKR8.out).cell 4
      have f20 := (HKR8.out).frozen 0
      have f21 := (HKR8.out).frozen 1
      have f22 := (HKR8.out).frozen 2
      have f23 := (HKR8.out).frozen 3
      have f24 := (HKR8.out).frozen 4
      have l20 := (HKR8.out).lt
      go_wp2_with fail
      refine bodyPost_ret (results_row_2 Tryz.results73 _ _ (w.heap.size + 1) #[.int .i64 v1, .int .i64 v2, .int .i64 v3, .int .i64 v4, .int .i64 v5] rfl (run_loadVar_row _ _ _ _ #[.int .i64 v1, .int .i64 v2, .int .i64 v3, .int .i64 v4, .int .i64 v5] (0, 0) _ (((((Blk.set_ HKR8.out 0 _).set_ 1 _).set_ 2 _).set_ 3 _).set_ 4 _) Tryz.underlying56 rfl info_confK)) rfl ⟨.inr ⟨_, _, HM.out, rfl⟩, (((((Below.setCell HL8.out (p := ⟨w.heap.size + 1, 0, none⟩) (Nat.le_succ _) _).setCell (p := ⟨w.heap.size + 1, 1, none⟩) (Nat.le_succ _) _).setCell (p := ⟨w.heap.size + 1, 2, none⟩) (Nat.le_succ _) _).setCell (p := ⟨w.heap.size + 1, 3, none⟩) (Nat.le_succ _) _).setCell (p := ⟨w.heap.size + 1, 4, none⟩) (Nat.le_succ _) _)⟩
end Go.Proofs.YtnanlaefehaifaaGreat
