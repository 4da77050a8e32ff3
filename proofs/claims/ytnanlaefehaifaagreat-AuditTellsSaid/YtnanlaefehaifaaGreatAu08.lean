/-
  Texts of this claim, joined: KT, KU.
-/
import Derived.Test.YtnanlaefehaifaaGreatAu07
set_option maxHeartbeats 6400000
set_option maxRecDepth 100000
namespace Go.Proofs.YtnanlaefehaifaaGreat
open Go.RowKit
def rightE (bs : List UInt8) (no : Int) : Int := if rightP bs no = true then 0 else 14
theorem zeros_iff (l : List UInt8) : l.all (· == 0) = (l == List.replicate l.length 0) := by
  rw [Bool.eq_iff_iff, List.all_eq_true, beq_iff_eq, List.eq_replicate_iff]
  simp
theorem page_cut {W : World} {g : Nat} {t : TypeId} {bs : List UInt8} (k : Blk W g t (bs.map byteV).toArray) (hl : bs.length = 512) (at_ n : Nat) (h : at_ + n ≤ 512) (h0 : 0 < n) : Reads W (g + 1) 1 (some ⟨g, at_, none⟩) n ((cutB bs at_ n).map byteV) := by
  have h1 := ((pg_reads k hl).cut (k := at_) (cap := 512) (by omega) (Nat.le_refl _)).take (k := n) (by omega)
  rw [if_neg (by omega), Option.map_some, add_plain, Nat.mul_one, Nat.mul_one, Nat.zero_add] at h1
  unfold cutB
  rw [List.map_take, List.map_drop]
  exact h1
theorem pCheck_any (bs : List UInt8) (hl : bs.length = 512) (no : Int) (w : World) : Calls Tryz.prog 74 #[pgV bs, .int .i64 no] w fun e w' => e = .returned (.int .i64 (rightE bs no)) ∧ Below w.heap.size w w' := by
  have HNUM := hide (fun W => pnum_any bs hl 0 4 W (by omega) (by omega) (by omega))
  have HSUM := hide (fun W => psum_any bs hl W)
  have HNO := hide (fun W => pNo_any bs hl W)
  have HSL := hide (fun (i : Nat) (hi : i < 7) W => pSlot_any bs hl i hi W)
  have HN1 := hide (fun W (k : Blk W w.heap.size 63 (bs.map byteV).toArray) => none_any (some ⟨w.heap.size, 24, none⟩) 8 488 (cutB bs 24 8) _ W (by omega) (by unfold cutB; rw [List.length_take, List.length_drop]; omega) (page_cut k hl 24 8 (by omega) (by omega)))
  have HN2 := hide (fun W (k : Blk W w.heap.size 63 (bs.map byteV).toArray) => none_any (some ⟨w.heap.size, 480, none⟩) 32 32 (cutB bs 480 32) _ W (by omega) (by unfold cutB; rw [List.length_take, List.length_drop]; omega) (page_cut k hl 480 32 (by omega) (by omega)))
  have HP := hide (show rightP bs no = ((numI (cutB bs 0 4) == ((moreD 0 (bs.drop 4) : Nat) : Int)) && ((numI (cutB bs 12 2) == no) && ((cutB bs 24 8).all (· == 0) && ((cutB bs 480 32).all (· == 0) && slotsOk bs 7)))) by
    unfold rightP
    have h1 : (cutB bs 24 8).length = 8 := by unfold cutB; rw [List.length_take, List.length_drop]; omega
    have h2 : cutB bs 480 32 = bs.drop 480 := by unfold cutB; rw [List.take_of_length_le]; rw [List.length_drop]; omega
    have h3 : (bs.drop 480).length = 32 := by rw [List.length_drop]; omega
    rw [zeros_iff (cutB bs 24 8), h1, h2, zeros_iff (bs.drop 480), h3])
  have HII := hide (show (Tryz.prog.info? 63).map (·.size) = some ((bs.map byteV).toArray).size by rw [pg_size bs hl]; exact info_pg)
  have HLT := hide (show moreD 0 (bs.drop 4) < 4294967296 by unfold moreD; omega)
  unfold pgV at *
  generalize hX : (bs.map byteV).toArray = X at *
  generalize ((moreD 0 (bs.drop 4) : Nat) : Int) = v2 at *
  generalize numI (cutB bs 0 4) = v1 at *
  generalize numI (cutB bs 12 2) = v3 at *
  generalize (cutB bs 24 8).all (· == 0) = z1 at *
  generalize (cutB bs 480 32).all (· == 0) = z2 at *
  clear hX hl
  go_enter Tryz.func74, Tryz.ntmps74
  go_upto_region 1 with (fail)
  refine gen1 (R := fun W => Code.wp _ _ _ _ W) (fun W1 kB hb1 hz1 => ?_)
  have HKB := hide kB
  have HB1 := hide hb1
  clear kB hb1
  cases ha : (v1 == v2)
  · have hb : (v1 != v2) = true := by simp [bne, ha]
    rw [ha] at HP
    clear ha
    refine wp_region_inv [fun v _ => v = .agg X, fun v _ => v = .int .i64 v1, fun v _ => v = .agg X, fun v _ => v = .int .i64 v2, fun v _ => v = .bool true, fun v _ => v = .bool true, fun v _ => v = undef, fun v _ => v = undef, fun v _ => v = undef, fun v _ => v = undef, fun v _ => v = .bool true] (by kernel_rfl) (by kernel_rfl) (by kernel_rfl) ?st ?steps ?fin
    case st =>
      intro i v W W' hWW h
      match i with
      | 0 | 1 | 2 | 3 | 4 | 5 | 6 | 7 | 8 | 9 | 10 => exact h
      | (i + 11) => exact h
    case steps =>
      simp only [stepsI]
      refine ⟨?_, ?_, ?_, ?_, ?_, ?_, ?_, ?_, ?_, ?_, ?_, trivial⟩
      · intro f W hbW hdp
        have kB := hide (Blk.via hbW HKB.out)
        simp only [fS, Nat.reduceAdd]
        go_wp2_with (refine wpList_load_row rfl 63 (.tmp 2) rfl w.heap.size rfl 63 X (0, 0) _ kB.out Tryz.underlying63 rfl HII.out ?_)
        exact ⟨rfl, _, rfl, rfl, Below.refl _ _⟩
      · intro f W hbW hdp
        have e0 : f 0 = .agg X := hdp ⟨0, .data⟩ (mfl (by simp) rfl)
        simp only [fS, Nat.reduceAdd, e0]
        go_wp2_with (go_at_call 141; refine (HNUM.out _).mono ?_; rintro e w' ⟨rfl, hb'⟩)
        exact ⟨rfl, _, rfl, rfl, hb'⟩
      · intro f W hbW hdp
        have kB := hide (Blk.via hbW HKB.out)
        simp only [fS, Nat.reduceAdd]
        go_wp2_with (refine wpList_load_row rfl 63 (.tmp 2) rfl w.heap.size rfl 63 X (0, 0) _ kB.out Tryz.underlying63 rfl HII.out ?_)
        exact ⟨rfl, _, rfl, rfl, Below.refl _ _⟩
      · intro f W hbW hdp
        have e2 : f 2 = .agg X := hdp ⟨2, .data⟩ (mfl (by simp) rfl)
        simp only [fS, Nat.reduceAdd, e2]
        go_wp2_with (go_at_call 142; refine (HSUM.out _).mono ?_; rintro e w' ⟨rfl, hb'⟩)
        exact ⟨rfl, _, rfl, rfl, hb'⟩
      · intro f W hbW hdp
        have e1 : f 1 = .int .i64 v1 := hdp ⟨1, .data⟩ (mfl (by simp) rfl)
        have e3 : f 3 = .int .i64 v2 := hdp ⟨3, .data⟩ (mfl (by simp) rfl)
        simp only [fS, Nat.reduceAdd, e1, e3]
        go_wp2
        exact ⟨rfl, _, rfl, rfl, Below.refl _ _⟩
      · intro f W hbW hdp
        have e4 : f 4 = .bool true := hdp ⟨4, .data⟩ (mfl (by simp) rfl)
        simp only [fS, Nat.reduceAdd, e4]
        go_wp2
        exact ⟨rfl, _, rfl, rfl, Below.refl _ _⟩
      · intro f W hbW hdp
        have e5 : f 5 = .bool true := hdp ⟨5, .guard⟩ (mfl (by simp) rfl)
        simp only [fS, Nat.reduceAdd, e5]
        go_wp2
        exact ⟨rfl, _, rfl, rfl, Below.refl _ _⟩
      · intro f W hbW hdp
        have e5 : f 5 = .bool true := hdp ⟨5, .guard⟩ (mfl (by simp) rfl)
        simp only [fS, Nat.reduceAdd, e5]
        go_wp2
        exact ⟨rfl, _, rfl, rfl, Below.refl _ _⟩
      · intro f W hbW hdp
        have e5 : f 5 = .bool true := hdp ⟨5, .guard⟩ (mfl (by simp) rfl)
        simp only [fS, Nat.reduceAdd, e5]
        go_wp2
        exact ⟨rfl, _, rfl, rfl, Below.refl _ _⟩
      · intro f W hbW hdp
        have e5 : f 5 = .bool true := hdp ⟨5, .guard⟩ (mfl (by simp) rfl)
        simp only [fS, Nat.reduceAdd, e5]
        go_wp2
        exact ⟨rfl, _, rfl, rfl, Below.refl _ _⟩
      · intro f W hbW hdp
        have e5 : f 5 = .bool true := hdp ⟨5, .data⟩ (mfl (by simp) rfl)
        simp only [fS, Nat.reduceAdd, e5]
        go_wp2
        exact ⟨rfl, _, rfl, rfl, Below.refl _ _⟩
    case fin =>
      intro f W hbW hA
      have e10 : f 10 = .bool true := hA 10 (by simp)
      show wpList Tryz.prog #[] (Exit.then _ _) [] _ _
      simp only [fS, Nat.reduceAdd, e10]
      clear hA e10
      have HL2 := hide (HB1.out.trans (hbW.mono HB1.out.size))
      clear hbW
      have HF := hide (show rightE bs no = 14 by unfold rightE; rw [HP.out, if_neg]; simp)
      go_wp2
      go_ret
      exact ⟨by rw [HF.out]; rfl, HL2.out⟩
  have hb : (v1 != v2) = false := by simp [bne, ha]
  rw [ha] at HP
  clear ha
  cases hc : (v3 == no)
  · have hd : (v3 != no) = true := by simp [bne, hc]
    rw [hc] at HP
    clear hc
    refine wp_region_inv [fun v _ => v = .agg X, fun v _ => v = .int .i64 v1, fun v _ => v = .agg X, fun v _ => v = .int .i64 v2, fun v _ => v = .bool false, fun v _ => v = .bool false, fun v _ => v = .agg X, fun v _ => v = .int .i64 v3, fun v _ => v = .int .i64 no, fun v _ => v = .bool true, fun v _ => v = .bool true] (by kernel_rfl) (by kernel_rfl) (by kernel_rfl) ?st ?steps ?fin
    case st =>
      intro i v W W' hWW h
      match i with
      | 0 | 1 | 2 | 3 | 4 | 5 | 6 | 7 | 8 | 9 | 10 => exact h
      | (i + 11) => exact h
    case steps =>
      simp only [stepsI]
      refine ⟨?_, ?_, ?_, ?_, ?_, ?_, ?_, ?_, ?_, ?_, ?_, trivial⟩
      · intro f W hbW hdp
        have kB := hide (Blk.via hbW HKB.out)
        simp only [fS, Nat.reduceAdd]
        go_wp2_with (refine wpList_load_row rfl 63 (.tmp 2) rfl w.heap.size rfl 63 X (0, 0) _ kB.out Tryz.underlying63 rfl HII.out ?_)
        exact ⟨rfl, _, rfl, rfl, Below.refl _ _⟩
      · intro f W hbW hdp
        have e0 : f 0 = .agg X := hdp ⟨0, .data⟩ (mfl (by simp) rfl)
        simp only [fS, Nat.reduceAdd, e0]
        go_wp2_with (go_at_call 141; refine (HNUM.out _).mono ?_; rintro e w' ⟨rfl, hb'⟩)
        exact ⟨rfl, _, rfl, rfl, hb'⟩
      · intro f W hbW hdp
        have kB := hide (Blk.via hbW HKB.out)
        simp only [fS, Nat.reduceAdd]
        go_wp2_with (refine wpList_load_row rfl 63 (.tmp 2) rfl w.heap.size rfl 63 X (0, 0) _ kB.out Tryz.underlying63 rfl HII.out ?_)
        exact ⟨rfl, _, rfl, rfl, Below.refl _ _⟩
      · intro f W hbW hdp
        have e2 : f 2 = .agg X := hdp ⟨2, .data⟩ (mfl (by simp) rfl)
        simp only [fS, Nat.reduceAdd, e2]
        go_wp2_with (go_at_call 142; refine (HSUM.out _).mono ?_; rintro e w' ⟨rfl, hb'⟩)
        exact ⟨rfl, _, rfl, rfl, hb'⟩
      · intro f W hbW hdp
        have e1 : f 1 = .int .i64 v1 := hdp ⟨1, .data⟩ (mfl (by simp) rfl)
        have e3 : f 3 = .int .i64 v2 := hdp ⟨3, .data⟩ (mfl (by simp) rfl)
        simp only [fS, Nat.reduceAdd, e1, e3]
        go_wp2
        exact ⟨rfl, _, rfl, rfl, Below.refl _ _⟩
      · intro f W hbW hdp
        have e4 : f 4 = .bool false := hdp ⟨4, .data⟩ (mfl (by simp) rfl)
        simp only [fS, Nat.reduceAdd, e4]
        go_wp2
        exact ⟨rfl, _, rfl, rfl, Below.refl _ _⟩
      · intro f W hbW hdp
        have e5 : f 5 = .bool false := hdp ⟨5, .guard⟩ (mfl (by simp) rfl)
        have kB := hide (Blk.via hbW HKB.out)
        simp only [fS, Nat.reduceAdd, e5]
        refine wpList_load_rowG (by simp [Region.wanted, yielded]) 63 (.tmp 2) rfl w.heap.size rfl 63 X (0, 0) _ kB.out Tryz.underlying63 rfl HII.out ?_
        exact ⟨rfl, _, rfl, rfl, Below.refl _ _⟩
      · intro f W hbW hdp
        have e5 : f 5 = .bool false := hdp ⟨5, .guard⟩ (mfl (by simp) rfl)
        have e6 : f 6 = .agg X := hdp ⟨6, .data⟩ (mfl (by simp) rfl)
        simp only [fS, Nat.reduceAdd, e5, e6]
        go_wp2_with (go_at_call 91; refine (HNO.out _).mono ?_; rintro e w' ⟨rfl, hb'⟩)
        exact ⟨rfl, _, rfl, rfl, hb'⟩
      · intro f W hbW hdp
        have e5 : f 5 = .bool false := hdp ⟨5, .guard⟩ (mfl (by simp) rfl)
        simp only [fS, Nat.reduceAdd, e5]
        go_wp2
        exact ⟨rfl, _, rfl, rfl, Below.refl _ _⟩
      · intro f W hbW hdp
        have e5 : f 5 = .bool false := hdp ⟨5, .guard⟩ (mfl (by simp) rfl)
        have e7 : f 7 = .int .i64 v3 := hdp ⟨7, .data⟩ (mfl (by simp) rfl)
        have e8 : f 8 = .int .i64 no := hdp ⟨8, .data⟩ (mfl (by simp) rfl)
        simp only [fS, Nat.reduceAdd, e5, e7, e8]
        go_wp2
        exact ⟨rfl, _, rfl, rfl, Below.refl _ _⟩
      · intro f W hbW hdp
        have e5 : f 5 = .bool false := hdp ⟨5, .data⟩ (mfl (by simp) rfl)
        have e9 : f 9 = .bool true := hdp ⟨9, .data⟩ (mfl (by simp) rfl)
        simp only [fS, Nat.reduceAdd, e5, e9]
        go_wp2
        exact ⟨rfl, _, rfl, rfl, Below.refl _ _⟩
    case fin =>
      intro f W hbW hA
      have e10 : f 10 = .bool true := hA 10 (by simp)
      show wpList Tryz.prog #[] (Exit.then _ _) [] _ _
      simp only [fS, Nat.reduceAdd, e10]
      clear hA e10
      have HL2 := hide (HB1.out.trans (hbW.mono HB1.out.size))
      clear hbW
      have HF := hide (show rightE bs no = 14 by unfold rightE; rw [HP.out, if_neg]; simp)
      go_wp2
      go_ret
      exact ⟨by rw [HF.out]; rfl, HL2.out⟩
  · have hd : (v3 != no) = false := by simp [bne, hc]
    rw [hc] at HP
    clear hc
    refine wp_region_inv [fun v _ => v = .agg X, fun v _ => v = .int .i64 v1, fun v _ => v = .agg X, fun v _ => v = .int .i64 v2, fun v _ => v = .bool false, fun v _ => v = .bool false, fun v _ => v = .agg X, fun v _ => v = .int .i64 v3, fun v _ => v = .int .i64 no, fun v _ => v = .bool false, fun v _ => v = .bool false] (by kernel_rfl) (by kernel_rfl) (by kernel_rfl) ?st ?steps ?fin
    case st =>
      intro i v W W' hWW h
      match i with
      | 0 | 1 | 2 | 3 | 4 | 5 | 6 | 7 | 8 | 9 | 10 => exact h
      | (i + 11) => exact h
    case steps =>
      simp only [stepsI]
      refine ⟨?_, ?_, ?_, ?_, ?_, ?_, ?_, ?_, ?_, ?_, ?_, trivial⟩
      · intro f W hbW hdp
        have kB := hide (Blk.via hbW HKB.out)
        simp only [fS, Nat.reduceAdd]
        go_wp2_with (refine wpList_load_row rfl 63 (.tmp 2) rfl w.heap.size rfl 63 X (0, 0) _ kB.out Tryz.underlying63 rfl HII.out ?_)
        exact ⟨rfl, _, rfl, rfl, Below.refl _ _⟩
      · intro f W hbW hdp
        have e0 : f 0 = .agg X := hdp ⟨0, .data⟩ (mfl (by simp) rfl)
        simp only [fS, Nat.reduceAdd, e0]
        go_wp2_with (go_at_call 141; refine (HNUM.out _).mono ?_; rintro e w' ⟨rfl, hb'⟩)
        exact ⟨rfl, _, rfl, rfl, hb'⟩
      · intro f W hbW hdp
        have kB := hide (Blk.via hbW HKB.out)
        simp only [fS, Nat.reduceAdd]
        go_wp2_with (refine wpList_load_row rfl 63 (.tmp 2) rfl w.heap.size rfl 63 X (0, 0) _ kB.out Tryz.underlying63 rfl HII.out ?_)
        exact ⟨rfl, _, rfl, rfl, Below.refl _ _⟩
      · intro f W hbW hdp
        have e2 : f 2 = .agg X := hdp ⟨2, .data⟩ (mfl (by simp) rfl)
        simp only [fS, Nat.reduceAdd, e2]
        go_wp2_with (go_at_call 142; refine (HSUM.out _).mono ?_; rintro e w' ⟨rfl, hb'⟩)
        exact ⟨rfl, _, rfl, rfl, hb'⟩
      · intro f W hbW hdp
        have e1 : f 1 = .int .i64 v1 := hdp ⟨1, .data⟩ (mfl (by simp) rfl)
        have e3 : f 3 = .int .i64 v2 := hdp ⟨3, .data⟩ (mfl (by simp) rfl)
        simp only [fS, Nat.reduceAdd, e1, e3]
        go_wp2
        exact ⟨rfl, _, rfl, rfl, Below.refl _ _⟩
      · intro f W hbW hdp
        have e4 : f 4 = .bool false := hdp ⟨4, .data⟩ (mfl (by simp) rfl)
        simp only [fS, Nat.reduceAdd, e4]
        go_wp2
        exact ⟨rfl, _, rfl, rfl, Below.refl _ _⟩
      · intro f W hbW hdp
        have e5 : f 5 = .bool false := hdp ⟨5, .guard⟩ (mfl (by simp) rfl)
        have kB := hide (Blk.via hbW HKB.out)
        simp only [fS, Nat.reduceAdd, e5]
        refine wpList_load_rowG (by simp [Region.wanted, yielded]) 63 (.tmp 2) rfl w.heap.size rfl 63 X (0, 0) _ kB.out Tryz.underlying63 rfl HII.out ?_
        exact ⟨rfl, _, rfl, rfl, Below.refl _ _⟩
      · intro f W hbW hdp
        have e5 : f 5 = .bool false := hdp ⟨5, .guard⟩ (mfl (by simp) rfl)
        have e6 : f 6 = .agg X := hdp ⟨6, .data⟩ (mfl (by simp) rfl)
        simp only [fS, Nat.reduceAdd, e5, e6]
        go_wp2_with (go_at_call 91; refine (HNO.out _).mono ?_; rintro e w' ⟨rfl, hb'⟩)
        exact ⟨rfl, _, rfl, rfl, hb'⟩
      · intro f W hbW hdp
        have e5 : f 5 = .bool false := hdp ⟨5, .guard⟩ (mfl (by simp) rfl)
        simp only [fS, Nat.reduceAdd, e5]
        go_wp2
        exact ⟨rfl, _, rfl, rfl, Below.refl _ _⟩
      · intro f W hbW hdp
        have e5 : f 5 = .bool false := hdp ⟨5, .guard⟩ (mfl (by simp) rfl)
        have e7 : f 7 = .int .i64 v3 := hdp ⟨7, .data⟩ (mfl (by simp) rfl)
        have e8 : f 8 = .int .i64 no := hdp ⟨8, .data⟩ (mfl (by simp) rfl)
        simp only [fS, Nat.reduceAdd, e5, e7, e8]
        go_wp2
        exact ⟨rfl, _, rfl, rfl, Below.refl _ _⟩
      · intro f W hbW hdp
        have e5 : f 5 = .bool false := hdp ⟨5, .data⟩ (mfl (by simp) rfl)
        have e9 : f 9 = .bool false := hdp ⟨9, .data⟩ (mfl (by simp) rfl)
        simp only [fS, Nat.reduceAdd, e5, e9]
        go_wp2
        exact ⟨rfl, _, rfl, rfl, Below.refl _ _⟩
    case fin =>
      intro f W hbW hA
      have e10 : f 10 = .bool false := hA 10 (by simp)
      show wpList Tryz.prog #[] (Exit.then _ _) [] _ _
      simp only [fS, Nat.reduceAdd, e10]
      clear hA e10
      have HL2 := hide (HB1.out.trans (hbW.mono HB1.out.size))
      have HKB2 := hide (Blk.via hbW HKB.out)
      have HKB3 := hide (show Blk W w.heap.size 63 X from Blk.via hbW HKB.out)
      clear hbW hb hd
      have hn1 := hide (HN1.out W HKB2.out)
      have hn2 := hide (HN2.out W HKB2.out)
      cases z1
      · have HF := hide (show rightE bs no = 14 by unfold rightE; rw [HP.out, if_neg]; simp)
        go_wp2_with (go_at_call 143; refine hn1.out.mono ?_; rintro e w' ⟨rfl, hw'⟩; obtain rfl := hw'.symm)
        go_ret
        exact ⟨by rw [HF.out]; rfl, HL2.out⟩
      cases z2
      · have HF := hide (show rightE bs no = 14 by unfold rightE; rw [HP.out, if_neg]; simp)
        go_wp2_with (first
          | (go_at_call 143; with_reducible refine hn1.out.mono ?_; rintro e w' ⟨rfl, hw'⟩; obtain rfl := hw'.symm)
          | (go_at_call 143; with_reducible refine hn2.out.mono ?_; rintro e w' ⟨rfl, hw'⟩; obtain rfl := hw'.symm))
        go_ret
        exact ⟨by rw [HF.out]; rfl, HL2.out⟩
      have HP7 := hide (show rightP bs no = slotsOk bs 7 by rw [HP.out]; simp)
      go_upto_region 5 with (first
        | (go_at_call 143; with_reducible refine hn1.out.mono ?_; rintro e w' ⟨rfl, hw'⟩; obtain rfl := hw'.symm)
        | (go_at_call 143; with_reducible refine hn2.out.mono ?_; rintro e w' ⟨rfl, hw'⟩; obtain rfl := hw'.symm))
      go_wp2
      go_loopw [27] (fun iv wr => ∃ k : Nat, k ≤ 7 ∧ iv = .int .i64 k ∧ Hid (slotsOk bs k = true) ∧ Hid (Below w.heap.size w wr) ∧ Hid (Blk wr w.heap.size 63 X)) (fun iv _ => 7 - (intOf iv).toNat)
      case atStart => exact ⟨0, by omega, rfl, hide rfl, HL2, HKB2⟩
      case round =>
        obtain ⟨k, hk, rfl, hok, hL, hB⟩ := hrel
        by_cases hlt : (k : Int) < 7
        · have HSI := hide (HSL.out k (by omega) wr)
          go_wp2_with (refine wpList_load_row rfl 63 (.tmp 2) rfl w.heap.size rfl 63 X (0, 0) _ hB.out Tryz.underlying63 rfl HII.out ?_)
          refine HSI.out.mono ?_
          rintro e W6 hP
          obtain ⟨x, A, n, c, er, rfl, hby, hor⟩ := slotGP_one hP
          have HB6 := hide (Blk.via hP.2 hB.out)
          have hl6 : Below w.heap.size w W6 := hL.out.trans (hP.2.mono hL.out.size)
          have HL6 := hide hl6
          obtain ⟨xs, xk, d1, d2, d3, d4, d5⟩ := x
          unfold itemC at *
          dsimp only at *
          have hz6 := hl6.size
          clear hP hby hl6
          rcases hor with ⟨hno, _, _, _, _, rfl⟩ | ⟨hyes, rfl⟩
          · have HF := hide (show rightE bs no = 14 by unfold rightE; rw [HP7.out, slotsOk_no (by omega) hno]; rfl)
            clear hno
            go_wp2
            go_ret
            exact ⟨by rw [HF.out]; rfl, HL6.out.alloc HL6.out.size _⟩
          · have HOK := hide (show slotsOk bs (k + 1) = true by unfold slotsOk; rw [hok.out, hyes]; rfl)
            clear hyes
            go_wp2
            go_roundw
            case rel => exact ⟨k + 1, by omega, by go_num, HOK, hide (HL6.out.alloc HL6.out.size _), hide (Blk.alloc HB6.out _)⟩
            case measure => simp [intOf]; omega
        · obtain rfl : k = 7 := by omega
          have HF := hide (show rightE bs no = 0 by unfold rightE; rw [HP7.out, hok.out]; rfl)
          go_wp2
          go_ret
          exact ⟨by rw [HF.out]; rfl, hL.out⟩
end Go.Proofs.YtnanlaefehaifaaGreat
namespace Go.Proofs.YtnanlaefehaifaaGreat
open Go.RowKit
theorem rRight_any (A0 : Option Addr) (c : Nat) (bs : List UInt8) (B : Nat) (w : World) (hB : B ≤ w.heap.size) (hc : 512 ≤ c) (hcm : c ≤ maxLen) (hl : bs.length = 512) (hr : Reads w B 1 A0 512 (bs.map byteV)) (no : Int) :
    Calls Tryz.prog 25 #[.slice A0 512 c, .int .i64 no] w fun e w' => e = .returned (.bool (rightP bs no)) ∧ Below w.heap.size w w' := by
  have HGD := hide (fun (W : World) (hb : Below w.heap.size w W) => rGood_any A0 512 c bs B W (by omega) hl.symm (hr.below hb hB) hc rfl)
  have HNO := hide (fun (W : World) (hb : Below w.heap.size w W) => rNo_any A0 512 c bs B W (by omega) hl.symm (hr.below hb hB) rfl)
  have HSL := hide (fun (i : Nat) (hi : i < 7) (W : World) (hb : Below w.heap.size w W) => pSlotR_any A0 c bs B W (Nat.le_trans hB hb.size) hc hcm hl (hr.below hb hB) i hi)
  have HZ8 := hide (fun W => zeros_any 8 (by omega) W)
  have HZ32 := hide (fun W => zeros_any 32 (by omega) W)
  obtain ⟨b, o, rfl, hbB, _⟩ := hr.plain (by omega) (by omega)
  have HS1 := hide (fun (W : World) (A : Option Addr) (c' : Nat) (hb : Below w.heap.size w W) (h : Reads W W.heap.size 1 A 8 ((List.replicate 8 (0 : UInt8)).map byteV)) => Same_any (some ⟨b, o + 24, none⟩) A 8 (c - 24) 8 c' (cutB bs 24 8) (List.replicate 8 0) W.heap.size W (by
    have h1 := (((hr.below hb hB).more (Nat.le_trans hB hb.size)).cut (k := 24) (cap := c) (by omega) (by omega)).take (k := 8) (by omega)
    rw [if_neg (by omega), Option.map_some, add_plain, Nat.mul_one, Nat.mul_one] at h1
    unfold cutB
    rw [List.map_take, List.map_drop]
    exact h1) h)
  have HS2 := hide (fun (W : World) (A : Option Addr) (c' : Nat) (hb : Below w.heap.size w W) (h : Reads W W.heap.size 1 A 32 ((List.replicate 32 (0 : UInt8)).map byteV)) => Same_any (some ⟨b, o + 480, none⟩) A 32 (c - 480) 32 c' (bs.drop 480) (List.replicate 32 0) W.heap.size W (by
    have h1 := ((hr.below hb hB).more (Nat.le_trans hB hb.size)).cut (k := 480) (cap := c) (by omega) (by omega)
    rw [if_neg (by omega), Option.map_some, add_plain, Nat.mul_one] at h1
    rw [List.map_drop]
    exact h1) h)
  have HP := hide (show rightP bs no = ((numI (cutB bs 0 4) == ((moreR 0 (bs.drop 4) : Nat) : Int)) && ((numI (cutB bs 12 2) == no) && ((cutB bs 24 8 == List.replicate 8 0) && ((bs.drop 480 == List.replicate 32 0) && slotsOk bs 7)))) by
    unfold rightP
    rw [moreD_eq])
  generalize (numI (cutB bs 0 4) == ((moreR 0 (bs.drop 4) : Nat) : Int)) = g at *
  generalize numI (cutB bs 12 2) = v3 at *
  generalize (cutB bs 24 8 == List.replicate 8 0) = s1 at *
  generalize (bs.drop 480 == List.replicate 32 0) = s2 at *
  clear hr hl
  have j1 : (32 : Int) ≤ c := by omega
  have j2 : ¬ (c = 24) := by omega
  have j3 : ¬ (c = 480) := by omega
  have j4 : (480 : Int) ≤ 512 := by omega
  go_enter Tryz.func25, Tryz.ntmps25
  go_upto_region 1 with (fail)
  cases g
  · skip
    refine wp_region_inv [fun v _ => v = .slice (some ⟨b, o, none⟩) 512 c, fun v _ => v = .bool false, fun v _ => v = .bool true, fun v _ => v = .bool true, fun v _ => v = undef, fun v _ => v = undef, fun v _ => v = undef, fun v _ => v = undef, fun v _ => v = .bool true, fun v _ => v = .bool true, fun v _ => v = undef, fun v _ => v = undef, fun v _ => v = undef, fun v _ => v = undef, fun v _ => v = undef, fun v _ => v = .bool true, fun v _ => v = .bool true, fun v _ => v = undef, fun v _ => v = undef, fun v _ => v = undef, fun v _ => v = undef, fun v _ => v = undef, fun v _ => v = .bool true] (by kernel_rfl) (by kernel_rfl) (by kernel_rfl) ?st ?steps ?fin
    case st =>
      intro i v W W' hWW h
      match i with
      | 0 | 1 | 2 | 3 | 4 | 5 | 6 | 7 | 8 | 9 | 10 | 11 | 12 | 13 | 14 | 15 | 16 | 17 | 18 | 19 | 20 | 21 | 22 => exact h
      | (i + 23) => exact h
    case steps =>
      simp only [stepsI]
      refine ⟨?_, ?_, ?_, ?_, ?_, ?_, ?_, ?_, ?_, ?_, ?_, ?_, ?_, ?_, ?_, ?_, ?_, ?_, ?_, ?_, ?_, ?_, ?_, trivial⟩
      · intro f W hbW hdp
        simp only [fS, Nat.reduceAdd]
        go_wp2
        exact ⟨rfl, _, rfl, rfl, Below.refl _ _⟩
      · intro f W hbW hdp
        have e0 : f 0 = .slice (some ⟨b, o, none⟩) 512 c := hdp ⟨0, .data⟩ (mfl (by simp) rfl)
        simp only [fS, Nat.reduceAdd, e0]
        go_wp2_with (go_at_call 67; refine (HGD.out _ hbW).mono ?_; rintro e w' ⟨rfl, hw'⟩; obtain rfl := hw'.symm)
        exact ⟨rfl, _, rfl, rfl, Below.refl _ _⟩
      · intro f W hbW hdp
        have e1 : f 1 = .bool false := hdp ⟨1, .data⟩ (mfl (by simp) rfl)
        simp only [fS, Nat.reduceAdd, e1]
        go_wp2
        exact ⟨rfl, _, rfl, rfl, Below.refl _ _⟩
      · intro f W hbW hdp
        have e2 : f 2 = .bool true := hdp ⟨2, .data⟩ (mfl (by simp) rfl)
        simp only [fS, Nat.reduceAdd, e2]
        go_wp2
        exact ⟨rfl, _, rfl, rfl, Below.refl _ _⟩
      · intro f W hbW hdp
        have e3 : f 3 = .bool true := hdp ⟨3, .guard⟩ (mfl (by simp) rfl)
        simp only [fS, Nat.reduceAdd, e3]
        go_wp2
        exact ⟨rfl, _, rfl, rfl, Below.refl _ _⟩
      · intro f W hbW hdp
        have e3 : f 3 = .bool true := hdp ⟨3, .guard⟩ (mfl (by simp) rfl)
        simp only [fS, Nat.reduceAdd, e3]
        go_wp2
        exact ⟨rfl, _, rfl, rfl, Below.refl _ _⟩
      · intro f W hbW hdp
        have e3 : f 3 = .bool true := hdp ⟨3, .guard⟩ (mfl (by simp) rfl)
        simp only [fS, Nat.reduceAdd, e3]
        go_wp2
        exact ⟨rfl, _, rfl, rfl, Below.refl _ _⟩
      · intro f W hbW hdp
        have e3 : f 3 = .bool true := hdp ⟨3, .guard⟩ (mfl (by simp) rfl)
        simp only [fS, Nat.reduceAdd, e3]
        go_wp2
        exact ⟨rfl, _, rfl, rfl, Below.refl _ _⟩
      · intro f W hbW hdp
        have e3 : f 3 = .bool true := hdp ⟨3, .data⟩ (mfl (by simp) rfl)
        have e7 : f 7 = undef := hdp ⟨7, .data⟩ (mfl (by simp) rfl)
        simp only [fS, Nat.reduceAdd, e3, e7]
        go_wp2
        exact ⟨rfl, _, rfl, rfl, Below.refl _ _⟩
      · intro f W hbW hdp
        have e8 : f 8 = .bool true := hdp ⟨8, .data⟩ (mfl (by simp) rfl)
        simp only [fS, Nat.reduceAdd, e8]
        go_wp2
        exact ⟨rfl, _, rfl, rfl, Below.refl _ _⟩
      · intro f W hbW hdp
        have e9 : f 9 = .bool true := hdp ⟨9, .guard⟩ (mfl (by simp) rfl)
        simp only [fS, Nat.reduceAdd, e9]
        go_wp2
        exact ⟨rfl, _, rfl, rfl, Below.refl _ _⟩
      · intro f W hbW hdp
        have e9 : f 9 = .bool true := hdp ⟨9, .guard⟩ (mfl (by simp) rfl)
        simp only [fS, Nat.reduceAdd, e9]
        go_wp2
        exact ⟨rfl, _, rfl, rfl, Below.refl _ _⟩
      · intro f W hbW hdp
        have e9 : f 9 = .bool true := hdp ⟨9, .guard⟩ (mfl (by simp) rfl)
        simp only [fS, Nat.reduceAdd, e9]
        go_wp2
        exact ⟨rfl, _, rfl, rfl, Below.refl _ _⟩
      · intro f W hbW hdp
        have e9 : f 9 = .bool true := hdp ⟨9, .guard⟩ (mfl (by simp) rfl)
        simp only [fS, Nat.reduceAdd, e9]
        go_wp2
        exact ⟨rfl, _, rfl, rfl, Below.refl _ _⟩
      · intro f W hbW hdp
        have e9 : f 9 = .bool true := hdp ⟨9, .guard⟩ (mfl (by simp) rfl)
        simp only [fS, Nat.reduceAdd, e9]
        go_wp2
        exact ⟨rfl, _, rfl, rfl, Below.refl _ _⟩
      · intro f W hbW hdp
        have e9 : f 9 = .bool true := hdp ⟨9, .data⟩ (mfl (by simp) rfl)
        have e14 : f 14 = undef := hdp ⟨14, .data⟩ (mfl (by simp) rfl)
        simp only [fS, Nat.reduceAdd, e9, e14]
        go_wp2
        exact ⟨rfl, _, rfl, rfl, Below.refl _ _⟩
      · intro f W hbW hdp
        have e15 : f 15 = .bool true := hdp ⟨15, .data⟩ (mfl (by simp) rfl)
        simp only [fS, Nat.reduceAdd, e15]
        go_wp2
        exact ⟨rfl, _, rfl, rfl, Below.refl _ _⟩
      · intro f W hbW hdp
        have e16 : f 16 = .bool true := hdp ⟨16, .guard⟩ (mfl (by simp) rfl)
        simp only [fS, Nat.reduceAdd, e16]
        go_wp2
        exact ⟨rfl, _, rfl, rfl, Below.refl _ _⟩
      · intro f W hbW hdp
        have e16 : f 16 = .bool true := hdp ⟨16, .guard⟩ (mfl (by simp) rfl)
        simp only [fS, Nat.reduceAdd, e16]
        go_wp2
        exact ⟨rfl, _, rfl, rfl, Below.refl _ _⟩
      · intro f W hbW hdp
        have e16 : f 16 = .bool true := hdp ⟨16, .guard⟩ (mfl (by simp) rfl)
        simp only [fS, Nat.reduceAdd, e16]
        go_wp2
        exact ⟨rfl, _, rfl, rfl, Below.refl _ _⟩
      · intro f W hbW hdp
        have e16 : f 16 = .bool true := hdp ⟨16, .guard⟩ (mfl (by simp) rfl)
        simp only [fS, Nat.reduceAdd, e16]
        go_wp2
        exact ⟨rfl, _, rfl, rfl, Below.refl _ _⟩
      · intro f W hbW hdp
        have e16 : f 16 = .bool true := hdp ⟨16, .guard⟩ (mfl (by simp) rfl)
        simp only [fS, Nat.reduceAdd, e16]
        go_wp2
        exact ⟨rfl, _, rfl, rfl, Below.refl _ _⟩
      · intro f W hbW hdp
        have e16 : f 16 = .bool true := hdp ⟨16, .data⟩ (mfl (by simp) rfl)
        have e21 : f 21 = undef := hdp ⟨21, .data⟩ (mfl (by simp) rfl)
        simp only [fS, Nat.reduceAdd, e16, e21]
        go_wp2
        exact ⟨rfl, _, rfl, rfl, Below.refl _ _⟩
    case fin =>
      intro f W hbW hA
      have e22 : f 22 = .bool true := hA 22 (by simp)
      show wpList Tryz.prog #[] (Exit.then _ _) [] _ _
      simp only [fS, Nat.reduceAdd, e22]
      clear hA e22
      have HF := hide (show rightP bs no = false by rw [HP.out]; simp)
      have HL2 := hide hbW
      clear hbW
      go_wp2
      go_ret
      exact ⟨ret_bool HF.out.symm, HL2.out⟩
  cases hc2 : (v3 == no)
  · have hd : (v3 != no) = true := by simp [bne, hc2]
    rw [hc2] at HP
    clear hc2
    refine wp_region_inv [fun v _ => v = .slice (some ⟨b, o, none⟩) 512 c, fun v _ => v = .bool true, fun v _ => v = .bool false, fun v _ => v = .bool false, fun v _ => v = .slice (some ⟨b, o, none⟩) 512 c, fun v _ => v = .int .i64 v3, fun v _ => v = .int .i64 no, fun v _ => v = .bool true, fun v _ => v = .bool true, fun v _ => v = .bool true, fun v _ => v = undef, fun v _ => v = undef, fun v _ => v = undef, fun v _ => v = undef, fun v _ => v = undef, fun v _ => v = .bool true, fun v _ => v = .bool true, fun v _ => v = undef, fun v _ => v = undef, fun v _ => v = undef, fun v _ => v = undef, fun v _ => v = undef, fun v _ => v = .bool true] (by kernel_rfl) (by kernel_rfl) (by kernel_rfl) ?st ?steps ?fin
    case st =>
      intro i v W W' hWW h
      match i with
      | 0 | 1 | 2 | 3 | 4 | 5 | 6 | 7 | 8 | 9 | 10 | 11 | 12 | 13 | 14 | 15 | 16 | 17 | 18 | 19 | 20 | 21 | 22 => exact h
      | (i + 23) => exact h
    case steps =>
      simp only [stepsI]
      refine ⟨?_, ?_, ?_, ?_, ?_, ?_, ?_, ?_, ?_, ?_, ?_, ?_, ?_, ?_, ?_, ?_, ?_, ?_, ?_, ?_, ?_, ?_, ?_, trivial⟩
      · intro f W hbW hdp
        simp only [fS, Nat.reduceAdd]
        go_wp2
        exact ⟨rfl, _, rfl, rfl, Below.refl _ _⟩
      · intro f W hbW hdp
        have e0 : f 0 = .slice (some ⟨b, o, none⟩) 512 c := hdp ⟨0, .data⟩ (mfl (by simp) rfl)
        simp only [fS, Nat.reduceAdd, e0]
        go_wp2_with (go_at_call 67; refine (HGD.out _ hbW).mono ?_; rintro e w' ⟨rfl, hw'⟩; obtain rfl := hw'.symm)
        exact ⟨rfl, _, rfl, rfl, Below.refl _ _⟩
      · intro f W hbW hdp
        have e1 : f 1 = .bool true := hdp ⟨1, .data⟩ (mfl (by simp) rfl)
        simp only [fS, Nat.reduceAdd, e1]
        go_wp2
        exact ⟨rfl, _, rfl, rfl, Below.refl _ _⟩
      · intro f W hbW hdp
        have e2 : f 2 = .bool false := hdp ⟨2, .data⟩ (mfl (by simp) rfl)
        simp only [fS, Nat.reduceAdd, e2]
        go_wp2
        exact ⟨rfl, _, rfl, rfl, Below.refl _ _⟩
      · intro f W hbW hdp
        have e3 : f 3 = .bool false := hdp ⟨3, .guard⟩ (mfl (by simp) rfl)
        simp only [fS, Nat.reduceAdd, e3]
        go_wp2
        exact ⟨rfl, _, rfl, rfl, Below.refl _ _⟩
      · intro f W hbW hdp
        have e3 : f 3 = .bool false := hdp ⟨3, .guard⟩ (mfl (by simp) rfl)
        have e4 : f 4 = .slice (some ⟨b, o, none⟩) 512 c := hdp ⟨4, .data⟩ (mfl (by simp) rfl)
        simp only [fS, Nat.reduceAdd, e3, e4]
        go_wp2_with (go_at_call 68; refine (HNO.out _ hbW).mono ?_; rintro e w' ⟨rfl, hw'⟩; obtain rfl := hw'.symm)
        exact ⟨rfl, _, rfl, rfl, Below.refl _ _⟩
      · intro f W hbW hdp
        have e3 : f 3 = .bool false := hdp ⟨3, .guard⟩ (mfl (by simp) rfl)
        simp only [fS, Nat.reduceAdd, e3]
        go_wp2
        exact ⟨rfl, _, rfl, rfl, Below.refl _ _⟩
      · intro f W hbW hdp
        have e3 : f 3 = .bool false := hdp ⟨3, .guard⟩ (mfl (by simp) rfl)
        have e5 : f 5 = .int .i64 v3 := hdp ⟨5, .data⟩ (mfl (by simp) rfl)
        have e6 : f 6 = .int .i64 no := hdp ⟨6, .data⟩ (mfl (by simp) rfl)
        simp only [fS, Nat.reduceAdd, e3, e5, e6]
        go_wp2
        exact ⟨rfl, _, rfl, rfl, Below.refl _ _⟩
      · intro f W hbW hdp
        have e3 : f 3 = .bool false := hdp ⟨3, .data⟩ (mfl (by simp) rfl)
        have e7 : f 7 = .bool true := hdp ⟨7, .data⟩ (mfl (by simp) rfl)
        simp only [fS, Nat.reduceAdd, e3, e7]
        go_wp2
        exact ⟨rfl, _, rfl, rfl, Below.refl _ _⟩
      · intro f W hbW hdp
        have e8 : f 8 = .bool true := hdp ⟨8, .data⟩ (mfl (by simp) rfl)
        simp only [fS, Nat.reduceAdd, e8]
        go_wp2
        exact ⟨rfl, _, rfl, rfl, Below.refl _ _⟩
      · intro f W hbW hdp
        have e9 : f 9 = .bool true := hdp ⟨9, .guard⟩ (mfl (by simp) rfl)
        simp only [fS, Nat.reduceAdd, e9]
        go_wp2
        exact ⟨rfl, _, rfl, rfl, Below.refl _ _⟩
      · intro f W hbW hdp
        have e9 : f 9 = .bool true := hdp ⟨9, .guard⟩ (mfl (by simp) rfl)
        simp only [fS, Nat.reduceAdd, e9]
        go_wp2
        exact ⟨rfl, _, rfl, rfl, Below.refl _ _⟩
      · intro f W hbW hdp
        have e9 : f 9 = .bool true := hdp ⟨9, .guard⟩ (mfl (by simp) rfl)
        simp only [fS, Nat.reduceAdd, e9]
        go_wp2
        exact ⟨rfl, _, rfl, rfl, Below.refl _ _⟩
      · intro f W hbW hdp
        have e9 : f 9 = .bool true := hdp ⟨9, .guard⟩ (mfl (by simp) rfl)
        simp only [fS, Nat.reduceAdd, e9]
        go_wp2
        exact ⟨rfl, _, rfl, rfl, Below.refl _ _⟩
      · intro f W hbW hdp
        have e9 : f 9 = .bool true := hdp ⟨9, .guard⟩ (mfl (by simp) rfl)
        simp only [fS, Nat.reduceAdd, e9]
        go_wp2
        exact ⟨rfl, _, rfl, rfl, Below.refl _ _⟩
      · intro f W hbW hdp
        have e9 : f 9 = .bool true := hdp ⟨9, .data⟩ (mfl (by simp) rfl)
        have e14 : f 14 = undef := hdp ⟨14, .data⟩ (mfl (by simp) rfl)
        simp only [fS, Nat.reduceAdd, e9, e14]
        go_wp2
        exact ⟨rfl, _, rfl, rfl, Below.refl _ _⟩
      · intro f W hbW hdp
        have e15 : f 15 = .bool true := hdp ⟨15, .data⟩ (mfl (by simp) rfl)
        simp only [fS, Nat.reduceAdd, e15]
        go_wp2
        exact ⟨rfl, _, rfl, rfl, Below.refl _ _⟩
      · intro f W hbW hdp
        have e16 : f 16 = .bool true := hdp ⟨16, .guard⟩ (mfl (by simp) rfl)
        simp only [fS, Nat.reduceAdd, e16]
        go_wp2
        exact ⟨rfl, _, rfl, rfl, Below.refl _ _⟩
      · intro f W hbW hdp
        have e16 : f 16 = .bool true := hdp ⟨16, .guard⟩ (mfl (by simp) rfl)
        simp only [fS, Nat.reduceAdd, e16]
        go_wp2
        exact ⟨rfl, _, rfl, rfl, Below.refl _ _⟩
      · intro f W hbW hdp
        have e16 : f 16 = .bool true := hdp ⟨16, .guard⟩ (mfl (by simp) rfl)
        simp only [fS, Nat.reduceAdd, e16]
        go_wp2
        exact ⟨rfl, _, rfl, rfl, Below.refl _ _⟩
      · intro f W hbW hdp
        have e16 : f 16 = .bool true := hdp ⟨16, .guard⟩ (mfl (by simp) rfl)
        simp only [fS, Nat.reduceAdd, e16]
        go_wp2
        exact ⟨rfl, _, rfl, rfl, Below.refl _ _⟩
      · intro f W hbW hdp
        have e16 : f 16 = .bool true := hdp ⟨16, .guard⟩ (mfl (by simp) rfl)
        simp only [fS, Nat.reduceAdd, e16]
        go_wp2
        exact ⟨rfl, _, rfl, rfl, Below.refl _ _⟩
      · intro f W hbW hdp
        have e16 : f 16 = .bool true := hdp ⟨16, .data⟩ (mfl (by simp) rfl)
        have e21 : f 21 = undef := hdp ⟨21, .data⟩ (mfl (by simp) rfl)
        simp only [fS, Nat.reduceAdd, e16, e21]
        go_wp2
        exact ⟨rfl, _, rfl, rfl, Below.refl _ _⟩
    case fin =>
      intro f W hbW hA
      have e22 : f 22 = .bool true := hA 22 (by simp)
      show wpList Tryz.prog #[] (Exit.then _ _) [] _ _
      simp only [fS, Nat.reduceAdd, e22]
      clear hA e22
      have HF := hide (show rightP bs no = false by rw [HP.out]; simp)
      have HL2 := hide hbW
      clear hbW
      go_wp2
      go_ret
      exact ⟨ret_bool HF.out.symm, HL2.out⟩
  have hd : (v3 != no) = false := by simp [bne, hc2]
  rw [hc2] at HP
  clear hc2
  cases s1
  · skip
    refine wp_region_inv [fun v _ => v = .slice (some ⟨b, o, none⟩) 512 c, fun v _ => v = .bool true, fun v _ => v = .bool false, fun v _ => v = .bool false, fun v _ => v = .slice (some ⟨b, o, none⟩) 512 c, fun v _ => v = .int .i64 v3, fun v _ => v = .int .i64 no, fun v _ => v = .bool false, fun v _ => v = .bool false, fun v _ => v = .bool false, fun v _ => v = .slice (some ⟨b, o, none⟩) 512 c, fun v _ => v = .slice (some ⟨b, o + 24, none⟩) 8 (c - 24), fun v W => ∃ A c', v = .slice A 8 c' ∧ Reads W W.heap.size 1 A 8 ((List.replicate 8 (0 : UInt8)).map byteV), fun v _ => v = .bool false, fun v _ => v = .bool true, fun v _ => v = .bool true, fun v _ => v = .bool true, fun v _ => v = undef, fun v _ => v = undef, fun v _ => v = undef, fun v _ => v = undef, fun v _ => v = undef, fun v _ => v = .bool true] (by kernel_rfl) (by kernel_rfl) (by kernel_rfl) ?st ?steps ?fin
    case st =>
      intro i v W W' hWW h
      match i with
      | 0 | 1 | 2 | 3 | 4 | 5 | 6 | 7 | 8 | 9 | 10 | 11 | 13 | 14 | 15 | 16 | 17 | 18 | 19 | 20 | 21 | 22 => exact h
      | 12 => obtain ⟨A, c', h1, h2⟩ := h; exact ⟨A, c', h1, (h2.below hWW (Nat.le_refl _)).more hWW.size⟩
      | (i + 23) => exact h
    case steps =>
      simp only [stepsI]
      refine ⟨?_, ?_, ?_, ?_, ?_, ?_, ?_, ?_, ?_, ?_, ?_, ?_, ?_, ?_, ?_, ?_, ?_, ?_, ?_, ?_, ?_, ?_, ?_, trivial⟩
      · intro f W hbW hdp
        simp only [fS, Nat.reduceAdd]
        go_wp2
        exact ⟨rfl, _, rfl, rfl, Below.refl _ _⟩
      · intro f W hbW hdp
        have e0 : f 0 = .slice (some ⟨b, o, none⟩) 512 c := hdp ⟨0, .data⟩ (mfl (by simp) rfl)
        simp only [fS, Nat.reduceAdd, e0]
        go_wp2_with (go_at_call 67; refine (HGD.out _ hbW).mono ?_; rintro e w' ⟨rfl, hw'⟩; obtain rfl := hw'.symm)
        exact ⟨rfl, _, rfl, rfl, Below.refl _ _⟩
      · intro f W hbW hdp
        have e1 : f 1 = .bool true := hdp ⟨1, .data⟩ (mfl (by simp) rfl)
        simp only [fS, Nat.reduceAdd, e1]
        go_wp2
        exact ⟨rfl, _, rfl, rfl, Below.refl _ _⟩
      · intro f W hbW hdp
        have e2 : f 2 = .bool false := hdp ⟨2, .data⟩ (mfl (by simp) rfl)
        simp only [fS, Nat.reduceAdd, e2]
        go_wp2
        exact ⟨rfl, _, rfl, rfl, Below.refl _ _⟩
      · intro f W hbW hdp
        have e3 : f 3 = .bool false := hdp ⟨3, .guard⟩ (mfl (by simp) rfl)
        simp only [fS, Nat.reduceAdd, e3]
        go_wp2
        exact ⟨rfl, _, rfl, rfl, Below.refl _ _⟩
      · intro f W hbW hdp
        have e3 : f 3 = .bool false := hdp ⟨3, .guard⟩ (mfl (by simp) rfl)
        have e4 : f 4 = .slice (some ⟨b, o, none⟩) 512 c := hdp ⟨4, .data⟩ (mfl (by simp) rfl)
        simp only [fS, Nat.reduceAdd, e3, e4]
        go_wp2_with (go_at_call 68; refine (HNO.out _ hbW).mono ?_; rintro e w' ⟨rfl, hw'⟩; obtain rfl := hw'.symm)
        exact ⟨rfl, _, rfl, rfl, Below.refl _ _⟩
      · intro f W hbW hdp
        have e3 : f 3 = .bool false := hdp ⟨3, .guard⟩ (mfl (by simp) rfl)
        simp only [fS, Nat.reduceAdd, e3]
        go_wp2
        exact ⟨rfl, _, rfl, rfl, Below.refl _ _⟩
      · intro f W hbW hdp
        have e3 : f 3 = .bool false := hdp ⟨3, .guard⟩ (mfl (by simp) rfl)
        have e5 : f 5 = .int .i64 v3 := hdp ⟨5, .data⟩ (mfl (by simp) rfl)
        have e6 : f 6 = .int .i64 no := hdp ⟨6, .data⟩ (mfl (by simp) rfl)
        simp only [fS, Nat.reduceAdd, e3, e5, e6]
        go_wp2
        exact ⟨rfl, _, rfl, rfl, Below.refl _ _⟩
      · intro f W hbW hdp
        have e3 : f 3 = .bool false := hdp ⟨3, .data⟩ (mfl (by simp) rfl)
        have e7 : f 7 = .bool false := hdp ⟨7, .data⟩ (mfl (by simp) rfl)
        simp only [fS, Nat.reduceAdd, e3, e7]
        go_wp2
        exact ⟨rfl, _, rfl, rfl, Below.refl _ _⟩
      · intro f W hbW hdp
        have e8 : f 8 = .bool false := hdp ⟨8, .data⟩ (mfl (by simp) rfl)
        simp only [fS, Nat.reduceAdd, e8]
        go_wp2
        exact ⟨rfl, _, rfl, rfl, Below.refl _ _⟩
      · intro f W hbW hdp
        have e9 : f 9 = .bool false := hdp ⟨9, .guard⟩ (mfl (by simp) rfl)
        simp only [fS, Nat.reduceAdd, e9]
        go_wp2
        exact ⟨rfl, _, rfl, rfl, Below.refl _ _⟩
      · intro f W hbW hdp
        have e9 : f 9 = .bool false := hdp ⟨9, .guard⟩ (mfl (by simp) rfl)
        have e10 : f 10 = .slice (some ⟨b, o, none⟩) 512 c := hdp ⟨10, .data⟩ (mfl (by simp) rfl)
        simp only [fS, Nat.reduceAdd, e9, e10]
        go_wp2
        exact ⟨rfl, _, rfl, rfl, Below.refl _ _⟩
      · intro f W hbW hdp
        have e9 : f 9 = .bool false := hdp ⟨9, .guard⟩ (mfl (by simp) rfl)
        simp only [fS, Nat.reduceAdd, e9]
        go_wp2_with (go_at_call 70; refine (HZ8.out _).mono ?_; rintro e w' ⟨⟨A, c', rfl, ho'⟩, hb'⟩)
        exact ⟨rfl, _, rfl, ⟨A, c', rfl, ho'.reads.2⟩, hb'⟩
      · intro f W hbW hdp
        have e9 : f 9 = .bool false := hdp ⟨9, .guard⟩ (mfl (by simp) rfl)
        have e11 : f 11 = .slice (some ⟨b, o + 24, none⟩) 8 (c - 24) := hdp ⟨11, .data⟩ (mfl (by simp) rfl)
        have e12 : ∃ A c', (f 12) = .slice A 8 c' ∧ Reads W W.heap.size 1 A 8 ((List.replicate 8 (0 : UInt8)).map byteV) := hdp ⟨12, .data⟩ (mfl (by simp) rfl)
        simp only [fS, Nat.reduceAdd, e9, e11]
        obtain ⟨A, c', ez, hz⟩ := e12
        have HSM := hide (HS1.out W A c' hbW hz)
        clear hz
        simp only [ez]
        go_wp2_with (go_at_call 69; refine HSM.out.mono ?_; rintro e w' ⟨rfl, hw'⟩; obtain rfl := hw'.symm)
        exact ⟨rfl, _, rfl, rfl, Below.refl _ _⟩
      · intro f W hbW hdp
        have e9 : f 9 = .bool false := hdp ⟨9, .guard⟩ (mfl (by simp) rfl)
        have e13 : f 13 = .bool false := hdp ⟨13, .data⟩ (mfl (by simp) rfl)
        simp only [fS, Nat.reduceAdd, e9, e13]
        go_wp2
        exact ⟨rfl, _, rfl, rfl, Below.refl _ _⟩
      · intro f W hbW hdp
        have e9 : f 9 = .bool false := hdp ⟨9, .data⟩ (mfl (by simp) rfl)
        have e14 : f 14 = .bool true := hdp ⟨14, .data⟩ (mfl (by simp) rfl)
        simp only [fS, Nat.reduceAdd, e9, e14]
        go_wp2
        exact ⟨rfl, _, rfl, rfl, Below.refl _ _⟩
      · intro f W hbW hdp
        have e15 : f 15 = .bool true := hdp ⟨15, .data⟩ (mfl (by simp) rfl)
        simp only [fS, Nat.reduceAdd, e15]
        go_wp2
        exact ⟨rfl, _, rfl, rfl, Below.refl _ _⟩
      · intro f W hbW hdp
        have e16 : f 16 = .bool true := hdp ⟨16, .guard⟩ (mfl (by simp) rfl)
        simp only [fS, Nat.reduceAdd, e16]
        go_wp2
        exact ⟨rfl, _, rfl, rfl, Below.refl _ _⟩
      · intro f W hbW hdp
        have e16 : f 16 = .bool true := hdp ⟨16, .guard⟩ (mfl (by simp) rfl)
        simp only [fS, Nat.reduceAdd, e16]
        go_wp2
        exact ⟨rfl, _, rfl, rfl, Below.refl _ _⟩
      · intro f W hbW hdp
        have e16 : f 16 = .bool true := hdp ⟨16, .guard⟩ (mfl (by simp) rfl)
        simp only [fS, Nat.reduceAdd, e16]
        go_wp2
        exact ⟨rfl, _, rfl, rfl, Below.refl _ _⟩
      · intro f W hbW hdp
        have e16 : f 16 = .bool true := hdp ⟨16, .guard⟩ (mfl (by simp) rfl)
        simp only [fS, Nat.reduceAdd, e16]
        go_wp2
        exact ⟨rfl, _, rfl, rfl, Below.refl _ _⟩
      · intro f W hbW hdp
        have e16 : f 16 = .bool true := hdp ⟨16, .guard⟩ (mfl (by simp) rfl)
        simp only [fS, Nat.reduceAdd, e16]
        go_wp2
        exact ⟨rfl, _, rfl, rfl, Below.refl _ _⟩
      · intro f W hbW hdp
        have e16 : f 16 = .bool true := hdp ⟨16, .data⟩ (mfl (by simp) rfl)
        have e21 : f 21 = undef := hdp ⟨21, .data⟩ (mfl (by simp) rfl)
        simp only [fS, Nat.reduceAdd, e16, e21]
        go_wp2
        exact ⟨rfl, _, rfl, rfl, Below.refl _ _⟩
    case fin =>
      intro f W hbW hA
      have e22 : f 22 = .bool true := hA 22 (by simp)
      show wpList Tryz.prog #[] (Exit.then _ _) [] _ _
      simp only [fS, Nat.reduceAdd, e22]
      clear hA e22
      have HF := hide (show rightP bs no = false by rw [HP.out]; simp)
      have HL2 := hide hbW
      clear hbW
      go_wp2
      go_ret
      exact ⟨ret_bool HF.out.symm, HL2.out⟩
  refine wp_region_inv [fun v _ => v = .slice (some ⟨b, o, none⟩) 512 c, fun v _ => v = .bool true, fun v _ => v = .bool false, fun v _ => v = .bool false, fun v _ => v = .slice (some ⟨b, o, none⟩) 512 c, fun v _ => v = .int .i64 v3, fun v _ => v = .int .i64 no, fun v _ => v = .bool false, fun v _ => v = .bool false, fun v _ => v = .bool false, fun v _ => v = .slice (some ⟨b, o, none⟩) 512 c, fun v _ => v = .slice (some ⟨b, o + 24, none⟩) 8 (c - 24), fun v W => ∃ A c', v = .slice A 8 c' ∧ Reads W W.heap.size 1 A 8 ((List.replicate 8 (0 : UInt8)).map byteV), fun v _ => v = .bool true, fun v _ => v = .bool false, fun v _ => v = .bool false, fun v _ => v = .bool false, fun v _ => v = .slice (some ⟨b, o, none⟩) 512 c, fun v _ => v = .slice (some ⟨b, o + 480, none⟩) 32 (c - 480), fun v W => ∃ A c', v = .slice A 32 c' ∧ Reads W W.heap.size 1 A 32 ((List.replicate 32 (0 : UInt8)).map byteV), fun v _ => v = .bool s2, fun v _ => v = .bool (!s2), fun v _ => v = .bool (!s2)] (by kernel_rfl) (by kernel_rfl) (by kernel_rfl) ?st ?steps ?fin
  case st =>
    intro i v W W' hWW h
    match i with
    | 0 | 1 | 2 | 3 | 4 | 5 | 6 | 7 | 8 | 9 | 10 | 11 | 13 | 14 | 15 | 16 | 17 | 18 | 20 | 21 | 22 => exact h
    | 12 => obtain ⟨A, c', h1, h2⟩ := h; exact ⟨A, c', h1, (h2.below hWW (Nat.le_refl _)).more hWW.size⟩
    | 19 => obtain ⟨A, c', h1, h2⟩ := h; exact ⟨A, c', h1, (h2.below hWW (Nat.le_refl _)).more hWW.size⟩
    | (i + 23) => exact h
  case steps =>
    simp only [stepsI]
    refine ⟨?_, ?_, ?_, ?_, ?_, ?_, ?_, ?_, ?_, ?_, ?_, ?_, ?_, ?_, ?_, ?_, ?_, ?_, ?_, ?_, ?_, ?_, ?_, trivial⟩
    · intro f W hbW hdp
      simp only [fS, Nat.reduceAdd]
      go_wp2
      exact ⟨rfl, _, rfl, rfl, Below.refl _ _⟩
    · intro f W hbW hdp
      have e0 : f 0 = .slice (some ⟨b, o, none⟩) 512 c := hdp ⟨0, .data⟩ (mfl (by simp) rfl)
      simp only [fS, Nat.reduceAdd, e0]
      go_wp2_with (go_at_call 67; refine (HGD.out _ hbW).mono ?_; rintro e w' ⟨rfl, hw'⟩; obtain rfl := hw'.symm)
      exact ⟨rfl, _, rfl, rfl, Below.refl _ _⟩
    · intro f W hbW hdp
      have e1 : f 1 = .bool true := hdp ⟨1, .data⟩ (mfl (by simp) rfl)
      simp only [fS, Nat.reduceAdd, e1]
      go_wp2
      exact ⟨rfl, _, rfl, rfl, Below.refl _ _⟩
    · intro f W hbW hdp
      have e2 : f 2 = .bool false := hdp ⟨2, .data⟩ (mfl (by simp) rfl)
      simp only [fS, Nat.reduceAdd, e2]
      go_wp2
      exact ⟨rfl, _, rfl, rfl, Below.refl _ _⟩
    · intro f W hbW hdp
      have e3 : f 3 = .bool false := hdp ⟨3, .guard⟩ (mfl (by simp) rfl)
      simp only [fS, Nat.reduceAdd, e3]
      go_wp2
      exact ⟨rfl, _, rfl, rfl, Below.refl _ _⟩
    · intro f W hbW hdp
      have e3 : f 3 = .bool false := hdp ⟨3, .guard⟩ (mfl (by simp) rfl)
      have e4 : f 4 = .slice (some ⟨b, o, none⟩) 512 c := hdp ⟨4, .data⟩ (mfl (by simp) rfl)
      simp only [fS, Nat.reduceAdd, e3, e4]
      go_wp2_with (go_at_call 68; refine (HNO.out _ hbW).mono ?_; rintro e w' ⟨rfl, hw'⟩; obtain rfl := hw'.symm)
      exact ⟨rfl, _, rfl, rfl, Below.refl _ _⟩
    · intro f W hbW hdp
      have e3 : f 3 = .bool false := hdp ⟨3, .guard⟩ (mfl (by simp) rfl)
      simp only [fS, Nat.reduceAdd, e3]
      go_wp2
      exact ⟨rfl, _, rfl, rfl, Below.refl _ _⟩
    · intro f W hbW hdp
      have e3 : f 3 = .bool false := hdp ⟨3, .guard⟩ (mfl (by simp) rfl)
      have e5 : f 5 = .int .i64 v3 := hdp ⟨5, .data⟩ (mfl (by simp) rfl)
      have e6 : f 6 = .int .i64 no := hdp ⟨6, .data⟩ (mfl (by simp) rfl)
      simp only [fS, Nat.reduceAdd, e3, e5, e6]
      go_wp2
      exact ⟨rfl, _, rfl, rfl, Below.refl _ _⟩
    · intro f W hbW hdp
      have e3 : f 3 = .bool false := hdp ⟨3, .data⟩ (mfl (by simp) rfl)
      have e7 : f 7 = .bool false := hdp ⟨7, .data⟩ (mfl (by simp) rfl)
      simp only [fS, Nat.reduceAdd, e3, e7]
      go_wp2
      exact ⟨rfl, _, rfl, rfl, Below.refl _ _⟩
    · intro f W hbW hdp
      have e8 : f 8 = .bool false := hdp ⟨8, .data⟩ (mfl (by simp) rfl)
      simp only [fS, Nat.reduceAdd, e8]
      go_wp2
      exact ⟨rfl, _, rfl, rfl, Below.refl _ _⟩
    · intro f W hbW hdp
      have e9 : f 9 = .bool false := hdp ⟨9, .guard⟩ (mfl (by simp) rfl)
      simp only [fS, Nat.reduceAdd, e9]
      go_wp2
      exact ⟨rfl, _, rfl, rfl, Below.refl _ _⟩
    · intro f W hbW hdp
      have e9 : f 9 = .bool false := hdp ⟨9, .guard⟩ (mfl (by simp) rfl)
      have e10 : f 10 = .slice (some ⟨b, o, none⟩) 512 c := hdp ⟨10, .data⟩ (mfl (by simp) rfl)
      simp only [fS, Nat.reduceAdd, e9, e10]
      go_wp2
      exact ⟨rfl, _, rfl, rfl, Below.refl _ _⟩
    · intro f W hbW hdp
      have e9 : f 9 = .bool false := hdp ⟨9, .guard⟩ (mfl (by simp) rfl)
      simp only [fS, Nat.reduceAdd, e9]
      go_wp2_with (go_at_call 70; refine (HZ8.out _).mono ?_; rintro e w' ⟨⟨A, c', rfl, ho'⟩, hb'⟩)
      exact ⟨rfl, _, rfl, ⟨A, c', rfl, ho'.reads.2⟩, hb'⟩
    · intro f W hbW hdp
      have e9 : f 9 = .bool false := hdp ⟨9, .guard⟩ (mfl (by simp) rfl)
      have e11 : f 11 = .slice (some ⟨b, o + 24, none⟩) 8 (c - 24) := hdp ⟨11, .data⟩ (mfl (by simp) rfl)
      have e12 : ∃ A c', (f 12) = .slice A 8 c' ∧ Reads W W.heap.size 1 A 8 ((List.replicate 8 (0 : UInt8)).map byteV) := hdp ⟨12, .data⟩ (mfl (by simp) rfl)
      simp only [fS, Nat.reduceAdd, e9, e11]
      obtain ⟨A, c', ez, hz⟩ := e12
      have HSM := hide (HS1.out W A c' hbW hz)
      clear hz
      simp only [ez]
      go_wp2_with (go_at_call 69; refine HSM.out.mono ?_; rintro e w' ⟨rfl, hw'⟩; obtain rfl := hw'.symm)
      exact ⟨rfl, _, rfl, rfl, Below.refl _ _⟩
    · intro f W hbW hdp
      have e9 : f 9 = .bool false := hdp ⟨9, .guard⟩ (mfl (by simp) rfl)
      have e13 : f 13 = .bool true := hdp ⟨13, .data⟩ (mfl (by simp) rfl)
      simp only [fS, Nat.reduceAdd, e9, e13]
      go_wp2
      exact ⟨rfl, _, rfl, rfl, Below.refl _ _⟩
    · intro f W hbW hdp
      have e9 : f 9 = .bool false := hdp ⟨9, .data⟩ (mfl (by simp) rfl)
      have e14 : f 14 = .bool false := hdp ⟨14, .data⟩ (mfl (by simp) rfl)
      simp only [fS, Nat.reduceAdd, e9, e14]
      go_wp2
      exact ⟨rfl, _, rfl, rfl, Below.refl _ _⟩
    · intro f W hbW hdp
      have e15 : f 15 = .bool false := hdp ⟨15, .data⟩ (mfl (by simp) rfl)
      simp only [fS, Nat.reduceAdd, e15]
      go_wp2
      exact ⟨rfl, _, rfl, rfl, Below.refl _ _⟩
    · intro f W hbW hdp
      have e16 : f 16 = .bool false := hdp ⟨16, .guard⟩ (mfl (by simp) rfl)
      simp only [fS, Nat.reduceAdd, e16]
      go_wp2
      exact ⟨rfl, _, rfl, rfl, Below.refl _ _⟩
    · intro f W hbW hdp
      have e16 : f 16 = .bool false := hdp ⟨16, .guard⟩ (mfl (by simp) rfl)
      have e17 : f 17 = .slice (some ⟨b, o, none⟩) 512 c := hdp ⟨17, .data⟩ (mfl (by simp) rfl)
      simp only [fS, Nat.reduceAdd, e16, e17]
      go_wp2
      exact ⟨rfl, _, rfl, rfl, Below.refl _ _⟩
    · intro f W hbW hdp
      have e16 : f 16 = .bool false := hdp ⟨16, .guard⟩ (mfl (by simp) rfl)
      simp only [fS, Nat.reduceAdd, e16]
      go_wp2_with (go_at_call 70; refine (HZ32.out _).mono ?_; rintro e w' ⟨⟨A, c', rfl, ho'⟩, hb'⟩)
      exact ⟨rfl, _, rfl, ⟨A, c', rfl, ho'.reads.2⟩, hb'⟩
    · intro f W hbW hdp
      have e16 : f 16 = .bool false := hdp ⟨16, .guard⟩ (mfl (by simp) rfl)
      have e18 : f 18 = .slice (some ⟨b, o + 480, none⟩) 32 (c - 480) := hdp ⟨18, .data⟩ (mfl (by simp) rfl)
      have e19 : ∃ A c', (f 19) = .slice A 32 c' ∧ Reads W W.heap.size 1 A 32 ((List.replicate 32 (0 : UInt8)).map byteV) := hdp ⟨19, .data⟩ (mfl (by simp) rfl)
      simp only [fS, Nat.reduceAdd, e16, e18]
      obtain ⟨A, c', ez, hz⟩ := e19
      have HSM := hide (HS2.out W A c' hbW hz)
      clear hz
      simp only [ez]
      go_wp2_with (go_at_call 69; refine HSM.out.mono ?_; rintro e w' ⟨rfl, hw'⟩; obtain rfl := hw'.symm)
      exact ⟨rfl, _, rfl, rfl, Below.refl _ _⟩
    · intro f W hbW hdp
      have e16 : f 16 = .bool false := hdp ⟨16, .guard⟩ (mfl (by simp) rfl)
      have e20 : f 20 = .bool s2 := hdp ⟨20, .data⟩ (mfl (by simp) rfl)
      simp only [fS, Nat.reduceAdd, e16, e20]
      go_wp2
      exact ⟨rfl, _, rfl, rfl, Below.refl _ _⟩
    · intro f W hbW hdp
      have e16 : f 16 = .bool false := hdp ⟨16, .data⟩ (mfl (by simp) rfl)
      have e21 : f 21 = .bool (!s2) := hdp ⟨21, .data⟩ (mfl (by simp) rfl)
      simp only [fS, Nat.reduceAdd, e16, e21]
      go_wp2
      exact ⟨rfl, _, rfl, rfl, Below.refl _ _⟩
  case fin =>
    intro f W hbW hA
    have e22 : f 22 = .bool (!s2) := hA 22 (by simp)
    show wpList Tryz.prog #[] (Exit.then _ _) [] _ _
    simp only [fS, Nat.reduceAdd, e22]
    clear hA e22
    cases s2
    · have HF := hide (show rightP bs no = false by rw [HP.out]; simp)
      have HL2 := hide hbW
      clear hbW
      go_wp2
      go_ret
      exact ⟨ret_bool HF.out.symm, HL2.out⟩
    have HP7 := hide (show rightP bs no = slotsOk bs 7 by rw [HP.out]; simp)
    have HL2 := hide hbW
    clear hbW hd
    go_wp2
    go_loopw [5] (fun iv wr => ∃ k : Nat, k ≤ 7 ∧ iv = .int .i64 k ∧ Hid (slotsOk bs k = true) ∧ Hid (Below w.heap.size w wr)) (fun iv _ => 7 - (intOf iv).toNat)
    case atStart => exact ⟨0, by omega, rfl, hide rfl, HL2⟩
    case round =>
      obtain ⟨k, hk, rfl, hok, hL⟩ := hrel
      by_cases hlt : (k : Int) < 7
      · have HSI := hide (HSL.out k (by omega) wr hL.out)
        go_wp2_with fail
        refine HSI.out.mono ?_
        rintro e W6 hP
        obtain ⟨x, A, n, cc, er, rfl, hby, hor⟩ := slotGP_one hP
        have hl6 : Below w.heap.size w W6 := hL.out.trans (hP.2.mono hL.out.size)
        have HL6 := hide hl6
        obtain ⟨xs, xk, d1, d2, d3, d4, d5⟩ := x
        unfold itemC at *
        dsimp only at *
        have hz6 := hl6.size
        clear hP hby hl6
        rcases hor with ⟨hno, _, _, _, _, rfl⟩ | ⟨hyes, rfl⟩
        · have HF := hide (show rightP bs no = false by rw [HP7.out, slotsOk_no (by omega) hno])
          clear hno
          go_wp2
          go_ret
          exact ⟨ret_bool HF.out.symm, HL6.out.alloc HL6.out.size _⟩
        · have HOK := hide (show slotsOk bs (k + 1) = true by unfold slotsOk; rw [hok.out, hyes]; rfl)
          clear hyes
          go_wp2
          go_roundw
          case rel => exact ⟨k + 1, by omega, by go_num, HOK, hide (HL6.out.alloc HL6.out.size _)⟩
          case measure => simp [intOf]; omega
      · obtain rfl : k = 7 := by omega
        have HF := hide (show rightP bs no = true by rw [HP7.out, hok.out])
        go_wp2
        go_ret
        exact ⟨ret_bool HF.out.symm, hL.out⟩
end Go.Proofs.YtnanlaefehaifaaGreat
