/-
  WALK: moneyerref09.Same, of two lists that read alike.
  THE LAW's WALK: moneyerlaw34.SerialReplays returns true, whatever it is given.
-/
import Derived.Test.YteidmdnhkgcnoaaGreatMem
import Derived.Test.YteidmdnhkgcnoaaGreatWC
import Derived.Test.YteidmdnhkgcnoaaGreatQin
import Derived.Test.YteidmdnhkgcnoaaGreatWJ
import Derived.Test.YteidmdnhkgcnoaaGreatWE
import Derived.Test.YteidmdnhkgcnoaaGreatMA
import Derived.Test.YteidmdnhkgcnoaaGreatMC
import Derived.Test.YteidmdnhkgcnoaaGreatPQ
namespace Go.Proofs.YteidmdnhkgcnoaaGreat
open Go.RowKit BigFrame

set_option maxHeartbeats 3200000 in
set_option maxRecDepth 100000 in
theorem mSame_true (A A' : Option Addr) (n c c' : Nat) (xs ys : List PairV) (B : Nat) (w : World) (hB : B ≤ w.heap.size) (hn : n ≤ 1000000) (hx : Pairs w B A n xs) (hy : Pairs w B A' n ys) (hxy : xs.map PairV.d = ys.map PairV.d) :
    Calls Tryz.prog 12 #[.slice A n c, .slice A' n c'] w fun e w' => e = .returned (.bool true) ∧ Below w.heap.size w w' := by
  have HL := hide hx.1
  have HXY := hide hxy
  clear hxy
  go_enter Tryz.func12, Tryz.ntmps12
  go_wp2
  go_loopw [5] (fun i wr => ∃ k : Nat, k ≤ n ∧ i = .int .i64 k ∧ Below w.heap.size w wr) (fun i _ => n - (intOf i).toNat)
  case atStart => exact ⟨0, Nat.zero_le _, rfl, Below.refl _ _⟩
  case round =>
    obtain ⟨k, hk, rfl, hbw⟩ := hrel
    have hP := hx.below hbw hB
    have hQ := hy.below hbw hB
    have hwz := hbw.size
    by_cases hlt : k < n
    · obtain ⟨b, o, x, rfl, hb, hkx, hok, _⟩ := hP.at_ hlt
      obtain ⟨b', o', y, rfl, hb', hky, hok', _⟩ := hQ.at_ hlt
      have hd : y.d = x.d := by
        have h1 := congrArg (fun l => l[k]?) HXY.out
        simp only [List.getElem?_map, hkx, hky, Option.map_some, Option.some.injEq] at h1
        exact h1.symm
      have hBz : B ≤ wr.heap.size := Nat.le_trans hB hwz
      have r1 := fun (t : In (Below wr.heap.size wr)) => (hP.below t.h hBz).row hkx
      have r2 := fun (t : In (Below wr.heap.size wr)) => (hQ.below t.h hBz).row hky
      rw [hd] at r2
      have hok2 : BytesAt wr B y.cv x.d.cell.data := by rw [← hd]; exact hok'
      have hok1 : BytesAt wr B x.cv x.d.cell.data := hok
      clear hok hok' hd hkx hky
      obtain ⟨⟨ky, cd⟩, cv⟩ := x
      obtain ⟨dy, cv'⟩ := y
      dsimp only at *
      have ce : cellEq cd cd = true := by simp [cellEq]
      have HS := hide (fun (t : In (Below wr.heap.size wr)) => ce ▸ rSame_any cd cd cv cv' B t.w (Nat.le_trans hBz t.h.size) (hok1.below t.h hBz) (hok2.below t.h hBz))
      clear ce
      have p0 := fun t => (r1 t).1
      have p1 := fun t => (r1 t).2.1
      have p2 := fun t => (r1 t).2.2.1
      have p3 := fun t => (r1 t).2.2.2.1
      have p4 := fun t => (r1 t).2.2.2.2.1
      have p5 := fun t => (r1 t).2.2.2.2.2
      have o0 := fun t => (r2 t).1
      have o1 := fun t => (r2 t).2.1
      have o2 := fun t => (r2 t).2.2.1
      have o3 := fun t => (r2 t).2.2.2.1
      have o4 := fun t => (r2 t).2.2.2.2.1
      have o5 := fun t => (r2 t).2.2.2.2.2
      clear r1 r2 hok1 hok2 hP hQ hx hy
      have s4 : (k : Int) < n := by omega
      go_wp2
      refine wp_region_in (C := (Below wr.heap.size wr)) (by kernel_rfl) (by kernel_rfl) (Below.refl _ _).drew ?_
      repeat (first | go_big_quiet_step ((go_at_call 31; with_reducible exact calls_in (Nat.le_refl _) (HS.out _))) | quiet_step ((go_at_call 31; with_reducible exact calls_in (Nat.le_refl _) (HS.out _))))
      refine wpQuiet_nil ?_
      intro _ hw'
      obtain ⟨t, hw''⟩ := hw'
      subst hw''
      clear p0 p1 p2 p3 p4 p5 o0 o1 o2 o3 o4 o5
      go_wp2
      go_roundw
      case rel => exact ⟨k + 1, by omega, by go_num, below_via hbw t.h hwz⟩
      case measure => simp [intOf]; omega
    · go_wp2
      go_ret
      exact ⟨rfl, hbw⟩
end Go.Proofs.YteidmdnhkgcnoaaGreat
namespace Go.Proofs.YteidmdnhkgcnoaaGreat
open Go.RowKit

theorem much_len' {xs : List DidV} (h : much xs = false) : xs.length ≤ 40 ∧ ∀ x ∈ xs, x.d.op.data.length ≤ 1000000 := by
  unfold much at h
  simp only [Bool.or_eq_false_iff, decide_eq_false_iff_not] at h
  obtain ⟨h1, h2⟩ := h
  refine ⟨by omega, fun x hx => ?_⟩
  rw [List.take_of_length_le (by omega), List.any_eq_false] at h1
  have := h1 x hx
  unfold muchOp at this
  simp at this
  omega
theorem muchS_len {xs : List PairV} (h : muchS xs = false) : xs.length ≤ 60 ∧ ∀ x ∈ xs, x.d.cell.data.length ≤ 1000000 := by
  unfold muchS at h
  simp only [Bool.or_eq_false_iff, decide_eq_false_iff_not] at h
  obtain ⟨h1, h2⟩ := h
  refine ⟨by omega, fun x hx => ?_⟩
  rw [List.take_of_length_le (by omega), List.any_eq_false] at h1
  have := h1 x hx
  simp at this
  omega

theorem replayD_len : ∀ (l : List DidD) (s : List PairD), (replayD s l).1.length ≤ s.length + l.length ∧ (replayD s l).2 ≤ l.length
  | [], s => by simp [replayD]
  | d :: l, s => by
    have h1 := stepD_length s d.op
    have h2 := replayD_len l (stepD s d.op).1
    unfold replayD
    split
    · simp only [List.length_cons]
      omega
    · simp

end Go.Proofs.YteidmdnhkgcnoaaGreat
