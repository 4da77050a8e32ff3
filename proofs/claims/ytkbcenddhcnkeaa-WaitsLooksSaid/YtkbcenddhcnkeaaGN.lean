/-
  WALK: moneyerlaw14.live.
-/
import Derived.Test.YtkbcenddhcnkeaaGM
namespace Go.Proofs.Ytkbcenddhcnkeaa
open Go.RowKit

def liveE : List Ed := [(1, 2), (2, 3), (2, 1)]
theorem liveE_srt : srtE liveE = [(1, 2), (2, 1), (2, 3)] := (srtE_unique (by unfold SortedE; decide) (by decide)).symm
theorem liveE_cyc : cyc liveE 1 = [1, 2] := by
  unfold cyc
  rw [liveE_srt, show tosOf [(1, 2), (2, 1), (2, 3)] 1 = [2] from by decide, show liveE.length = 2 + 1 from rfl, srch_found (p := [1, 2]) (q := [1, 2]) (by decide) (by decide) (by
    rw [show tosOf [(1, 2), (2, 1), (2, 3)] 2 = [1, 3] from by decide]
    exact srch_hit _ _ _ _)]
  rfl
theorem liveE_cyc2 : cyc [(1, 2)] 1 = [] := by
  unfold cyc
  rw [show srtE [(1, 2)] = [(1, 2)] from (srtE_unique (by unfold SortedE; decide) (by decide)).symm, show tosOf [(1, 2)] 1 = [2] from by decide, show ([(1, 2)] : List Ed).length = 0 + 1 from rfl, srch_back (q := [1, 2]) (by decide) (by decide) (by
    rw [show tosOf [(1, 2)] 2 = [] from by decide]
    exact srch_nil _ _ _), srch_nil]
  rfl
theorem liveE_vic : vic 1 liveE.length liveE = [2] := by
  show vic 1 (2 + 1) liveE = [2]
  rw [vic, if_neg (by rw [liveE_cyc]; decide), liveE_cyc, show young [1, 2] = 2 from rfl, show wout liveE 2 = [(1, 2)] from by decide, vic_nil liveE_cyc2]
theorem liveE_ring : ¬ NoRing liveE := fun h => h (1, 2) (by decide) (.step (y := 2) (by decide) (.one (by decide)))
theorem liveE_two : NoRing [(1, 2), (2, 3)] := by
  have key : ∀ {x y : Int}, Rch [(1, 2), (2, 3)] x y → x < y := by
    intro x y h
    induction h with
    | @one x y h =>
      simp only [List.mem_cons, Prod.mk.injEq, List.not_mem_nil, or_false] at h
      omega
    | @step x y z h _ ih =>
      simp only [List.mem_cons, Prod.mk.injEq, List.not_mem_nil, or_false] at h
      omega
  intro e _ hr
  have := key hr
  omega
theorem eds_blk {W : World} {g : Nat} {es : List Ed} {cs : Array Value} {n : Nat} (k : Blk W g 29 cs) (hn : n = es.length) (hc : es.flatMap edC = cs.toList.take (n * 2)) (hs : n * 2 ≤ cs.size) : Eds W (g + 1) (some ⟨g, 0, none⟩) n es := by
  refine ⟨hn, ?_, fun _ => ⟨_, rfl, Nat.lt_succ_self g, fun j u hu => ?_⟩⟩
  · rw [hc, List.length_take, Array.length_toList]
    omega
  · rw [add_plain, Nat.zero_add, k.cell]
    rw [hc] at hu
    have hj := (List.getElem?_eq_some_iff.1 hu).1
    rw [List.length_take] at hj
    rw [List.getElem?_take_of_lt (by omega), Array.getElem?_toList] at hu
    exact hu
theorem ints_blk {W : World} {g : Nat} {xs : List Int} (k : Blk W g 3 (xs.map (Value.int .i64)).toArray) : Ints W (g + 1) (some ⟨g, 0, none⟩) xs.length xs := ⟨rfl, by simpa using Reads.of_blk k (n := xs.length) (size := 1) (by simp)⟩
theorem liveE_wf : ∀ e ∈ liveE, (Lit.int .i64 e.1).wf = true ∧ (Lit.int .i64 e.2).wf = true := by decide
set_option maxHeartbeats 3200000 in
theorem live_any (w : World) : Calls Try.prog 6 #[] w fun e w' => e = .returned (.bool true) ∧ Below w.heap.size w w' := by
  have HE := hide (fun (W : World) (k : Blk W w.heap.size 29 #[.int .i64 1, .int .i64 2, .int .i64 2, .int .i64 3, .int .i64 2, .int .i64 1]) => (show Eds W (w.heap.size + 1) (some ⟨w.heap.size, 0, none⟩) 3 liveE from eds_blk k rfl rfl (by decide)))
  have HE2 := hide (fun (W : World) (k : Blk W w.heap.size 29 #[.int .i64 1, .int .i64 2, .int .i64 2, .int .i64 3, .int .i64 2, .int .i64 1]) => (show Eds W (w.heap.size + 1) (some ⟨w.heap.size, 0, none⟩) 2 [(1, 2), (2, 3)] from eds_blk k rfl rfl (by decide)))
  have HC := hide (fun (W : World) (k : Blk W w.heap.size 29 #[.int .i64 1, .int .i64 2, .int .i64 2, .int .i64 3, .int .i64 2, .int .i64 1]) => liveE_cyc ▸ wCycle_any (some ⟨w.heap.size, 0, none⟩) 3 3 liveE 1 (w.heap.size + 1) W k.lt (by decide) (HE.out W k) (fun h => by cases h) (fun e he => (liveE_wf e he).2) (by decide))
  have HV := hide (fun (W : World) (k : Blk W w.heap.size 29 #[.int .i64 1, .int .i64 2, .int .i64 2, .int .i64 3, .int .i64 2, .int .i64 1]) => liveE_vic ▸ wVictims_any (some ⟨w.heap.size, 0, none⟩) 3 3 liveE 1 (w.heap.size + 1) W k.lt (by decide) (HE.out W k) (fun h => by cases h) (fun e he => (liveE_wf e he).2) (by decide))
  have HA := hide (fun (W : World) (k : Blk W w.heap.size 29 #[.int .i64 1, .int .i64 2, .int .i64 2, .int .i64 3, .int .i64 2, .int .i64 1]) => wAcyclic_any (some ⟨w.heap.size, 0, none⟩) 3 3 liveE false (by simp [liveE_ring]) (w.heap.size + 1) W k.lt (by decide) (HE.out W k) (fun h => by cases h) liveE_wf)
  have HA2 := hide (fun (W : World) (k : Blk W w.heap.size 29 #[.int .i64 1, .int .i64 2, .int .i64 2, .int .i64 3, .int .i64 2, .int .i64 1]) => wAcyclic_any (some ⟨w.heap.size, 0, none⟩) 2 3 [(1, 2), (2, 3)] true (by simp [liveE_two]) (w.heap.size + 1) W k.lt (by decide) (HE2.out W k) (fun h => by cases h) (by decide))
  have HSL := hide (fun (W : World) (A : Option Addr) (n c : Nat) (xs ys : List Int) (hx : xs = ys) (g : Nat) (h : Ints W W.heap.size A n xs) (k : Blk W g 3 (ys.map (Value.int .i64)).toArray) (hn : n ≤ 1000) => (show Calls Try.prog 8 #[.slice A n c, .slice (some ⟨g, 0, none⟩) ys.length ys.length] W fun e w' => e = .returned (.bool true) ∧ Below W.heap.size W w' from by
    have h1 := SameList_any A (some ⟨g, 0, none⟩) n c ys.length ys.length xs ys W.heap.size W (by omega) (by have := h.1; subst hx; omega) h ((ints_blk k).more k.lt)
    have h2 : numsEq xs ys = true := by subst hx; simp [numsEq]
    rwa [h2] at h1))
  go_enter Try.func6, Try.ntmps6
  go_wp2_with fail
  refine gen1 (w := w) (R := fun W => Calls Try.prog 7 _ W _) (fun W k hb hz => ?_)
  refine (HC.out W k).mono ?_
  rintro e w1 ⟨A1, n1, c1, rfl, hi1, hb1⟩
  have k1 := k.via hb1
  have hbw1 := hb.trans (hb1.mono hb.size)
  have hn1 : n1 ≤ 1000 := by have h := hi1.1; simp at h; omega
  have HI1 := hide hi1
  clear hi1
  go_wp2_with fail
  refine gen1 (w := w1) (R := fun W => Calls Try.prog 8 _ W _) (fun W2 k2 hb2 hz2 => ?_)
  refine (HSL.out W2 A1 n1 c1 [1, 2] [1, 2] rfl w1.heap.size ((HI1.out.below hb2 (Nat.le_refl _)).more hb2.size) k2 hn1).mono ?_
  rintro e w3 ⟨rfl, hb3⟩
  have k3 := (k1.via hb2).via hb3
  have hbw2 := hbw1.trans (hb2.mono hbw1.size)
  have hbw3 := hbw2.trans (hb3.mono hbw2.size)
  go_wp2_with fail
  refine (HV.out w3 k3).mono ?_
  rintro e w4 ⟨A4, n4, c4, rfl, hi4, hb4⟩
  have k4 := k3.via hb4
  have hbw4 := hbw3.trans (hb4.mono hbw3.size)
  have hn4 : n4 ≤ 1000 := by have h := hi4.1; simp at h; omega
  have HI4 := hide hi4
  clear hi4
  go_wp2_with fail
  refine gen1 (w := w4) (R := fun W => Calls Try.prog 8 _ W _) (fun W5 k5 hb5 hz5 => ?_)
  refine (HSL.out W5 A4 n4 c4 [2] [2] rfl w4.heap.size ((HI4.out.below hb5 (Nat.le_refl _)).more hb5.size) k5 hn4).mono ?_
  rintro e w6 ⟨rfl, hb6⟩
  have k6 := (k4.via hb5).via hb6
  have hbw5 := hbw4.trans (hb5.mono hbw4.size)
  have hbw6 := hbw5.trans (hb6.mono hbw5.size)
  go_wp2_with fail
  refine (HA.out w6 k6).mono ?_
  rintro e w7 ⟨rfl, hb7⟩
  have k7 := k6.via hb7
  have hbw7 := hbw6.trans (hb7.mono hbw6.size)
  go_wp2_with fail
  refine (HA2.out w7 k7).mono ?_
  rintro e w8 ⟨rfl, hb8⟩
  have hbw8 := hbw7.trans (hb8.mono hbw7.size)
  go_wp2
  go_ret
  exact ⟨rfl, hbw8⟩
end Go.Proofs.Ytkbcenddhcnkeaa
