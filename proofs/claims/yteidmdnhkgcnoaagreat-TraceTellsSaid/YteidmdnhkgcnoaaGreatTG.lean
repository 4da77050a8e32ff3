/-
  WALKS: trace.Bounds, moneyerref36.Bounds, moneyerlaw36.live, the law TraceBounds.
-/
import Derived.Test.YteidmdnhkgcnoaaGreatTF
import Derived.Test.YteidmdnhkgcnoaaGreatMA
namespace Go.Proofs.YteidmdnhkgcnoaaGreat
open Go.RowKit

def inB (c : CellD) : Bool := !(c.kind == 2 && (decide (c.val < c.lo) || decide (c.hi < c.val)))
theorem bounds_snoc' {l : List PairV} {k : Nat} {x : PairV} (h : l[k]? = some x) : boundsD ((l.take (k + 1)).map PairV.d) = (boundsD ((l.take k).map PairV.d) && inB x.d.cell) := bounds_snoc h
theorem bounds_stop {l : List PairV} {k : Nat} {x : PairV} (h : l[k]? = some x) (hb : inB x.d.cell = false) : boundsD (l.map PairV.d) = false := by
  unfold boundsD
  rw [List.all_eq_false]
  exact ⟨x.d, List.mem_map.2 ⟨x, List.mem_of_getElem? h, rfl⟩, by show ¬ inB x.d.cell = true; rw [hb]; decide⟩


set_option maxHeartbeats 1600000 in
theorem tBounds_any (A : Option Addr) (n c : Nat) (xs : List PairV) (B : Nat) (w : World) (hB : B ≤ w.heap.size) (hn : n ≤ 1000000) (h : Pairs w B A n xs) :
    Calls Tryz.prog 23 #[.slice A n c] w fun e w' => e = .returned (.bool (boundsD (xs.map PairV.d))) ∧ Below w.heap.size w w' := by
  have HL := hide h.1
  go_enter Tryz.func23, Tryz.ntmps23
  go_wp2
  go_loopw [8] (fun i wr => ∃ k : Nat, k ≤ n ∧ i = .int .i64 k ∧ boundsD ((xs.take k).map PairV.d) = true ∧ Below w.heap.size w wr) (fun i _ => n - (intOf i).toNat)
  case atStart => exact ⟨0, Nat.zero_le _, rfl, rfl, Below.refl _ _⟩
  case round =>
    obtain ⟨k, hk, rfl, hbd, hbw⟩ := hrel
    have HB := hide hbd
    clear hbd
    have hz := hbw.size
    by_cases hlt : k < n
    · obtain ⟨b, o, x, rfl, hb, hkx, hok, hc⟩ := (h.below hbw hB).at_ hlt
      have c0 : wr.cell? ⟨b, o + k * 6, none⟩ = some (.string x.d.key) := hc 0 _ rfl
      have c1 := hc 1 _ rfl
      have c2 := hc 2 _ rfl
      have c3 := hc 3 _ rfl
      have c4 := hc 4 _ rfl
      have c5 := hc 5 _ rfl
      have HK := hide hkx
      clear hkx hc
      obtain ⟨⟨ky, cd⟩, cv⟩ := x
      obtain ⟨A2, n2, c2', rfl, p2⟩ := hok
      clear p2
      dsimp only at *
      have s1 : (k : Int) < n := by omega
      have s2 : (0 : Int) ≤ k := by omega
      have hbz : b < wr.heap.size := by omega
      cases t1 : ((cd.kind : Int) == 2)
      · go_wp2
        go_roundw
        case rel => exact ⟨k + 1, by omega, by go_num, by rw [bounds_snoc' HK.out, HB.out]; unfold inB; rw [t1]; rfl, (hbw.alloc hz _).alloc (by simp; omega) _⟩
        case measure => simp [intOf]; omega
      · by_cases h1 : cd.val < cd.lo
        · have HE := hide (bounds_stop HK.out (by unfold inB; rw [t1, decide_eq_true h1]; rfl))
          go_wp2
          go_ret
          exact ⟨ret_bool HE.out.symm, (hbw.alloc hz _).alloc (by simp; omega) _⟩
        · by_cases h2 : cd.hi < cd.val
          · have HE := hide (bounds_stop HK.out (by unfold inB; rw [t1, decide_eq_true h2]; simp))
            go_wp2
            go_ret
            exact ⟨ret_bool HE.out.symm, (hbw.alloc hz _).alloc (by simp; omega) _⟩
          · have HI := hide (show inB cd = true by unfold inB; rw [decide_eq_false h1, decide_eq_false h2]; simp)
            go_wp2
            go_roundw
            case rel => exact ⟨k + 1, by omega, by go_num, by rw [bounds_snoc' HK.out, HB.out, HI.out]; rfl, (hbw.alloc hz _).alloc (by simp; omega) _⟩
            case measure => simp [intOf]; omega
    · obtain rfl : k = n := by omega
      have hfull := HB.out
      rw [List.take_of_length_le (by have := HL.out; omega)] at hfull
      have HF := hide hfull
      clear hfull
      go_wp2
      go_ret
      exact ⟨ret_bool HF.out.symm, hbw⟩

/-! ### the page's example -/
def kA : ByteArray := ⟨#[97]⟩
def pr0 : PairV := ⟨⟨kA, ⟨2, [], 0, 9, 0⟩⟩, .slice none 0 0⟩
def op0 : OpD := ⟨0, ⟨#[]⟩, [], 0, 0, 0⟩
def ev0 (act txn : Int) (op : OpD) : EvV := ⟨⟨act, 0, txn, op, 0, ⟨0, [], 0, 0, 0⟩⟩, .slice none 0 0, .slice none 0 0⟩
def evs0 : List EvV := [ev0 0 1 op0, ev0 0 2 op0, ev0 1 1 ⟨4, kA, [], 0, 0, 2⟩, ev0 1 2 ⟨4, kA, [], 0, 0, 1⟩, ev0 4 1 op0]
theorem live_K : finalK evs0 = [⟨2, ⟨4, kA, [], 0, 0, 1⟩, 0, ⟨0, [], 0, 0, 0⟩⟩] := by rfl
theorem live_rep : replayD [pr0.d] [⟨2, ⟨4, kA, [], 0, 0, 1⟩, 0, ⟨0, [], 0, 0, 0⟩⟩] = ([⟨kA, ⟨2, [], 0, 9, 1⟩⟩], 1) := by kernel_rfl
theorem live_right : RightS [pr0.d] := by
  refine ⟨fun x hx => ?_, by simp⟩
  rw [List.mem_singleton] at hx
  subst hx
  decide +kernel

theorem live_wfS : WfS [pr0.d] := fun x hx => by
  rw [List.mem_singleton] at hx
  subst hx
  exact ⟨⟨by decide, by decide⟩, ⟨by decide, by decide⟩, by decide, by decide⟩
theorem live_ev : ∀ x ∈ evs0, OpWf x.d.op ∧ x.d.op.data.length ≤ 1000000 ∧ x.d.cell.data.length ≤ 1000000 ∧ wfI x.d.txn := fun x hx => by
  simp only [evs0, List.mem_cons, List.not_mem_nil, or_false] at hx
  rcases hx with rfl | rfl | rfl | rfl | rfl
  all_goals
    refine ⟨⟨⟨?_, ?_⟩, ⟨?_, ?_⟩, ⟨?_, ?_⟩, ?_⟩, ?_, ?_, ?_⟩
    all_goals first | decide | (show (Lit.int .i64 _).wf = true; kernel_rfl)
theorem evs_nil (W : World) (B : Nat) : ∀ x ∈ evs0, EvOk W B x := fun x hx => by
  simp only [evs0, List.mem_cons, List.not_mem_nil, or_false] at hx
  have hb : BytesAt W B (.slice none 0 0) [] := ⟨none, 0, 0, rfl, Nat.le_refl _, Nat.zero_le _, rfl, fun _ => rfl, Reads.none_⟩
  rcases hx with rfl | rfl | rfl | rfl | rfl <;> exact ⟨hb, hb⟩
theorem one_of {ys : List PairV} {a : PairD} (h : ys.map PairV.d = [a]) : ∃ y, ys = [y] ∧ y.d = a := by
  cases ys with
  | nil => cases h
  | cons y t =>
    rw [List.map_cons] at h
    injection h with h1 h2
    cases t with
    | nil => exact ⟨y, rfl, h1⟩
    | cons z t => cases h2
theorem tcode_any (x : Int) (w : World) : Calls Tryz.prog 13 #[.int .i64 x] w fun e w' => e = .returned (.int .i64 x) ∧ w = w' := by
  go_enter Tryz.func13, Tryz.ntmps13
  go_wp2
  go_ret
  exact ⟨rfl, rfl⟩

set_option maxHeartbeats 4000000 in
set_option maxRecDepth 100000 in
theorem tlive_true (w : World) : Calls Tryz.prog 7 #[] w fun e w' => e = .returned (.bool true) ∧ Below w.heap.size w w' := by
  go_enter Tryz.func7, Tryz.ntmps7
  go_wp2_with fail
  refine gen2 (R := fun W => Calls Tryz.prog 8 _ W _) (fun W k0 k1 hbW hzW => ?_)
  have l0 := k0.lt
  have l1 := k1.lt
  have hP : Pairs W W.heap.size (some ⟨w.heap.size, 0, none⟩) 1 [pr0] := ⟨rfl, (Reads.of_blk (n := 1) (size := 6) k0 rfl).more (by omega), fun x hx => by
    rw [List.mem_singleton] at hx
    subst hx
    exact ⟨none, 0, 0, rfl, Nat.le_refl _, Nat.zero_le _, rfl, fun _ => rfl, Reads.none_⟩⟩
  have hE : Evs W W.heap.size (some ⟨w.heap.size + 1, 0, none⟩) 5 evs0 := ⟨rfl, (Reads.of_blk (n := 5) (size := 15) k1 rfl).more (by omega), evs_nil _ _⟩
  have hF := Final_any (some ⟨w.heap.size, 0, none⟩) 1 1 [pr0] (some ⟨w.heap.size + 1, 0, none⟩) 5 5 evs0 W (by omega) (by omega) hP (fun x hx => by rw [List.mem_singleton] at hx; subst hx; decide) hE live_right live_wfS live_ev
  rw [live_K, show List.map PairV.d [pr0] = [pr0.d] from rfl] at hF
  unfold TrPost at hF
  rw [live_rep] at hF
  refine hF.mono ?_
  rintro e w2 ⟨⟨hlt, rfl⟩ | ⟨hlt, A2, c2, ys, rfl, hys, hP2⟩, hb2⟩
  · exact absurd hlt (by decide)
  obtain ⟨y, rfl, hyd⟩ := one_of hys
  have hTB := tBounds_any A2 1 c2 [y] w2.heap.size w2 (Nat.le_refl _) (by omega) hP2
  have hbd : boundsD (List.map PairV.d [y]) = true := by
    rw [show List.map PairV.d [y] = [y.d] from rfl, hyd]
    rfl
  rw [hbd] at hTB
  have HTB := hide hTB
  obtain ⟨b, o, x, rfl, hb, hx, hok, hc⟩ := hP2.at_ (k := 0) (by simp)
  have hxy : x = y := by simpa using hx.symm
  subst hxy
  have q5 : w2.cell? ⟨b, o + 5, none⟩ = some (.int .i64 1) := by
    have := hc 5 _ rfl
    rw [show (x.d.cell.val) = 1 by rw [hyd]] at this
    simpa using this
  have q5x : w2.cell? ⟨b, o + 1 + 4, none⟩ = some (.int .i64 1) := q5
  have HB := hide (below_via hbW hb2 (by omega))
  clear hlt hys hyd hTB hbd hx hok hc hF hP hE k0 k1 hP2
  simp only [List.length_singleton]
  go_wp2_with (first
    | (go_at_call 13; refine (tcode_any _ _).mono ?_; rintro e w3 ⟨rfl, hw3⟩; subst hw3)
    | (go_at_call 23; refine HTB.out.mono ?_; rintro e w4 ⟨rfl, hb4⟩))
  go_ret
  exact ⟨rfl, below_via HB.out hb4 HB.out.size⟩

end Go.Proofs.YteidmdnhkgcnoaaGreat
