/-
  WALKS OF THE LAWS: moneyerlaw40.ReportSums.
-/
import Derived.Test.YtkhckehecnobjaaDoorSN
import Derived.Test.YtkhckehecnobjaaDoorSO
namespace Go.Proofs.YtkhckehecnobjaaDoor
open Go.RowKit Go.Lib

def SmRel (w : World) (n : Nat) (es : List EpV) (i : Value) (W : World) : Prop :=
  ∃ k : Nat, k ≤ n ∧ i = .int .i64 k ∧ Below w.heap.size w W ∧ Hid (∀ x ∈ es.take k, muchL x.xs = false)
set_option maxHeartbeats 3200000 in
theorem ReportSums_true (A : Option Addr) (n c : Nat) (es : List EpV) (r : RepD) (w : World) (hn : n ≤ 9223372036854775807) (h : Eps w w.heap.size A n es) (hr : RepIn r) (ht : PTab w) :
    Calls Tryd.prog 5 #[.slice A n c, .agg #[.int .i64 r.epochs, .int .i64 r.begun, .int .i64 r.committed, .int .i64 r.aborted, .int .i64 r.deadlocks, .int .i64 r.ops, .int .i64 r.refused]] w fun e w' => e = .returned (.bool true) ∧ Below w.heap.size w w' := by
  have HV := hide (fun W (hb : Below w.heap.size w W) => lawLive_any W (ht.below hb))
  by_cases h8 : (8 : Int) < n
  · clear h
    go_enter Tryd.func5, Tryd.ntmps5
    go_wp2_with fail
    refine (HV.out _ ((Below.refl _ _).alloc (Nat.le_refl _) _)).mono ?_
    rintro e w1 ⟨rfl, hb1⟩
    go_wp2
    go_ret
    exact ⟨rfl, below_via ((Below.refl _ _).alloc (Nat.le_refl _) _) hb1 (by simp)⟩
  have hn8 : n ≤ 8 := by omega
  obtain ⟨T, hT⟩ : ∃ T : RepD, T = tally n (evsOf es) := ⟨_, rfl⟩
  obtain ⟨s, HS1, _, _⟩ := letter (reportT r)
  have HA := hide (fun W (hb : Below w.heap.size w W) (hlen : ∀ x ∈ es, x.xs.length ≤ 1000) => (show Calls Tryd.prog 12 #[.slice A n c] W fun e w' => e = .returned (.agg #[.int .i64 T.epochs, .int .i64 T.begun, .int .i64 T.committed, .int .i64 T.aborted, .int .i64 T.deadlocks, .int .i64 T.ops, .int .i64 T.refused]) ∧ Below W.heap.size W w' from by
    have := rSum_any A n c es w.heap.size W hb.size (by omega) (h.below hb (Nat.le_refl _)) hlen
    rw [← hT] at this
    exact this))
  have HB := hide (fun W (hb : Below w.heap.size w W) (hlen : ∀ x ∈ es, x.xs.length ≤ 1000) => (show Calls Tryd.prog 13 #[.slice A n c] W fun e w' => e = .returned (.agg #[.int .i64 T.epochs, .int .i64 T.begun, .int .i64 T.committed, .int .i64 T.aborted, .int .i64 T.deadlocks, .int .i64 T.ops, .int .i64 T.refused]) ∧ Below W.heap.size W w' from by
    have := fSum_any A n c es w.heap.size W hb.size (by omega) (h.below hb (Nat.le_refl _)) hlen
    rw [← hT] at this
    exact this))
  have HC := hide (fun W (hb : Below w.heap.size w W) => HS1.out ▸ rText_any r W hr (ht.below hb))
  have HD := hide (fun W => HS1.out ▸ fText_any r W hr)
  have HL := hide h.1
  clear hT HS1 ht hr
  go_enter Tryd.func5, Tryd.ntmps5
  go_wp2
  refine gen1 (fun W0 k0 hbW hz0 => ?_)
  go_loopw [5] (SmRel W0 n es) (fun i _ => n - (intOf i).toNat)
  case atStart => exact ⟨0, Nat.zero_le _, rfl, Below.refl _ _, by simp [Hid]⟩
  case round =>
    obtain ⟨k, hk, rfl, hbk, HMU⟩ := hrel
    have hbw : Below w.heap.size w wr := below_via hbW hbk hbW.size
    have hwz := hbw.size
    by_cases hlt : k < n
    · obtain ⟨b, o, x, rfl, hb, hkx, hok, d0, d1⟩ := (h.below hbw (Nat.le_refl _)).at_ hlt
      have HK := hide hkx
      obtain ⟨bv, ev, xs⟩ := x
      obtain ⟨⟨Ab, nb, cb, e1⟩, Ae, m, ce, e2, hm, hE⟩ := hok
      dsimp only at *
      subst e1 e2
      have HM := hide (lawMuch_any Ae m ce xs w.heap.size wr hwz hm hE)
      clear hkx hE d0 h
      have s1 : (k : Int) < n := by omega
      have s2 : (0 : Int) ≤ k := by omega
      cases hmu : muchL xs
      · rw [hmu] at HM
        have HMX := hide hmu
        clear hmu
        go_wp2_with (go_at_call 6; refine HM.out.mono ?_; rintro e w1 ⟨rfl, hb1⟩)
        go_roundw
        case rel =>
          refine ⟨k + 1, by omega, by go_num, below_via hbk hb1 hbk.size, fun y hy => ?_⟩
          obtain ⟨hk', e⟩ := List.getElem?_eq_some_iff.1 HK.out
          rw [List.take_succ_eq_append_getElem hk', e] at hy
          rcases List.mem_append.1 hy with hy | hy
          · exact HMU.out y hy
          · rw [List.mem_singleton] at hy
            subst hy
            exact HMX.out
        case measure => simp [intOf]; omega
      · rw [hmu] at HM
        clear hmu
        go_wp2_with (first | (go_at_call 6; refine HM.out.mono ?_; rintro e w1 ⟨rfl, hb1⟩; have hb01 := below_via hbw hb1 hwz) | (go_at_call 7; refine (HV.out _ hb01).mono ?_; rintro e w2 ⟨rfl, hb2⟩))
        go_ret
        exact ⟨rfl, below_via hb01 hb2 hb01.size⟩
    · have hlen : ∀ x ∈ es, x.xs.length ≤ 1000 := fun x hx => by
        have h1 := HMU.out x (by rw [List.take_of_length_le (by have := HL.out; omega)]; exact hx)
        have := (muchL_len h1).1
        omega
      have HA' := hide (fun t : In (Below wr.heap.size wr) => HA.out t.w (below_via hbw t.h hwz) hlen)
      have HB' := hide (fun t : In (Below wr.heap.size wr) => HB.out t.w (below_via hbw t.h hwz) hlen)
      have HC' := hide (fun t : In (Below wr.heap.size wr) => HC.out t.w (below_via hbw t.h hwz))
      have HV' := hide (fun t : In (Below wr.heap.size wr) => HV.out t.w (below_via hbw t.h hwz))
      have kr := Blk.via hbk k0
      have q0 : ∀ (t : In (Below wr.heap.size wr)) (i : Nat), t.w.cell? ⟨w.heap.size, i, none⟩ = _ := fun t => (Blk.via t.h kr).cell
      clear hlen h HMU HA HB HC HV
      go_wp2
      refine wp_region_in (C := (Below wr.heap.size wr)) (by kernel_rfl) (by kernel_rfl) (Below.refl _ _).drew ?_
      repeat (first | go_big_quiet_step (first | (go_at_call 12; with_reducible exact calls_in (Nat.le_refl _) (HA'.out _)) | (go_at_call 13; with_reducible exact calls_in (Nat.le_refl _) (HB'.out _)) | (go_at_call 14; with_reducible exact calls_in (Nat.le_refl _) (HC'.out _)) | (go_at_call 15; with_reducible exact calls_in (Nat.le_refl _) (HD.out _)) | (go_at_call 7; with_reducible exact calls_in (Nat.le_refl _) (HV'.out _))) | quiet_step (first | (go_at_call 12; with_reducible exact calls_in (Nat.le_refl _) (HA'.out _)) | (go_at_call 13; with_reducible exact calls_in (Nat.le_refl _) (HB'.out _)) | (go_at_call 14; with_reducible exact calls_in (Nat.le_refl _) (HC'.out _)) | (go_at_call 15; with_reducible exact calls_in (Nat.le_refl _) (HD.out _)) | (go_at_call 7; with_reducible exact calls_in (Nat.le_refl _) (HV'.out _))))
      refine wpQuiet_nil ?_
      intro _ hw'
      obtain ⟨t, hw''⟩ := hw'
      subst hw''
      have hbt := t.h
      clear q0
      generalize t.w = wt at hbt ⊢
      clear t
      go_wp2
      go_ret
      exact ⟨rfl, below_via hbw hbt hwz⟩
end Go.Proofs.YtkhckehecnobjaaDoor
