/-
  WALKS OF THE LAWS: moneyerlaw40.much, live, ReportLines.
-/
import Derived.Test.YtkhckehecnobjaaDoorSJ
import Derived.Test.YtkhckehecnobjaaDoorWE
namespace Go.Proofs.YtkhckehecnobjaaDoor
open Go.RowKit Go.Lib

def muchEv (x : EvD) : Bool := muchOp x.op || decide (300 < x.cell.data.length)
/-- Is a list more than is asked? (of the first hundred; or more than sixty) -/
def muchL (xs : List EvV) : Bool := ((xs.take 100).any fun x => muchEv x.d) || decide (60 < xs.length)
theorem muchL_yes {xs : List EvV} {k : Nat} (hk : k ≤ 100) (h : (xs.take k).any (fun x => muchEv x.d) = true) : muchL xs = true := by
  unfold muchL
  have hsub : (xs.take 100).any (fun x => muchEv x.d) = true := by
    rw [List.any_eq_true] at h ⊢
    obtain ⟨y, hy, hp⟩ := h
    exact ⟨y, (List.take_subset_take_left xs hk) hy, hp⟩
  simp [hsub]
theorem much_one (t : Int) (x : EvV) : much [⟨⟨t, x.d.op, x.d.err, x.d.cell⟩, x.dv, x.cv⟩] = muchEv x.d := by
  simp [much, muchEv]
theorem dids_one {w : World} {g : Nat} {t : TypeId} {t0 : Int} {x : EvV} {B : Nat} (k : Blk w g t #[.int .i64 t0, .int .i64 x.d.op.act, .string x.d.op.key, x.dv, .int .i64 x.d.op.lo, .int .i64 x.d.op.hi, .int .i64 x.d.op.n, .int .i64 x.d.err, .int .i64 x.d.cell.kind, x.cv, .int .i64 x.d.cell.lo, .int .i64 x.d.cell.hi, .int .i64 x.d.cell.val]) (h : EvOk w B x) (hB : B ≤ g + 1) :
    Dids w (g + 1) (some ⟨g, 0, none⟩) 1 [⟨⟨t0, x.d.op, x.d.err, x.d.cell⟩, x.dv, x.cv⟩] :=
  ⟨rfl, Reads.of_blk (n := 1) (size := 13) k rfl, fun y hy => by
    rw [List.mem_singleton] at hy
    subst hy
    exact ⟨h.1.more hB, h.2.more hB⟩⟩

theorem muchOne_any (x : EvV) (t0 : Int) (g B : Nat) (W : World) (k : Blk W g 49 #[.int .i64 t0, .int .i64 x.d.op.act, .string x.d.op.key, x.dv, .int .i64 x.d.op.lo, .int .i64 x.d.op.hi, .int .i64 x.d.op.n, .int .i64 x.d.err, .int .i64 x.d.cell.kind, x.cv, .int .i64 x.d.cell.lo, .int .i64 x.d.cell.hi, .int .i64 x.d.cell.val]) (h : EvOk W B x) (hB : B ≤ g + 1) :
    Calls Tryd.prog 16 #[.slice (some ⟨g, 0, none⟩) 1 1] W fun e w' => e = .returned (.bool (muchEv x.d)) ∧ Below W.heap.size W w' := by
  have h1 := Much_any (some ⟨g, 0, none⟩) 1 1 _ (g + 1) W k.lt (by omega) (dids_one k h hB)
  rw [much_one] at h1
  exact h1
def MuRel (w : World) (n : Nat) (xs : List EvV) (i : Value) (wr : World) : Prop :=
  ∃ k : Nat, k ≤ n ∧ k ≤ 100 ∧ i = .int .i64 k ∧ Below w.heap.size w wr ∧ Hid ((xs.take k).any (fun x => muchEv x.d) = false)
set_option maxHeartbeats 3200000 in
theorem lawMuch_any (A : Option Addr) (n c : Nat) (xs : List EvV) (B : Nat) (w : World) (hB : B ≤ w.heap.size) (hn : n ≤ 9223372036854775807) (h : Evs w B A n xs) :
    Calls Tryd.prog 6 #[.slice A n c] w fun e w' => e = .returned (.bool (muchL xs)) ∧ Below w.heap.size w w' := by
  have HL := hide h.1
  go_enter Tryd.func6, Tryd.ntmps6
  go_wp2
  go_loopw [3] (MuRel w n xs) (fun i _ => n - (intOf i).toNat)
  case atStart => exact ⟨0, Nat.zero_le _, Nat.zero_le _, rfl, Below.refl _ _, by simp [Hid]⟩
  case round =>
    obtain ⟨k, hk, hk2, rfl, hbw, HA⟩ := hrel
    by_cases hlt : (k : Int) < n
    · by_cases hlt2 : (k : Int) < 100
      · have hD := h.below hbw hB
        have hwz := hbw.size
        obtain ⟨b, o, x, rfl, hb, hkx, hok, _⟩ := hD.at_ (show k < n by omega)
        have HR := hide (fun W (hb' : Below wr.heap.size wr W) => (hD.below hb' (by omega)).row hkx)
        have HOK := hide (fun W (hb' : Below wr.heap.size wr W) => hok.below hb' (show B ≤ wr.heap.size by omega))
        have HK := hide hkx
        obtain ⟨d, dv, cv⟩ := x
        obtain ⟨⟨A1, n1, m1, rfl, p1⟩, ⟨A2, n2, m2, rfl, p2⟩⟩ := hok
        clear p1 p2
        have HST := hide (show (xs.take (k + 1)).any (fun x => muchEv x.d) = muchEv d by rw [take_any_snoc _ hkx, HA.out]; rfl)
        clear hkx hD h
        try dsimp only at *
        have s2 : (0 : Int) ≤ k := by omega
        have q3 : ∀ t : In (Below wr.heap.size wr), t.w.cell? ⟨b, o + k * 15 + 3, none⟩ = _ := fun t => (HR.out _ t.h).2.2.2.1
        have q4 : ∀ t : In (Below wr.heap.size wr), t.w.cell? ⟨b, o + k * 15 + 3 + 1, none⟩ = _ := fun t => (HR.out _ t.h).2.2.2.2.1
        have q5 : ∀ t : In (Below wr.heap.size wr), t.w.cell? ⟨b, o + k * 15 + 3 + 2, none⟩ = _ := fun t => (HR.out _ t.h).2.2.2.2.2.1
        have q6 : ∀ t : In (Below wr.heap.size wr), t.w.cell? ⟨b, o + k * 15 + 3 + 3, none⟩ = _ := fun t => (HR.out _ t.h).2.2.2.2.2.2.1
        have q7 : ∀ t : In (Below wr.heap.size wr), t.w.cell? ⟨b, o + k * 15 + 3 + 4, none⟩ = _ := fun t => (HR.out _ t.h).2.2.2.2.2.2.2.1
        have q8 : ∀ t : In (Below wr.heap.size wr), t.w.cell? ⟨b, o + k * 15 + 3 + 5, none⟩ = _ := fun t => (HR.out _ t.h).2.2.2.2.2.2.2.2.1
        have q9 : ∀ t : In (Below wr.heap.size wr), t.w.cell? ⟨b, o + k * 15 + 9, none⟩ = _ := fun t => (HR.out _ t.h).2.2.2.2.2.2.2.2.2.1
        have q10 : ∀ t : In (Below wr.heap.size wr), t.w.cell? ⟨b, o + k * 15 + 9 + 1, none⟩ = _ := fun t => (HR.out _ t.h).2.2.2.2.2.2.2.2.2.2.1
        have q11 : ∀ t : In (Below wr.heap.size wr), t.w.cell? ⟨b, o + k * 15 + 9 + 2, none⟩ = _ := fun t => (HR.out _ t.h).2.2.2.2.2.2.2.2.2.2.2.1
        have q12 : ∀ t : In (Below wr.heap.size wr), t.w.cell? ⟨b, o + k * 15 + 9 + 3, none⟩ = _ := fun t => (HR.out _ t.h).2.2.2.2.2.2.2.2.2.2.2.2.1
        have q13 : ∀ t : In (Below wr.heap.size wr), t.w.cell? ⟨b, o + k * 15 + 9 + 4, none⟩ = _ := fun t => (HR.out _ t.h).2.2.2.2.2.2.2.2.2.2.2.2.2.1
        have q14 : ∀ t : In (Below wr.heap.size wr), t.w.cell? ⟨b, o + k * 15 + 9 + 5, none⟩ = _ := fun t => (HR.out _ t.h).2.2.2.2.2.2.2.2.2.2.2.2.2.2
        try dsimp only at *
        go_wp2
        refine wp_region_in_tail (C := (Below wr.heap.size wr)) 11 (by kernel_rfl) (by kernel_rfl) (Below.refl _ _).drew ?_
        simp only [List.take_succ_cons, List.take_zero, List.drop_succ_cons, List.drop_zero]
        repeat (first | go_big_quiet_step (fail) | quiet_step (fail))
        refine wpQuiet_nil ?_
        intro _ hw'
        obtain ⟨t, hw''⟩ := hw'
        subst hw''
        have hbt := t.h
        clear q3 q4 q5 q6 q7 q8 q9 q10 q11 q12 q13 q14
        generalize t.w = wt at hbt ⊢
        clear t
        have HOK2 := hide (fun o => (HOK.out _ hbt).below ((Below.refl _ _).alloc (Nat.le_refl _) o) (by have := hbt.size; omega))
        have hBt : B ≤ wt.heap.size + 1 := by have := hbt.size; omega
        go_wp2_with fail
        refine (muchOne_any ⟨d, .slice A1 n1 m1, .slice A2 n2 m2⟩ 0 _ B _ (Blk.new _ _ _) (HOK2.out _) hBt).mono ?_
        rintro e w1 ⟨rfl, hb1⟩
        have hb01 : Below w.heap.size w w1 := below_via ((below_via hbw hbt hwz).alloc (by have := hbt.size; omega) _) hb1 (by have := hbt.size; simp; omega)
        clear HOK2
        dsimp only
        cases hmu : muchEv d
        · rw [hmu] at HST
          go_wp2
          go_roundw
          case rel => exact ⟨k + 1, by omega, by omega, by go_num, hb01, HST⟩
          case measure => simp [intOf]; omega
        · rw [hmu] at HST
          go_wp2
          go_ret
          exact ⟨ret_bool (muchL_yes (k := k + 1) (by omega) HST.out).symm, hb01⟩
      · go_wp2
        go_ret
        refine ⟨ret_bool ?_, hbw⟩
        obtain rfl : k = 100 := by omega
        have hl := HL.out
        unfold muchL
        rw [HA.out]
        simp
        omega
    · have HKN := hide (show k = n by omega)
      go_wp2
      go_ret
      refine ⟨ret_bool ?_, hbw⟩
      have hl := HL.out
      have hkn := HKN.out
      have h1 : xs.take 100 = xs.take k := by rw [List.take_of_length_le (by omega), List.take_of_length_le (by omega)]
      unfold muchL
      rw [h1, HA.out]
      simp
      omega

/-- The page's example. -/
def liveE : EvD := ⟨1, 0, 3, ⟨4, ⟨#[97]⟩, [], 0, 0, 5⟩, 0, ⟨0, [], 0, 0, 0⟩⟩
theorem num_small {k : Nat} (h : k < 10) : num (k : Int) = [UInt8.ofNat (48 + k)] := by
  unfold num Lib.itoa
  rw [if_neg (by omega)]
  exact Lib.decDigits_one (by omega)
theorem liveE_text : lineT liveE = [51, 32, 48, 32, 105, 110, 99, 32, 97, 32, 53, 32, 61, 32, 100, 111, 110, 101] := by
  have h3 : num 3 = [51] := num_small (k := 3) (by omega)
  have h0 : num 0 = [48] := num_small (k := 0) (by omega)
  have h5 : num 5 = [53] := num_small (k := 5) (by omega)
  have hg : isCallB liveE.op = true := by decide
  unfold lineT happT opT
  rw [hg]
  simp only [liveE, ansT, callT, isZero]
  simp [h3, h0, h5]
theorem liveE_sm : EvSm liveE := by
  refine ⟨⟨?_, ?_, ?_, ?_, ?_, ?_⟩, ⟨?_, ?_, ?_, ?_, ?_⟩, ?_, ?_, ?_, ?_⟩ <;> first | decide | (unfold inI liveE; simp only []; omega)
theorem lawLive_any (w : World) (ht : PTab w) : Calls Tryd.prog 7 #[] w fun e w' => e = .returned (.bool true) ∧ Below w.heap.size w w' := by
  have h := rLine_any liveE none none 0 0 0 0 0 w (Nat.zero_le _) liveE_sm (bytes_nil w 0) (bytes_nil w 0) ht
  rw [liveE_text] at h
  have H := hide h
  clear h ht
  go_enter Tryd.func7, Tryd.ntmps7
  go_wp2_with (go_at_call 8; refine H.out.mono ?_; rintro e w1 ⟨rfl, hb1⟩)
  go_ret
  exact ⟨ret_bool (by rw [ByteArray.toList_eq, tx_data]; rfl), hb1⟩

theorem muchL_len {xs : List EvV} (h : muchL xs = false) : xs.length ≤ 60 ∧ ∀ x ∈ xs, muchEv x.d = false := by
  unfold muchL at h
  simp only [Bool.or_eq_false_iff, decide_eq_false_iff_not] at h
  obtain ⟨h1, h2⟩ := h
  refine ⟨by omega, fun x hx => ?_⟩
  rw [List.take_of_length_le (by omega), List.any_eq_false] at h1
  simpa using h1 x hx
/-- All numbers of an Event are numbers of 64 bits. -/
def EvWf (x : EvD) : Prop := inI x.act ∧ inI x.client ∧ inI x.txn ∧ inI x.op.act ∧ inI x.op.lo ∧ inI x.op.hi ∧ inI x.op.n ∧ inI x.err ∧ inI x.cell.kind ∧ inI x.cell.lo ∧ inI x.cell.hi ∧ inI x.cell.val
theorem evSm_of {x : EvD} (h : EvWf x) (hm : muchEv x = false) : EvSm x := by
  unfold muchEv muchOp at hm
  simp only [Bool.or_eq_false_iff, decide_eq_false_iff_not] at hm
  obtain ⟨a1, a2, a3, b1, b2, b3, b4, e, c1, c2, c3, c4⟩ := h
  exact ⟨⟨by omega, by omega, b1, b2, b3, b4⟩, ⟨by omega, c1, c2, c3, c4⟩, e, a3, a2, a1⟩

def LiRel (w : World) (n : Nat) (i : Value) (wr : World) : Prop := ∃ k : Nat, k ≤ n ∧ i = .int .i64 k ∧ Below w.heap.size w wr
set_option maxHeartbeats 3200000 in
theorem ReportLines_true (A : Option Addr) (n c : Nat) (xs : List EvV) (w : World) (hn : n ≤ 9223372036854775807) (h : Evs w w.heap.size A n xs) (hW : ∀ x ∈ xs, EvWf x.d) (ht : PTab w) :
    Calls Tryd.prog 3 #[.slice A n c] w fun e w' => e = .returned (.bool true) ∧ Below w.heap.size w w' := by
  have HM := hide (lawMuch_any A n c xs w.heap.size w (Nat.le_refl _) hn h)
  have HV := hide (fun W (hb : Below w.heap.size w W) => lawLive_any W (ht.below hb))
  have HT := hide ht
  cases hmu : muchL xs
  · rw [hmu] at HM
    obtain ⟨hl, hx⟩ := muchL_len hmu
    have HS : Hid (∀ x ∈ xs, EvSm x.d) := fun x hx' => evSm_of (hW x hx') (hx x hx')
    have hn60 : n ≤ 60 := by rw [h.1]; exact hl
    obtain ⟨s, HS1, HS2, hss⟩ := letter (linesT (xs.map EvV.d))
    have HE1 := hide (fun W (hb : Below w.heap.size w W) => HS1.out ▸ rEvents_any A n c xs w.heap.size W hb.size (by omega) (h.below hb (Nat.le_refl _)) HS.out (HT.out.below hb))
    have HE2 := hide (fun W (hb : Below w.heap.size w W) => HS1.out ▸ fEvents_any A n c xs w.heap.size W hb.size (by omega) (h.below hb (Nat.le_refl _)) HS.out)
    have HL := hide h.1
    clear hmu hl hx hW ht hss HS1 HS2
    go_enter Tryd.func3, Tryd.ntmps3
    go_wp2_with (go_at_call 6; refine HM.out.mono ?_; rintro e w0 ⟨rfl, hb0⟩)
    go_loopw [3] (LiRel w n) (fun i _ => n - (intOf i).toNat)
    case atStart => exact ⟨0, Nat.zero_le _, rfl, hb0⟩
    case round =>
      obtain ⟨k, hk, rfl, hbw⟩ := hrel
      by_cases hlt : (k : Int) < n
      · have hwz := hbw.size
        have hD := h.below hbw (Nat.le_refl _)
        obtain ⟨b, o, x, rfl, hb, hkx, hok, _⟩ := hD.at_ (show k < n by omega)
        have HR := hide (fun W (hb' : Below wr.heap.size wr W) => (hD.below hb' hwz).row hkx)
        have hsx := HS.out x (List.mem_of_getElem? hkx)
        obtain ⟨d, dv, cv⟩ := x
        obtain ⟨⟨A1, n1, m1, rfl, p1⟩, ⟨A2, n2, m2, rfl, p2⟩⟩ := hok
        have hv1 : BytesAt wr w.heap.size (.slice A1 n1 m1) d.op.data := ⟨A1, n1, m1, rfl, p1⟩
        have hv2 : BytesAt wr w.heap.size (.slice A2 n2 m2) d.cell.data := ⟨A2, n2, m2, rfl, p2⟩
        dsimp only at hsx
        obtain ⟨s1, HZ1, _, _⟩ := letter (lineT d)
        have HL1 := hide (fun t : In (Below wr.heap.size wr) => HZ1.out ▸ rLine_any d A1 A2 n1 m1 n2 m2 w.heap.size t.w (by have := t.h.size; omega) hsx (hv1.below t.h hwz) (hv2.below t.h hwz) (HT.out.below (below_via hbw t.h hwz)))
        have HL2 := hide (fun t : In (Below wr.heap.size wr) => HZ1.out ▸ fLine_any d A1 A2 n1 m1 n2 m2 w.heap.size t.w (by have := t.h.size; omega) hsx (hv1.below t.h hwz) (hv2.below t.h hwz))
        clear hkx hD h hv1 hv2 p1 p2 hsx
        try dsimp only at *
        have s2 : (0 : Int) ≤ k := by omega
        have q0 : ∀ t : In (Below wr.heap.size wr), t.w.cell? ⟨b, o + k * 15, none⟩ = _ := fun t => (HR.out _ t.h).1
        have q1 : ∀ t : In (Below wr.heap.size wr), t.w.cell? ⟨b, o + k * 15 + 1, none⟩ = _ := fun t => (HR.out _ t.h).2.1
        have q2 : ∀ t : In (Below wr.heap.size wr), t.w.cell? ⟨b, o + k * 15 + 2, none⟩ = _ := fun t => (HR.out _ t.h).2.2.1
        have q3 : ∀ t : In (Below wr.heap.size wr), t.w.cell? ⟨b, o + k * 15 + 3, none⟩ = _ := fun t => (HR.out _ t.h).2.2.2.1
        have q4 : ∀ t : In (Below wr.heap.size wr), t.w.cell? ⟨b, o + k * 15 + 4, none⟩ = _ := fun t => (HR.out _ t.h).2.2.2.2.1
        have q5 : ∀ t : In (Below wr.heap.size wr), t.w.cell? ⟨b, o + k * 15 + 5, none⟩ = _ := fun t => (HR.out _ t.h).2.2.2.2.2.1
        have q6 : ∀ t : In (Below wr.heap.size wr), t.w.cell? ⟨b, o + k * 15 + 6, none⟩ = _ := fun t => (HR.out _ t.h).2.2.2.2.2.2.1
        have q7 : ∀ t : In (Below wr.heap.size wr), t.w.cell? ⟨b, o + k * 15 + 7, none⟩ = _ := fun t => (HR.out _ t.h).2.2.2.2.2.2.2.1
        have q8 : ∀ t : In (Below wr.heap.size wr), t.w.cell? ⟨b, o + k * 15 + 8, none⟩ = _ := fun t => (HR.out _ t.h).2.2.2.2.2.2.2.2.1
        have q9 : ∀ t : In (Below wr.heap.size wr), t.w.cell? ⟨b, o + k * 15 + 9, none⟩ = _ := fun t => (HR.out _ t.h).2.2.2.2.2.2.2.2.2.1
        have q10 : ∀ t : In (Below wr.heap.size wr), t.w.cell? ⟨b, o + k * 15 + 10, none⟩ = _ := fun t => (HR.out _ t.h).2.2.2.2.2.2.2.2.2.2.1
        have q11 : ∀ t : In (Below wr.heap.size wr), t.w.cell? ⟨b, o + k * 15 + 11, none⟩ = _ := fun t => (HR.out _ t.h).2.2.2.2.2.2.2.2.2.2.2.1
        have q12 : ∀ t : In (Below wr.heap.size wr), t.w.cell? ⟨b, o + k * 15 + 12, none⟩ = _ := fun t => (HR.out _ t.h).2.2.2.2.2.2.2.2.2.2.2.2.1
        have q13 : ∀ t : In (Below wr.heap.size wr), t.w.cell? ⟨b, o + k * 15 + 13, none⟩ = _ := fun t => (HR.out _ t.h).2.2.2.2.2.2.2.2.2.2.2.2.2.1
        have q14 : ∀ t : In (Below wr.heap.size wr), t.w.cell? ⟨b, o + k * 15 + 14, none⟩ = _ := fun t => (HR.out _ t.h).2.2.2.2.2.2.2.2.2.2.2.2.2.2
        try dsimp only at *
        go_wp2
        refine wp_region_in (C := (Below wr.heap.size wr)) (by kernel_rfl) (by kernel_rfl) (Below.refl _ _).drew ?_
        repeat (first | go_big_quiet_step (first | (go_at_call 8; with_reducible exact calls_in (Nat.le_refl _) (HL1.out _)) | (go_at_call 9; with_reducible exact calls_in (Nat.le_refl _) (HL2.out _))) | quiet_step (first | (go_at_call 8; with_reducible exact calls_in (Nat.le_refl _) (HL1.out _)) | (go_at_call 9; with_reducible exact calls_in (Nat.le_refl _) (HL2.out _))))
        refine wpQuiet_nil ?_
        intro _ hw'
        obtain ⟨t, hw''⟩ := hw'
        subst hw''
        have hbt := t.h
        clear q0 q1 q2 q3 q4 q5 q6 q7 q8 q9 q10 q11 q12 q13 q14
        generalize t.w = wt at hbt ⊢
        clear t
        go_wp2
        go_roundw
        case rel => exact ⟨k + 1, by omega, by go_num, below_via hbw hbt hwz⟩
        case measure => simp [intOf]; omega
      · go_wp2_with fail
        refine (HE1.out _ hbw).mono ?_
        rintro e w1 ⟨rfl, hb1⟩
        have hb01 := below_via hbw hb1 hbw.size
        go_wp2_with fail
        refine (HE2.out _ hb01).mono ?_
        rintro e w2 ⟨rfl, hb2⟩
        have hb02 := below_via hb01 hb2 hb01.size
        go_wp2_with fail
        refine (HV.out _ hb02).mono ?_
        rintro e w3 ⟨rfl, hb3⟩
        go_wp2
        go_ret
        exact ⟨rfl, below_via hb02 hb3 hb02.size⟩
  · rw [hmu] at HM
    clear hmu hW ht
    go_enter Tryd.func3, Tryd.ntmps3
    go_wp2_with (first | (go_at_call 6; refine HM.out.mono ?_; rintro e w0 ⟨rfl, hb0⟩) | (go_at_call 7; refine (HV.out _ hb0).mono ?_; rintro e w1 ⟨rfl, hb1⟩))
    go_ret
    exact ⟨rfl, below_via hb0 hb1 hb0.size⟩
end Go.Proofs.YtkhckehecnobjaaDoor
