/-
  WALKS OF THE REFERENCE: moneyerref40.count, fine, Sum.
-/
import Derived.Test.YtkhckehecnobjaaDoorSM
import Derived.BigGuardPart
namespace Go.Proofs.YtkhckehecnobjaaDoor
open Go.RowKit

def isC (q e : Int) (x : EvD) : Bool := decide (x.act = q) && (decide (e = 0) || decide (x.err = e))
def isF (x : EvD) : Bool := decide (x.act = 1) && decide (x.err = 0)
def CntRel (p : EvD → Bool) (w : World) (n : Nat) (es : List EpV) (t i : Value) (W : World) : Prop :=
  ∃ k v : Nat, k ≤ n ∧ i = .int .i64 k ∧ t = .int .i64 v ∧ Hid (v = (evsOf (es.take k)).countP p) ∧ v ≤ 1000000 ∧ Below w.heap.size w W
def CntIn (p : EvD → Bool) (w : World) (m : Nat) (l : List EvD) (xs : List EvV) (t i : Value) (W : World) : Prop :=
  ∃ j v : Nat, j ≤ m ∧ i = .int .i64 j ∧ t = .int .i64 v ∧ Hid (v = (l ++ (xs.take j).map EvV.d).countP p) ∧ v ≤ 2000000 ∧ Below w.heap.size w W
theorem cnt_bound {p : EvD → Bool} {es : List EpV} {k : Nat} (h : ∀ x ∈ es, x.xs.length ≤ 1000) (hk : k ≤ 1000) : (evsOf (es.take k)).countP p ≤ 1000000 := Nat.le_trans List.countP_le_length (take_len_ep h hk)
theorem cnt_step {p : EvD → Bool} {l : List EvD} {xs : List EvV} {j v : Nat} {x : EvV} (hv : v = (l ++ (xs.take j).map EvV.d).countP p) (hx : xs[j]? = some x) : (v : Int) + b2i (p x.d) = ((l ++ (xs.take (j + 1)).map EvV.d).countP p : Nat) := by
  rw [ev_snoc hx, ← List.append_assoc, countP_snoc, hv]
theorem cnt_in_bound {p : EvD → Bool} {l : List EvD} {xs : List EvV} {j : Nat} (hl : l.length ≤ 1000000) (hj : j ≤ 1000) : (l ++ (xs.take j).map EvV.d).countP p ≤ 2000000 := by
  refine Nat.le_trans List.countP_le_length ?_
  have h3 : ((xs.take j).map EvV.d).length ≤ 1000 := by rw [List.length_map]; exact Nat.le_trans (List.length_take_le _ _) hj
  rw [List.length_append]
  omega
theorem b2i_t : b2i true = 1 := rfl
theorem b2i_f : b2i false = 0 := rfl
/-- The events of an epoch, in a later world. -/
theorem Eps.evs {w W : World} {B n k m ce : Nat} {A Ae : Option Addr} {bv : Value} {es : List EpV} {xs : List EvV} (h : Eps w B A n es) (hk : k < n) (hx : es[k]? = some ⟨bv, .slice Ae m ce, xs⟩) (hb : Below w.heap.size w W) (hB : B ≤ w.heap.size) : Evs W B Ae m xs := by
  obtain ⟨b', o', x', e', _, hx', hok', _⟩ := (h.below hb hB).at_ hk
  rw [hx] at hx'
  injection hx' with hx'
  subst hx'
  obtain ⟨_, A', n', c', e3, _, hE'⟩ := hok'
  injection e3 with e3 e4 e5
  subst e3 e4 e5
  exact hE'
set_option maxHeartbeats 6400000 in
theorem count_any (A : Option Addr) (n c : Nat) (q e : Int) (es : List EpV) (B : Nat) (w : World) (hB : B ≤ w.heap.size) (hn : n ≤ 1000) (h : Eps w B A n es) (hlen : ∀ x ∈ es, x.xs.length ≤ 1000) :
    Calls Tryd.prog 28 #[.slice A n c, .int .i64 q, .int .i64 e] w fun r w' => r = .returned (.int .i64 ((evsOf es).countP (isC q e) : Nat)) ∧ Below w.heap.size w w' := by
  have HL := hide h.1
  have HLEN := hide hlen
  clear hlen
  go_enter Tryd.func28, Tryd.ntmps28
  go_wp2
  go_loopw [7, 8] (CntRel (isC q e) w n es) (fun _ i _ => n - (intOf i).toNat)
  case atStart => exact ⟨0, 0, Nat.zero_le _, rfl, rfl, by simp [Hid, evsOf], Nat.zero_le _, Below.refl _ _⟩
  case round =>
    obtain ⟨k, v, hk, rfl, rfl, HV, hv, hbw⟩ := hrel
    by_cases hlt : k < n
    · have hwz := hbw.size
      obtain ⟨b, o, x, rfl, hb, hkx, hok, d0, d1⟩ := (h.below hbw hB).at_ hlt
      have hlx := HLEN.out x (List.mem_of_getElem? hkx)
      have HTL := hide (take_len_ep (k := k) HLEN.out (by omega))
      obtain ⟨bv, ev, xs⟩ := x
      obtain ⟨⟨Ab, nb, cb, e1⟩, Ae, m, ce, e2, hm, hE⟩ := hok
      dsimp only at *
      subst e1 e2
      have HK := hide hkx
      have HM := hide hE.1
      have hm' : m ≤ 1000 := by have := HM.out; omega
      have HDD := hide d1
      clear hkx hE
      have s1 : (k : Int) < n := by omega
      have s2 : (0 : Int) ≤ k := by omega
      go_wp2
      obtain ⟨wo, rfl⟩ : ∃ wo : World, wo = wr := ⟨_, rfl⟩
      clear d0 d1
      go_loopw [7, 9] (CntIn (isC q e) w m (evsOf (es.take k)) xs) (fun _ i _ => m - (intOf i).toNat)
      case atStart => exact ⟨0, v, Nat.zero_le _, rfl, rfl, by have := HV.out; simpa [Hid] using this, by omega, hbw⟩
      case round =>
        obtain ⟨j, v2, hj, rfl, rfl, HV2, hv2, hbj⟩ := hrel
        have hjz := hbj.size
        have d1 : wr.cell? ⟨b, o + k * 2 + 1, none⟩ = some (.slice Ae m ce) := by
          obtain ⟨b', o', x', e', _, hx', _, _, hd⟩ := (h.below hbj hB).at_ hlt
          rw [HK.out] at hx'
          injection hx' with hx'
          subst hx'
          injection e' with e'
          injection e' with e1 e2
          subst e1 e2
          exact hd
        by_cases hltj : j < m
        · have hE2 := h.evs hlt HK.out hbj hB
          obtain ⟨b2, o2, x2, rfl, hb2, hkx2, hok2, _⟩ := hE2.at_ hltj
          obtain ⟨c0, c1, c2, c3, c4, c5, c6, c7, c8, c9, c10, c11, c12, c13, c14⟩ := hE2.row hkx2
          have HK2 := hide hkx2
          obtain ⟨d, dv, cv⟩ := x2
          obtain ⟨⟨A1, n1, m1, rfl, p1⟩, ⟨A2, n2, m2, rfl, p2⟩⟩ := hok2
          dsimp only at *
          clear p1 p2 hkx2 hE2
          have s3 : (j : Int) < m := by omega
          have s4 : (0 : Int) ≤ j := by omega
          have hb2z : b2 < wr.heap.size := by omega
          cases t1 : ((d.act : Int) == q)
          · have HP := hide (show isC q e d = false by simp at t1; simp [isC, t1])
            go_wp2
            go_roundw
            case rel =>
              have e1 := cnt_step HV2.out HK2.out
              dsimp only at e1
              rw [HP.out] at e1
              first | rw [b2i_t] at e1 | rw [b2i_f] at e1
              refine ⟨j + 1, v2, by omega, by go_num, rfl, hide (by omega), ?_, by first | exact hbj | exact hbj.alloc hjz _⟩
              have h1 := cnt_in_bound (p := isC q e) (xs := xs) (j := j + 1) HTL.out (by omega)
              omega
            case measure => simp [intOf]; omega
          · cases t2 : ((e : Int) == 0)
            · cases t3 : ((d.err : Int) == e)
              · have HP := hide (show isC q e d = false by simp at t1 t2 t3; simp [isC, t1, t2, t3])
                go_wp2
                go_roundw
                case rel =>
                  have e1 := cnt_step HV2.out HK2.out
                  dsimp only at e1
                  rw [HP.out] at e1
                  first | rw [b2i_t] at e1 | rw [b2i_f] at e1
                  refine ⟨j + 1, v2, by omega, by go_num, rfl, hide (by omega), ?_, by first | exact hbj | exact hbj.alloc hjz _⟩
                  have h1 := cnt_in_bound (p := isC q e) (xs := xs) (j := j + 1) HTL.out (by omega)
                  omega
                case measure => simp [intOf]; omega
              · have HP := hide (show isC q e d = true by simp at t1 t2 t3; simp [isC, t1, t2, t3])
                go_wp2
                go_roundw
                case rel =>
                  have e1 := cnt_step HV2.out HK2.out
                  dsimp only at e1
                  rw [HP.out] at e1
                  first | rw [b2i_t] at e1 | rw [b2i_f] at e1
                  refine ⟨j + 1, v2 + 1, by omega, by go_num, by go_num, hide (by omega), ?_, by first | exact hbj | exact hbj.alloc hjz _⟩
                  have h1 := cnt_in_bound (p := isC q e) (xs := xs) (j := j + 1) HTL.out (by omega)
                  omega
                case measure => simp [intOf]; omega
            · have HP := hide (show isC q e d = true by simp at t1 t2; simp [isC, t1, t2])
              go_wp2
              go_roundw
              case rel =>
                have e1 := cnt_step HV2.out HK2.out
                dsimp only at e1
                rw [HP.out] at e1
                first | rw [b2i_t] at e1 | rw [b2i_f] at e1
                refine ⟨j + 1, v2 + 1, by omega, by go_num, by go_num, hide (by omega), ?_, by first | exact hbj | exact hbj.alloc hjz _⟩
                have h1 := cnt_in_bound (p := isC q e) (xs := xs) (j := j + 1) HTL.out (by omega)
                omega
              case measure => simp [intOf]; omega
        · go_wp2
          go_roundw
          case rel =>
            have e1 := HV2.out
            rw [List.take_of_length_le (l := xs) (i := j) (by have := HM.out; omega), ← evsOf_snoc HK.out] at e1
            exact ⟨k + 1, v2, by omega, by go_num, rfl, e1, by rw [e1]; exact cnt_bound HLEN.out (by omega), hbj⟩
          case measure => simp [intOf]; omega
    · go_wp2
      go_ret
      refine ⟨ret_int ?_, hbw⟩
      have e1 := HV.out
      rw [List.take_of_length_le (l := es) (i := k) (by have := HL.out; omega)] at e1
      rw [e1]
set_option maxHeartbeats 6400000 in
theorem fine_any (A : Option Addr) (n c : Nat) (es : List EpV) (B : Nat) (w : World) (hB : B ≤ w.heap.size) (hn : n ≤ 1000) (h : Eps w B A n es) (hlen : ∀ x ∈ es, x.xs.length ≤ 1000) :
    Calls Tryd.prog 29 #[.slice A n c] w fun r w' => r = .returned (.int .i64 ((evsOf es).countP (isF) : Nat)) ∧ Below w.heap.size w w' := by
  have HL := hide h.1
  have HLEN := hide hlen
  clear hlen
  go_enter Tryd.func29, Tryd.ntmps29
  go_wp2
  go_loopw [3, 4] (CntRel (isF) w n es) (fun _ i _ => n - (intOf i).toNat)
  case atStart => exact ⟨0, 0, Nat.zero_le _, rfl, rfl, by simp [Hid, evsOf], Nat.zero_le _, Below.refl _ _⟩
  case round =>
    obtain ⟨k, v, hk, rfl, rfl, HV, hv, hbw⟩ := hrel
    by_cases hlt : k < n
    · have hwz := hbw.size
      obtain ⟨b, o, x, rfl, hb, hkx, hok, d0, d1⟩ := (h.below hbw hB).at_ hlt
      have hlx := HLEN.out x (List.mem_of_getElem? hkx)
      have HTL := hide (take_len_ep (k := k) HLEN.out (by omega))
      obtain ⟨bv, ev, xs⟩ := x
      obtain ⟨⟨Ab, nb, cb, e1⟩, Ae, m, ce, e2, hm, hE⟩ := hok
      dsimp only at *
      subst e1 e2
      have HK := hide hkx
      have HM := hide hE.1
      have hm' : m ≤ 1000 := by have := HM.out; omega
      have HDD := hide d1
      clear hkx hE
      have s1 : (k : Int) < n := by omega
      have s2 : (0 : Int) ≤ k := by omega
      go_wp2
      obtain ⟨wo, rfl⟩ : ∃ wo : World, wo = wr := ⟨_, rfl⟩
      clear d0 d1
      go_loopw [3, 5] (CntIn (isF) w m (evsOf (es.take k)) xs) (fun _ i _ => m - (intOf i).toNat)
      case atStart => exact ⟨0, v, Nat.zero_le _, rfl, rfl, by have := HV.out; simpa [Hid] using this, by omega, hbw⟩
      case round =>
        obtain ⟨j, v2, hj, rfl, rfl, HV2, hv2, hbj⟩ := hrel
        have hjz := hbj.size
        have d1 : wr.cell? ⟨b, o + k * 2 + 1, none⟩ = some (.slice Ae m ce) := by
          obtain ⟨b', o', x', e', _, hx', _, _, hd⟩ := (h.below hbj hB).at_ hlt
          rw [HK.out] at hx'
          injection hx' with hx'
          subst hx'
          injection e' with e'
          injection e' with e1 e2
          subst e1 e2
          exact hd
        by_cases hltj : j < m
        · have hE2 := h.evs hlt HK.out hbj hB
          obtain ⟨b2, o2, x2, rfl, hb2, hkx2, hok2, _⟩ := hE2.at_ hltj
          obtain ⟨c0, c1, c2, c3, c4, c5, c6, c7, c8, c9, c10, c11, c12, c13, c14⟩ := hE2.row hkx2
          have HK2 := hide hkx2
          obtain ⟨d, dv, cv⟩ := x2
          obtain ⟨⟨A1, n1, m1, rfl, p1⟩, ⟨A2, n2, m2, rfl, p2⟩⟩ := hok2
          dsimp only at *
          clear p1 p2 hkx2 hE2
          have s3 : (j : Int) < m := by omega
          have s4 : (0 : Int) ≤ j := by omega
          have hb2z : b2 < wr.heap.size := by omega
          cases t1 : ((d.act : Int) == 1)
          · have HP := hide (show isF d = false by simp at t1; simp [isF, t1])
            go_wp2
            go_roundw
            case rel =>
              have e1 := cnt_step HV2.out HK2.out
              dsimp only at e1
              rw [HP.out] at e1
              first | rw [b2i_t] at e1 | rw [b2i_f] at e1
              refine ⟨j + 1, v2, by omega, by go_num, rfl, hide (by omega), ?_, by first | exact hbj | exact hbj.alloc hjz _⟩
              have h1 := cnt_in_bound (p := isF) (xs := xs) (j := j + 1) HTL.out (by omega)
              omega
            case measure => simp [intOf]; omega
          · cases t2 : ((d.err : Int) == 0)
            · have HP := hide (show isF d = false by simp at t1 t2; simp [isF, t1, t2])
              go_wp2
              go_roundw
              case rel =>
                have e1 := cnt_step HV2.out HK2.out
                dsimp only at e1
                rw [HP.out] at e1
                first | rw [b2i_t] at e1 | rw [b2i_f] at e1
                refine ⟨j + 1, v2, by omega, by go_num, rfl, hide (by omega), ?_, by first | exact hbj | exact hbj.alloc hjz _⟩
                have h1 := cnt_in_bound (p := isF) (xs := xs) (j := j + 1) HTL.out (by omega)
                omega
              case measure => simp [intOf]; omega
            · have HP := hide (show isF d = true by simp at t1 t2; simp [isF, t1, t2])
              go_wp2
              go_roundw
              case rel =>
                have e1 := cnt_step HV2.out HK2.out
                dsimp only at e1
                rw [HP.out] at e1
                first | rw [b2i_t] at e1 | rw [b2i_f] at e1
                refine ⟨j + 1, v2 + 1, by omega, by go_num, by go_num, hide (by omega), ?_, by first | exact hbj | exact hbj.alloc hjz _⟩
                have h1 := cnt_in_bound (p := isF) (xs := xs) (j := j + 1) HTL.out (by omega)
                omega
              case measure => simp [intOf]; omega
        · go_wp2
          go_roundw
          case rel =>
            have e1 := HV2.out
            rw [List.take_of_length_le (l := xs) (i := j) (by have := HM.out; omega), ← evsOf_snoc HK.out] at e1
            exact ⟨k + 1, v2, by omega, by go_num, rfl, e1, by rw [e1]; exact cnt_bound HLEN.out (by omega), hbj⟩
          case measure => simp [intOf]; omega
    · go_wp2
      go_ret
      refine ⟨ret_int ?_, hbw⟩
      have e1 := HV.out
      rw [List.take_of_length_le (l := es) (i := k) (by have := HL.out; omega)] at e1
      rw [e1]

theorem tally_ref (l : List EvD) (k : Int) : tally k l = ⟨k, l.countP (isC 0 0), l.countP (isC 3 0), l.countP (isC 4 0), l.countP (isC 4 10), l.countP (isC 1 0), (l.countP (isC 1 0) : Int) - l.countP isF⟩ := by
  have h1 : ∀ q, isC q 0 = fun x => decide (x.act = q) := fun q => by funext x; simp [isC]
  have h2 : isC 4 10 = isD := by funext x; simp [isC, isD]
  have h3 : (l.countP isR : Int) = (l.countP isO : Int) - l.countP isF := by
    induction l with
    | nil => simp
    | cons a t ih =>
      simp only [List.countP_cons]
      by_cases ha : a.act = 1
      · by_cases he : a.err = 0 <;> simp [isR, isO, isF, ha, he] <;> omega
      · simp [isR, isO, isF, ha]; omega
  unfold tally
  rw [h3, h2, h1, h1, h1, h1]
  rfl
set_option maxHeartbeats 1600000 in
theorem fSum_any (A : Option Addr) (n c : Nat) (es : List EpV) (B : Nat) (w : World) (hB : B ≤ w.heap.size) (hn : n ≤ 1000) (h : Eps w B A n es) (hlen : ∀ x ∈ es, x.xs.length ≤ 1000) :
    Calls Tryd.prog 13 #[.slice A n c] w (SumPost w (tally n (evsOf es))) := by
  have HC := hide (fun q e W (hb : Below w.heap.size w W) => count_any A n c q e es B W (Nat.le_trans hB hb.size) hn (h.below hb hB) hlen)
  have HF := hide (fun W (hb : Below w.heap.size w W) => fine_any A n c es B W (Nat.le_trans hB hb.size) hn (h.below hb hB) hlen)
  have HT := hide (tally_ref (evsOf es) n)
  have hbd : ∀ p : EvD → Bool, (evsOf es).countP p ≤ 1000000 := fun p => by
    have := cnt_bound (p := p) (k := 1000) hlen (by omega)
    rwa [List.take_of_length_le (by rw [← h.1]; exact hn)] at this
  have u1 := hbd (isC 1 0)
  have u2 := hbd isF
  clear hbd h hlen
  go_enter Tryd.func13, Tryd.ntmps13
  go_wp2_with fail
  have k0 := Blk.new w 38 (repCells rep0)
  have hb0 : Below w.heap.size w (w.alloc (.cells (repCells rep0) 38)) := (Below.refl _ _).alloc (Nat.le_refl _) _
  refine (HC.out 0 0 _ hb0).mono ?_
  rintro e w1 ⟨rfl, hb1⟩
  have k1 := Blk.via hb1 k0
  have hb01 := below_via hb0 hb1 hb0.size
  go_wp2_with fail
  refine (HC.out 3 0 _ hb01).mono ?_
  rintro e w2 ⟨rfl, hb2⟩
  have k2 := Blk.via hb2 k1
  have hb02 := below_via hb01 hb2 hb01.size
  go_wp2_with fail
  refine (HC.out 4 0 _ hb02).mono ?_
  rintro e w3 ⟨rfl, hb3⟩
  have k3 := Blk.via hb3 k2
  have hb03 := below_via hb02 hb3 hb02.size
  go_wp2_with fail
  refine (HC.out 4 10 _ hb03).mono ?_
  rintro e w4 ⟨rfl, hb4⟩
  have k4 := Blk.via hb4 k3
  have hb04 := below_via hb03 hb4 hb03.size
  go_wp2_with fail
  refine (HC.out 1 0 _ hb04).mono ?_
  rintro e w5 ⟨rfl, hb5⟩
  have k5 := Blk.via hb5 k4
  have hb05 := below_via hb04 hb5 hb04.size
  go_wp2_with fail
  refine (HC.out 1 0 _ hb05).mono ?_
  rintro e w6 ⟨rfl, hb6⟩
  have k6 := Blk.via hb6 k5
  have hb06 := below_via hb05 hb6 hb05.size
  go_wp2_with fail
  refine (HF.out _ hb06).mono ?_
  rintro e w7 ⟨rfl, hb7⟩
  have k7 := Blk.via hb7 k6
  have hb07 := below_via hb06 hb7 hb06.size
  have q0 := k7.cell
  have q1 := k7.frozen
  unfold repCells at q0
  clear hb1 hb2 hb3 hb4 hb5 hb6 hb7 k0 k1 k2 k3 k4 k5 k6
  go_wp2
  refine bodyPost_ret (v := .agg (repCells (tally n (evsOf es)))) (by rw [HT.out]; simp [results, Tryd.results13, go_sem, q0, repCells]) rfl ⟨rfl, ?_⟩
  refine Touch.below (L := w.heap.size) (H := w.heap.size + 1) (w := w7) ?_ hb07 (Nat.le_refl _)
  (repeat refine Touch.set ?_ (by simp) _); exact Touch.refl _
end Go.Proofs.YtkhckehecnobjaaDoor
