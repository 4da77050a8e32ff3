/-
  WALKS: report.Sum.
-/
import Derived.Test.YtkhckehecnobjaaDoorSL
namespace Go.Proofs.YtkhckehecnobjaaDoor
open Go.RowKit

def rep0 : RepD := ⟨0, 0, 0, 0, 0, 0, 0⟩
/-- What report.Sum has made: the answer's room, its own report. -/
structure SumSt (w : World) (r : RepD) (W : World) : Prop where
  out : Blk W w.heap.size 38 (repCells rep0)
  own : Blk W (w.heap.size + 1) 38 (repCells r)
  b : Below w.heap.size w W
theorem SumSt.alloc {w W : World} {r : RepD} (h : SumSt w r W) (o : Obj) : SumSt w r (W.alloc o) := ⟨h.out.alloc o, h.own.alloc o, h.b.alloc h.b.size o⟩
theorem SumSt.add {w W w' : World} {r : RepD} {x : EvD} {e : Ending} (h : SumSt w r W) (ha : AddPost W (w.heap.size + 1) r x e w') : SumSt w (addR r x) w' := by
  obtain ⟨_, h1, w0, o, ht, rfl⟩ := ha
  refine ⟨(ht.blk h.out (.inl (by omega))).alloc o, h1, (ht.below h.b (by omega)).alloc ?_ o⟩
  have := h.b.size
  have := ht.size
  omega
def SumRel (w : World) (n : Nat) (es : List EpV) (i : Value) (W : World) : Prop :=
  ∃ k : Nat, k ≤ n ∧ i = .int .i64 k ∧ SumSt w (tally n (evsOf (es.take k))) W
def SumIn (w : World) (n m : Nat) (l : List EvD) (xs : List EvV) (i : Value) (W : World) : Prop :=
  ∃ j : Nat, j ≤ m ∧ i = .int .i64 j ∧ SumSt w (tally n (l ++ (xs.take j).map EvV.d)) W
def SumPost (w : World) (r : RepD) (e : Ending) (w' : World) : Prop := e = .returned (.agg (repCells r)) ∧ Below w.heap.size w w'
theorem take_len_ep {es : List EpV} {k : Nat} (h : ∀ x ∈ es, x.xs.length ≤ 1000) (hk : k ≤ 1000) : (evsOf (es.take k)).length ≤ 1000000 := by
  have h1 := evsOf_len (es := es.take k) (fun x hx => h x (List.mem_of_mem_take hx))
  have h2 : (es.take k).length ≤ k := List.length_take_le _ _
  have h3 : 1000 * (es.take k).length ≤ 1000 * k := Nat.mul_le_mul_left _ h2
  omega
set_option maxHeartbeats 3200000 in
theorem rSum_any (A : Option Addr) (n c : Nat) (es : List EpV) (B : Nat) (w : World) (hB : B ≤ w.heap.size) (hn : n ≤ 1000) (h : Eps w B A n es) (hlen : ∀ x ∈ es, x.xs.length ≤ 1000) :
    Calls Tryd.prog 12 #[.slice A n c] w (SumPost w (tally n (evsOf es))) := by
  have HL := hide h.1
  have HLEN := hide hlen
  clear hlen
  go_enter Tryd.func12, Tryd.ntmps12
  go_wp2
  go_loopw [13] (SumRel w n es) (fun i _ => n - (intOf i).toNat)
  case atStart => exact ⟨0, Nat.zero_le _, rfl, (Blk.new w _ _).alloc _, Blk.new2 w _ _ _, below2 _ _ _⟩
  case round =>
    obtain ⟨k, hk, rfl, hst⟩ := hrel
    by_cases hlt : k < n
    · have hbw := hst.b
      have hwz := hbw.size
      have hz1 := hst.own.lt
      have HST := hide hst
      obtain ⟨b, o, x, rfl, hb, hkx, hok, d0, d1⟩ := (h.below hbw hB).at_ hlt
      have hlx := HLEN.out x (List.mem_of_getElem? hkx)
      have HK := hide hkx
      have HTL := hide (take_len_ep (k := k) HLEN.out (by omega))
      obtain ⟨bv, ev, xs⟩ := x
      obtain ⟨⟨Ab, nb, cb, e1⟩, Ae, m, ce, e2, hm, hE⟩ := hok
      dsimp only at *
      subst e1 e2
      have HM := hide hE.1
      clear hkx hst
      have s1 : (k : Int) < n := by omega
      have s2 : (0 : Int) ≤ k := by omega
      have hbz : b < wr.heap.size := by omega
      have hm' : m ≤ 1000 := by have := HM.out; omega
      go_wp2
      obtain ⟨wo, rfl⟩ : ∃ wo : World, wo = wr := ⟨_, rfl⟩
      go_loopw [20] (SumIn w n m (evsOf (es.take k)) xs) (fun i _ => m - (intOf i).toNat)
      case atStart => exact ⟨0, Nat.zero_le _, rfl, by simpa using HST.out.alloc _⟩
      case round =>
        obtain ⟨j, hj, rfl, hsj⟩ := hrel
        have hbj := hsj.b
        have hjz := hbj.size
        by_cases hltj : j < m
        · have hz2 := hsj.own.lt
          have HSJ := hide hsj
          have hE2 : Evs wr B Ae m xs := by
            obtain ⟨x', hx', hok'⟩ : ∃ x', es[k]? = some x' ∧ EpOk wr B x' := by
              obtain ⟨b', o', x', e', _, hx', hok', _⟩ := (h.below hbj hB).at_ hlt
              exact ⟨x', hx', hok'⟩
            rw [HK.out] at hx'
            injection hx' with hx'
            subst hx'
            obtain ⟨_, A', n', c', e3, _, hE'⟩ := hok'
            injection e3 with e3 e4 e5
            subst e3 e4 e5
            exact hE'
          obtain ⟨b2, o2, x2, rfl, hb2, hkx2, hok2, _⟩ := hE2.at_ hltj
          obtain ⟨c0, c1, c2, c3, c4, c5, c6, c7, c8, c9, c10, c11, c12, c13, c14⟩ := hE2.row hkx2
          have HK2 := hide hkx2
          obtain ⟨d, dv, cv⟩ := x2
          obtain ⟨⟨A1, n1, m1, rfl, p1⟩, ⟨A2, n2, m2, rfl, p2⟩⟩ := hok2
          dsimp only at *
          clear p1 p2 hkx2 hE2 hsj hE
          have s3 : (j : Int) < m := by omega
          have s4 : (0 : Int) ≤ j := by omega
          have hb2z : b2 < wr.heap.size := by omega
          have hsm : RepSm (tally n (evsOf (es.take k) ++ (xs.take j).map EvV.d)) := tally_sm n (by have := HTL.out; have h3 : ((xs.take j).map EvV.d).length ≤ 1000 := (by rw [List.length_map]; exact Nat.le_trans (List.length_take_le _ _) (by omega)); rw [List.length_append]; omega)
          have HAD := hide (fun o => add_any d A1 A2 n1 m1 n2 m2 (w.heap.size + 1) _ (wr.alloc o) hsm (HSJ.out.own.alloc o))
          clear hsm
          go_wp2_with fail
          refine (HAD.out _).mono ?_
          intro e w1 hpost
          have HP := hide ((HSJ.out.alloc _).add hpost)
          obtain ⟨rfl, hpost'⟩ := hpost
          clear hpost' HAD
          go_wp2
          go_roundw
          case rel =>
            refine ⟨j + 1, by omega, by go_num, ?_⟩
            have := HP.out
            rw [addR_tally, List.append_assoc, ← ev_snoc HK2.out] at this
            exact this
          case measure => simp [intOf]; omega
        · go_wp2
          go_roundw
          case rel =>
            refine ⟨k + 1, by omega, by go_num, ?_⟩
            rw [evsOf_snoc HK.out]
            rw [List.take_of_length_le (l := xs) (i := j) (by have := HM.out; omega)] at hsj
            exact hsj
          case measure => simp [intOf]; omega
    · have hbw := hst.b
      have hk' : es.take k = es := List.take_of_length_le (by have := HL.out; omega)
      rw [hk'] at hst
      have q0 := hst.out.cell
      have q1 := hst.out.frozen
      have q2 := hst.own.cell
      have q3 := hst.own.frozen
      have hz1 := hst.own.lt
      unfold repCells at q0 q2
      clear hk'
      go_wp2
      refine bodyPost_ret (v := .agg (repCells (tally n (evsOf es)))) (by simp [results, Tryd.results12, go_sem, q0, repCells]) rfl ⟨rfl, ?_⟩
      refine Touch.below (L := w.heap.size) (H := w.heap.size + 1) (w := wr) ?_ hbw (Nat.le_refl _)
      (repeat refine Touch.set ?_ (by simp) _); exact Touch.refl _
end Go.Proofs.YtkhckehecnobjaaDoor
