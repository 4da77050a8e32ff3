/-
  WALK OF THE PROGRAM: model.copyState; a state of the program's own.
-/
import Derived.Test.YteidmdnhkgcnoaaGreatPB
import Derived.Test.YteidmdnhkgcnoaaGreatMem
import Derived.Deep.DrawnRows
namespace Go.Proofs.YteidmdnhkgcnoaaGreat
open Go.RowKit
attribute [local go_sem ↓] Go.wp_at_zero Go.wp_at_succ

/-- A state of the program's own: its row, and the bytes of its records. -/
structure StS (w : World) (base : Nat) (v : Value) (ys : List PairV) : Prop where
  own : w.ownsRow base 55 6 v ys.length (ys.flatMap PairV.cells)
  ok : ∀ y ∈ ys, OwnB w base y.cv y.d.cell.data
theorem StS.form {w : World} {base : Nat} {v : Value} {ys : List PairV} (h : StS w base v ys) : ∃ A c, v = .slice A ys.length c ∧ ys.length ≤ c ∧ c ≤ maxLen ∧ Pairs w w.heap.size A ys.length ys := by
  obtain ⟨A, c, rfl, hnc, hcm, _, hr, _⟩ := own_slice h.own
  exact ⟨A, c, rfl, hnc, hcm, rfl, hr, fun y hy => (h.ok y hy).bytes⟩
theorem StS.via {w w' : World} {base : Nat} {v : Value} {ys : List PairV} (h : StS w base v ys) (hb : Below w.heap.size w w') : StS w' base v ys :=
  ⟨h.own.kept (row := none) ⟨hb.os, hb.tape, hb.output, hb.size, fun k hk _ => hb.block k hk⟩ (by cases v.ownBlock <;> simp), fun y hy => (h.ok y hy).via hb⟩

/-- What has been copied so far. -/
structure PSt (w : World) (n : Nat) (xs : List PairV) (k : Nat) (done : List PairV) (W : World) : Prop where
  len : done.length = k
  eqd : done.map PairV.d = (xs.take k).map PairV.d
  blk : ∃ cs : Array Value, Blk W w.heap.size 55 cs ∧ cs.size = n * 6 ∧ ∀ (q : Nat) (u : Value), (done.flatMap PairV.cells)[q]? = some u → cs[q]? = some u
  ok : ∀ y ∈ done, OwnB W (w.heap.size + 1) y.cv y.d.cell.data
  b : Below w.heap.size w W
theorem PSt.via {w W W' : World} {n k : Nat} {xs done : List PairV} (h : PSt w n xs k done W) (hb : Below W.heap.size W W') : PSt w n xs k done W' := by
  obtain ⟨cs, h1, h2, h3⟩ := h.blk
  exact ⟨h.len, h.eqd, ⟨cs, Blk.via hb h1, h2, h3⟩, fun y hy => (h.ok y hy).via hb, below_via h.b hb h.b.size⟩
theorem PSt.step {w W : World} {n k : Nat} {xs done : List PairV} {x y : PairV} (h : PSt w n xs k done W) (hk : k < n) (hx : xs[k]? = some x) (hy : y.d = x.d) (hok : OwnB W (w.heap.size + 1) y.cv y.d.cell.data) :
    PSt w n xs (k + 1) (done ++ [y]) (putL W w.heap.size (k * 6) y.cells) := by
  obtain ⟨cs, hb, hcs, hcl⟩ := h.blk
  have hlt : k * 6 + 6 ≤ cs.size := by rw [hcs]; have := Nat.mul_le_mul_right 6 (show k + 1 ≤ n from hk); omega
  have k2 := putL_blk y.cells (k * 6) hb
  obtain ⟨hs2, hq2, hj2⟩ := setL_spec y.cells cs (k * 6) (by rw [PairV.cells_length]; exact hlt)
  have htch := putL_touch w.heap.size y.cells W W (k * 6) (Touch.refl _)
  refine ⟨by simp [h.len], ?_, ⟨_, k2, by omega, fun q u hu => ?_⟩, fun z hz => ?_, htch.below h.b (Nat.le_refl _)⟩
  · obtain ⟨hi, e⟩ := List.getElem?_eq_some_iff.1 hx
    rw [List.take_succ_eq_append_getElem hi, List.map_append, List.map_append, h.eqd, e]
    simp [hy]
  · rw [List.flatMap_append] at hu
    have hfl : (done.flatMap PairV.cells).length = k * 6 := by rw [flat_length _ 6 PairV.cells_length, h.len]
    by_cases hqi : q < k * 6
    · rw [List.getElem?_append_left (by omega)] at hu
      rw [hq2 q (.inl hqi)]
      exact hcl q u hu
    · rw [List.getElem?_append_right (by omega), hfl] at hu
      have := hj2 (q - k * 6) u (by simpa using hu)
      rwa [show k * 6 + (q - k * 6) = q by omega] at this
  · rcases List.mem_append.1 hz with hz | hz
    · exact (h.ok z hz).touch htch (Nat.le_refl _)
    · rw [List.mem_singleton] at hz
      subst hz
      exact hok.touch htch (Nat.le_refl _)
theorem PSt.done {w W : World} {n : Nat} {xs done : List PairV} (h : PSt w n xs n done W) (hn : n ≤ 1000000) : StS W w.heap.size (.slice (some ⟨w.heap.size, 0, none⟩) n n) done := by
  obtain ⟨cs, hk, hcs, hcl⟩ := h.blk
  have hfl : (done.flatMap PairV.cells).length = n * 6 := by rw [flat_length _ 6 PairV.cells_length, h.len]
  refine ⟨⟨by rw [hfl, h.len], .inr ⟨w.heap.size, n, cs, by rw [h.len], Nat.le_refl _, hk, by rw [h.len]; exact Nat.le_refl _, by unfold maxLen; omega, hcs, ?_⟩⟩, fun y hy => (h.ok y hy).low (by omega)⟩
  rw [h.len]
  apply List.ext_getElem?
  intro q
  by_cases hq : q < n * 6
  · have hq' : q < (done.flatMap PairV.cells).length := by omega
    rw [List.getElem?_take, if_pos hq, Array.getElem?_toList, hcl q _ (List.getElem?_eq_getElem hq'), List.getElem?_eq_getElem hq']
  · rw [List.getElem?_take, if_neg hq, List.getElem?_eq_none (by omega)]

theorem SixP.of {w : World} {g : Nat} {t : TypeId} {a b c d e f : Value} (k : Blk w g t #[a, b, c, d, e, f]) : w.cell? ⟨g, 0, none⟩ = some a ∧ w.cell? ⟨g, 1, none⟩ = some b ∧ w.cell? ⟨g, 2, none⟩ = some c ∧ w.cell? ⟨g, 3, none⟩ = some d ∧ w.cell? ⟨g, 4, none⟩ = some e ∧ w.cell? ⟨g, 5, none⟩ = some f :=
  ⟨k.cell 0, k.cell 1, k.cell 2, k.cell 3, k.cell 4, k.cell 5⟩
theorem SixP.touch {w w' : World} {g L H : Nat} {a b c d e f : Value} (ht : Touch L H w w') (hg : H ≤ g) (h : w.cell? ⟨g, 0, none⟩ = some a ∧ w.cell? ⟨g, 1, none⟩ = some b ∧ w.cell? ⟨g, 2, none⟩ = some c ∧ w.cell? ⟨g, 3, none⟩ = some d ∧ w.cell? ⟨g, 4, none⟩ = some e ∧ w.cell? ⟨g, 5, none⟩ = some f) :
    w'.cell? ⟨g, 0, none⟩ = some a ∧ w'.cell? ⟨g, 1, none⟩ = some b ∧ w'.cell? ⟨g, 2, none⟩ = some c ∧ w'.cell? ⟨g, 3, none⟩ = some d ∧ w'.cell? ⟨g, 4, none⟩ = some e ∧ w'.cell? ⟨g, 5, none⟩ = some f := by
  have k : ∀ j, w'.cell? ⟨g, j, none⟩ = w.cell? ⟨g, j, none⟩ := fun j => World.cell?_of_block (ht.block g (.inr hg))
  simp only [k]
  exact h
theorem Touch.oneP {g i : Nat} {a w : World} (h : Touch g (g + 1) a w) (u : Value) : Touch g (g + 1) a (w.setCell ⟨g, i, none⟩ u) := h.set ⟨Nat.le_refl _, Nat.lt_succ_self _⟩ u
def pairZ2 : Array Value := #[.string ByteArray.empty, .int .i64 0, .slice none 0 0, .int .i64 0, .int .i64 0, .int .i64 0]
theorem info_pair2 : (Tryz.prog.info? 55).map (fun i => (i.zero, i.size, i.bytes)) = some (some (.agg pairZ2), 6, 72) := by kernel_rfl
def CopyS (w : World) (xs : List PairV) (e : Ending) (w' : World) : Prop := ∃ v ys, e = .returned v ∧ StS w' w.heap.size v ys ∧ ys.map PairV.d = xs.map PairV.d ∧ Below w.heap.size w w'

set_option maxHeartbeats 3200000 in
set_option maxRecDepth 100000 in
theorem copyState_any (A : Option Addr) (n c : Nat) (xs : List PairV) (B : Nat) (w : World) (hB : B ≤ w.heap.size) (hn : n ≤ 100000) (h : Pairs w B A n xs) (hl : ∀ x ∈ xs, x.d.cell.data.length ≤ 1000000) :
    Calls Tryz.prog 63 #[.slice A n c] w (CopyS w xs) := by
  have HL := hide h.1
  have HLEN := hide hl
  clear hl
  obtain ⟨i0, hi, hz0, hz1, hz2⟩ := info_parts info_pair2
  have hmk := fun W => run_make_rowN (P := Tryz.prog) 22 55 i0 (.agg pairZ2) Tryz.underlying22 hi hz0 .i64 .i64 n n (Nat.le_refl _) (by rw [hz2]; omega) (by omega) W
  rw [hz1] at hmk
  clear hi hz0 hz1 hz2
  go_enter Tryz.func63, Tryz.ntmps63
  go_wp2
  go_loopw [11] (fun i wr => ∃ (k : Nat) (done : List PairV), k ≤ n ∧ i = .int .i64 k ∧ PSt w n xs k done wr) (fun i _ => n - (intOf i).toNat)
  case atStart =>
    exact ⟨0, [], Nat.zero_le _, rfl, ⟨rfl, (by simp), ⟨_, Blk.new _ _ _, size_madeCells _ _, (fun q u hu => by simp at hu)⟩, (fun y hy => by cases hy), (Below.refl _ _).alloc (Nat.le_refl _) _⟩⟩
  case round =>
    obtain ⟨k, done, hk, rfl, hst⟩ := hrel
    have HST := hide hst
    have hbw := hst.b
    have hwz := hbw.size
    clear hst
    by_cases hlt : k < n
    · have hP := h.below hbw hB
      obtain ⟨b, o, x, rfl, hb, hkx, hok, hc⟩ := hP.at_ hlt
      have d0 := (hP.row hkx).1
      have d1 := hc 1 _ rfl
      have d2 := hc 2 _ rfl
      have d3 := hc 3 _ rfl
      have d4 := hc 4 _ rfl
      have d5 := hc 5 _ rfl
      have hlx := HLEN.out x (List.mem_of_getElem? hkx)
      have HKX := hide hkx
      clear hkx hc h hP
      obtain ⟨⟨ky, cd⟩, cv⟩ := x
      obtain ⟨A2, n2, c2, rfl, hok'⟩ := hok
      have hcv : BytesAt wr B (.slice A2 n2 c2) cd.data := ⟨A2, n2, c2, rfl, hok'⟩
      clear hok'
      dsimp only at *
      have s4 : (k : Int) < n := by omega
      have s5 : (0 : Int) ≤ k := by omega
      go_upto_region 5 with fail
      refine gen1 (fun W k0 hbW hz => ?_)
      have HS2 := hide (HST.out.via hbW)
      have hzW := HS2.out.b.size
      have hgW : w.heap.size < W.heap.size := by obtain ⟨cs, hh, _⟩ := HS2.out.blk; exact hh.lt
      have hgr : w.heap.size < wr.heap.size := by obtain ⟨cs, hh, _⟩ := HST.out.blk; exact hh.lt
      have jcv : BytesAt W.drew B (.slice A2 n2 c2) cd.data := BytesAt.below (C := B) hcv ((hbW.mono (by omega)).drew) (Nat.le_refl _)
      have j0 := k0.drew
      clear d0 d1 d2 d3 d4 d5 hcv
      have HC := hide (copyCell_any cd A2 n2 c2 B W.drew (by show B ≤ W.heap.size; omega) hlx jcv)
      clear jcv
      go_region_held3 (fun w' => w'.cell? ⟨wr.heap.size, 0, none⟩ = some (.string ky) ∧ w'.cell? ⟨wr.heap.size, 1, none⟩ = some (.int .i64 cd.kind) ∧ w'.cell? ⟨wr.heap.size, 2, none⟩ = some (.slice A2 n2 c2) ∧ w'.cell? ⟨wr.heap.size, 3, none⟩ = some (.int .i64 cd.lo) ∧ w'.cell? ⟨wr.heap.size, 4, none⟩ = some (.int .i64 cd.hi) ∧ w'.cell? ⟨wr.heap.size, 5, none⟩ = some (.int .i64 cd.val))
        (first | (with_reducible exact SixP.of (t := 55) (by assumption)) | exact SixP.touch (L := w.heap.size) (H := w.heap.size + 1) (w := w1) (by (repeat first | (with_reducible refine Touch.oneP ?_ _) | (with_reducible refine Touch.drew ?_)); exact Touch.refl _) (by omega) (SixP.of j0'))
        ((go_at_call 81; (with_reducible refine HC.out.mono ?_); rintro e w1 ⟨A', n', c', rfl, ho, hb1⟩; have j0' := Blk.via hb1 j0; have HS3 := hide (HS2.out.via (Below.trans ((Below.refl _ _).drew) hb1)); obtain ⟨cs, hkk, hcs, _⟩ := HS3.out.blk; have r2 : ∀ j, j < 6 → ∃ u, w1.cell? ⟨w.heap.size, k * 6 + j, none⟩ = some u := (fun j hj => ⟨_, by rw [hkk.cell, Array.getElem?_eq_getElem (by omega)]⟩); have r3 := hkk.frozen; obtain ⟨u0, hu0⟩ := r2 0 (by omega); obtain ⟨u1, hu1⟩ := r2 1 (by omega); obtain ⟨u2, hu2⟩ := r2 2 (by omega); obtain ⟨u3, hu3⟩ := r2 3 (by omega); obtain ⟨u4, hu4⟩ := r2 4 (by omega); obtain ⟨u5, hu5⟩ := r2 5 (by omega); clear r2 hkk hcs; rw [Nat.add_zero] at hu0))
      clear hu0 hu1 hu2 hu3 hu4 hu5 r3
      go_wp2
      go_roundw
      case rel =>
        refine ⟨k + 1, done ++ [⟨⟨ky, cd⟩, .slice A' n' c'⟩], by omega, by go_num, ?_⟩
        exact HS3.out.step (y := ⟨⟨ky, cd⟩, .slice A' n' c'⟩) hlt HKX.out rfl (ho.low (by show w.heap.size + 1 ≤ W.heap.size; omega))
      case measure => simp [intOf]; omega
    · obtain rfl : k = n := by omega
      go_wp2
      go_ret
      have hd := HST.out.done (by omega)
      refine ⟨_, done, rfl, hd, ?_, hbw⟩
      have := HST.out.eqd
      rwa [List.take_of_length_le (by have := HL.out; omega)] at this
end Go.Proofs.YteidmdnhkgcnoaaGreat
