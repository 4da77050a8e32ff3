/-
  WALK OF THE PROGRAM: serial.Replay.
-/
import Derived.Test.YteidmdnhkgcnoaaGreatPO
import Derived.Test.YteidmdnhkgcnoaaGreatPN
import Derived.Test.YteidmdnhkgcnoaaGreatMI
namespace Go.Proofs.YteidmdnhkgcnoaaGreat
open Go.RowKit BigFrame

def toOpV (d : DidV) : OpV := ⟨d.d.op, d.dv⟩
/-- The operations laid out so far. -/
structure OpSt (w : World) (m : Nat) (ds : List DidV) (k : Nat) (W : World) : Prop where
  blk : ∃ cs : Array Value, Blk W w.heap.size 31 cs ∧ cs.size = m * 6 ∧ ∀ (q : Nat) (u : Value), (((ds.take k).map toOpV).flatMap OpV.cells)[q]? = some u → cs[q]? = some u
  b : Below w.heap.size w W
theorem OpSt.via {w W W' : World} {m k : Nat} {ds : List DidV} (h : OpSt w m ds k W) (hb : Below W.heap.size W W') : OpSt w m ds k W' := by
  obtain ⟨cs, h1, h2, h3⟩ := h.blk
  exact ⟨⟨cs, Blk.via hb h1, h2, h3⟩, below_via h.b hb h.b.size⟩
theorem OpSt.step {w W : World} {m k : Nat} {ds : List DidV} {x : DidV} (h : OpSt w m ds k W) (hk : k < m) (hl : ds.length = m) (hx : ds[k]? = some x) :
    OpSt w m ds (k + 1) (putL W w.heap.size (k * 6) (toOpV x).cells) := by
  obtain ⟨cs, hb, hcs, hcl⟩ := h.blk
  have hlt : k * 6 + 6 ≤ cs.size := by rw [hcs]; have := Nat.mul_le_mul_right 6 (show k + 1 ≤ m from hk); omega
  have k2 := putL_blk (toOpV x).cells (k * 6) hb
  obtain ⟨hs2, hq2, hj2⟩ := setL_spec (toOpV x).cells cs (k * 6) (by rw [OpV.cells_length]; exact hlt)
  have htch := putL_touch w.heap.size (toOpV x).cells W W (k * 6) (Touch.refl _)
  refine ⟨⟨_, k2, by omega, fun q u hu => ?_⟩, htch.below h.b (Nat.le_refl _)⟩
  obtain ⟨hi, e⟩ := List.getElem?_eq_some_iff.1 hx
  rw [List.take_succ_eq_append_getElem hi, List.map_append, List.flatMap_append, e] at hu
  have hfl : (((ds.take k).map toOpV).flatMap OpV.cells).length = k * 6 := by rw [flat_length _ 6 OpV.cells_length]; simp; omega
  by_cases hqi : q < k * 6
  · rw [List.getElem?_append_left (by omega)] at hu
    rw [hq2 q (.inl hqi)]
    exact hcl q u hu
  · rw [List.getElem?_append_right (by omega), hfl] at hu
    have := hj2 (q - k * 6) u (by simpa using hu)
    rwa [show k * 6 + (q - k * 6) = q by omega] at this
theorem genO2 {w W : World} {m k : Nat} {ds : List DidV} {x : DidV} {R : World → Prop} (h : OpSt w m ds k W) (hk : k < m) (hl : ds.length = m) (hx : ds[k]? = some x) (hR : ∀ W', OpSt w m ds (k + 1) W' → R W') : R (putL W w.heap.size (k * 6) (toOpV x).cells) := hR _ (h.step hk hl hx)
theorem OpSt.opers {w W : World} {B m : Nat} {D : Option Addr} {ds : List DidV} (h : OpSt w m ds m W) (hD : Dids w B D m ds) (hB : B ≤ w.heap.size) (j : Nat) (hj : j ≤ m) : Opers W W.heap.size (some ⟨w.heap.size, 0, none⟩) j ((ds.take j).map toOpV) := by
  obtain ⟨cs, hk, hcs, hcl⟩ := h.blk
  have hl := hD.1
  rw [List.take_of_length_le (by omega)] at hcl
  refine ⟨by simp; omega, ⟨by rw [flat_length _ 6 OpV.cells_length]; simp; omega, fun hn => ⟨_, rfl, hk.lt, fun q u hu => ?_⟩⟩, fun x hx => ?_⟩
  · rw [add_plain, Nat.zero_add, hk.cell]
    refine hcl q u ?_
    rw [List.map_take] at hu
    rw [← flat_take _ 6 OpV.cells_length, List.getElem?_take] at hu
    split at hu
    · exact hu
    · cases hu
  · obtain ⟨d, hd, rfl⟩ := List.mem_map.1 hx
    exact ((hD.2.2 d (List.mem_of_mem_take hd)).1.below h.b hB).more (Nat.le_trans hB h.b.size)
theorem opsOf_eq (ds : List DidV) (i : Nat) : ops_of ((ds.map toOpV).take i) = opsOf (ds.take i) := by
  unfold ops_of opsOf
  rw [← List.map_take, List.map_map]
  rfl

def didZ3 : Array Value := #[.int .i64 0, .string ByteArray.empty, .slice none 0 0, .int .i64 0, .int .i64 0, .int .i64 0]
theorem info_op : (Tryz.prog.info? 31).map (fun i => (i.zero, i.size, i.bytes)) = some (some (.agg didZ3), 6, 72) := by kernel_rfl

theorem ToldSt.row {s : List PairD} {os : List OpV} {m g base k j : Nat} {done : List AnsV} {W : World} {a : AnsV} (h : ToldSt s os m g base k done W) (ha : done[j]? = some a) :
    W.cell? ⟨g, j * 6, none⟩ = some (.int .i64 a.er) ∧ W.cell? ⟨g, j * 6 + 1, none⟩ = some (.int .i64 a.cd.kind) ∧ W.cell? ⟨g, j * 6 + 2, none⟩ = some a.av ∧ W.cell? ⟨g, j * 6 + 3, none⟩ = some (.int .i64 a.cd.lo) ∧ W.cell? ⟨g, j * 6 + 4, none⟩ = some (.int .i64 a.cd.hi) ∧ W.cell? ⟨g, j * 6 + 5, none⟩ = some (.int .i64 a.cd.val) := by
  obtain ⟨cs, hk, hcs, hcl⟩ := h.blk
  have hat : ∀ i u, i < 6 → a.cells[i]? = some u → W.cell? ⟨g, j * 6 + i, none⟩ = some u := fun i u hi hu => by
    rw [hk.cell]
    refine hcl _ u ?_
    rw [flat_at _ 6 AnsV.cells_length _ _ _ hi, ha]
    exact hu
  exact ⟨hat 0 _ (by omega) rfl, hat 1 _ (by omega) rfl, hat 2 _ (by omega) rfl, hat 3 _ (by omega) rfl, hat 4 _ (by omega) rfl, hat 5 _ (by omega) rfl⟩

set_option maxHeartbeats 3200000 in
set_option maxRecDepth 100000 in
theorem pReplay_any (A : Option Addr) (n c : Nat) (xs : List PairV) (D : Option Addr) (m dc : Nat) (ds : List DidV) (B : Nat) (w : World) (hB : B ≤ w.heap.size) (hn : n ≤ 1000) (hm : m ≤ 1000) (h : Pairs w B A n xs) (hl : ∀ x ∈ xs, x.d.cell.data.length ≤ 1000000) (hD : Dids w B D m ds) (hR : RightS (xs.map PairV.d)) (hW : WfS (xs.map PairV.d)) (hX : ∀ d ∈ ds, OpWf d.d.op ∧ d.d.op.data.length ≤ 1000000) :
    Calls Tryz.prog 40 #[.slice A n c, .slice D m dc] w (ReplayPost w xs ds) := by
  have HL := hide hD.1
  have HXX := hide hX
  have HRR := hide hR
  have HWW := hide hW
  have HLL := hide hl
  obtain ⟨i0, hi, hz0, hz1, hz2⟩ := info_parts info_op
  have hmk := fun W => run_make_rowN (P := Tryz.prog) 59 31 i0 (.agg didZ3) Tryz.underlying59 hi hz0 .i64 .i64 m m (Nat.le_refl _) (by rw [hz2]; omega) (by omega) W
  rw [hz1] at hmk
  clear hi hz0 hz1 hz2 hl hR hW hX
  go_enter Tryz.func40, Tryz.ntmps40
  go_wp2
  go_loopw [18] (fun i wr => ∃ k : Nat, k ≤ m ∧ i = .int .i64 k ∧ OpSt w m ds k wr) (fun i _ => m - (intOf i).toNat)
  case atStart => exact ⟨0, Nat.zero_le _, rfl, ⟨⟨_, Blk.new _ _ _, size_madeCells _ _, (fun q u hu => by simp at hu)⟩, (Below.refl _ _).alloc (Nat.le_refl _) _⟩⟩
  case round =>
    obtain ⟨k, hk, rfl, hst⟩ := hrel
    have HST := hide hst
    have hbw := hst.b
    have hwz := hbw.size
    clear hst
    by_cases hlt : k < m
    · have hDw := hD.below hbw hB
      obtain ⟨b, o, x, rfl, hb, hkx, hok, hc⟩ := hDw.at_ hlt
      have d0 : wr.cell? ⟨b, o + k * 13, none⟩ = some (.int .i64 x.d.txn) := hc 0 _ rfl
      have d1 := hc 1 _ rfl
      have d2 := hc 2 _ rfl
      have d3 := hc 3 _ rfl
      have d4 := hc 4 _ rfl
      have d5 := hc 5 _ rfl
      have d6 := hc 6 _ rfl
      have d7 := hc 7 _ rfl
      have d8 := hc 8 _ rfl
      have d9 := hc 9 _ rfl
      have d10 := hc 10 _ rfl
      have d11 := hc 11 _ rfl
      have d12 := hc 12 _ rfl
      have HKX := hide hkx
      clear hkx hc hDw
      obtain ⟨⟨tx, op, er, cd⟩, dv, cv⟩ := x
      obtain ⟨⟨A2, n2, c2, rfl, hj1⟩, ⟨A3, n3, c3, rfl, hj2⟩⟩ := hok
      clear hj1 hj2
      dsimp only at *
      have s4 : (k : Int) < m := by omega
      have s5 : (0 : Int) ≤ k := by omega
      go_upto_region 5 with fail
      refine gen1 (fun W k0 hbW hz => ?_)
      have HS2 := hide (HST.out.via hbW)
      clear d0 d1 d2 d3 d4 d5 d6 d7 d8 d9 d10 d11 d12
      have q0 := k0.cell
      obtain ⟨cs, hkk, hcs, _⟩ := HS2.out.blk
      have r2 : ∀ j, j < 6 → ∃ u, W.cell? ⟨w.heap.size, k * 6 + j, none⟩ = some u := fun j hj => ⟨_, by rw [hkk.cell, Array.getElem?_eq_getElem (by omega)]⟩
      obtain ⟨u0, hu0⟩ := r2 0 (by omega)
      obtain ⟨u1, hu1⟩ := r2 1 (by omega)
      obtain ⟨u2, hu2⟩ := r2 2 (by omega)
      obtain ⟨u3, hu3⟩ := r2 3 (by omega)
      obtain ⟨u4, hu4⟩ := r2 4 (by omega)
      obtain ⟨u5, hu5⟩ := r2 5 (by omega)
      rw [Nat.add_zero] at hu0
      have r3 := hkk.frozen
      clear r2 hcs hkk
      go_upto_region 6 with fail
      refine genO2 (x := ⟨⟨tx, op, er, cd⟩, .slice A2 n2 c2, .slice A3 n3 c3⟩) HS2.out hlt HL.out.symm HKX.out (fun W4 hs4 => ?_)
      clear hu0 hu1 hu2 hu3 hu4 hu5 r3 q0
      go_wp2
      go_roundw
      case rel => exact ⟨k + 1, by omega, by go_num, hs4⟩
      case measure => simp [intOf]; omega
    · obtain rfl : k = m := by omega
      have hOp := HST.out.opers hD hB
      have hP1 := h.below hbw hB
      have hRUN := fun (W : World) (hbW : Below wr.heap.size wr W) (j : Nat) (hj : j ≤ k) => run_any A n c xs (some ⟨w.heap.size, 0, none⟩) j k ((ds.take j).map toOpV) W.heap.size W (Nat.le_refl _) hn (by omega) ((hP1.below hbW (by omega)).more (by have := hbW.size; omega)) HLL.out (((HST.out.via hbW).opers hD hB j hj)) HRR.out HWW.out (fun q hq => by obtain ⟨d, hd, rfl⟩ := List.mem_map.1 hq; exact HXX.out d (List.mem_of_mem_take hd))
      have HRUN := hide hRUN
      clear hRUN hOp
      go_wp2_with fail
      (with_reducible refine (HRUN.out wr (Below.refl _ _) k (Nat.le_refl _)).mono ?_)
      rintro e w2 ⟨v1, ys1, g2, done, rfl, st2, hyd2, htl2, hb2⟩
      have hfull : ds.take k = ds := List.take_of_length_le (by have := HL.out; omega)
      rw [hfull] at hyd2 htl2
      clear hfull
      have HYD2 := hide hyd2
      have HTL2 := hide htl2
      have hb02 := below_via hbw hb2 hwz
      clear hyd2 htl2
      obtain ⟨A9, c9, rfl, _, _, _⟩ := st2.form
      have ST2 := hide st2
      clear st2
      go_wp2
      obtain ⟨wo, rfl⟩ : ∃ wo : World, wo = wr := ⟨_, rfl⟩
      go_loopw [9, 37] (fun s9 i wx => ∃ j : Nat, j ≤ k ∧ s9 = .slice A9 ys1.length c9 ∧ i = .int .i64 j ∧ Below w2.heap.size w2 wx ∧ AllSame (xs.map PairV.d) ds j) (fun _ i _ => k - (intOf i).toNat)
      case atStart => exact ⟨0, Nat.zero_le _, rfl, rfl, Below.refl _ _, fun i d hi => absurd hi (by omega)⟩
      case round =>
        obtain ⟨j, hj, rfl, rfl, hbq, hall⟩ := hrel
        have HALL := hide hall
        have hqz := hbq.size
        have hb0q := below_via hb02 hbq hb02.size
        clear hall
        by_cases hjk : j < k
        · have hDw := hD.below hb0q hB
          obtain ⟨b, o, x, rfl, hb, hkx, hok, hc⟩ := hDw.at_ hjk
          have d0 : wr.cell? ⟨b, o + j * 13, none⟩ = some (.int .i64 x.d.txn) := hc 0 _ rfl
          have d1 := hc 1 _ rfl
          have d2 := hc 2 _ rfl
          have d3 := hc 3 _ rfl
          have d4 := hc 4 _ rfl
          have d5 := hc 5 _ rfl
          have d6 := hc 6 _ rfl
          have d7 := hc 7 _ rfl
          have d8 := hc 8 _ rfl
          have d9 := hc 9 _ rfl
          have d10 := hc 10 _ rfl
          have d11 := hc 11 _ rfl
          have d12 := hc 12 _ rfl
          obtain ⟨a, ha⟩ : ∃ a, done[j]? = some a := ⟨_, List.getElem?_eq_getElem (by rw [HTL2.out.len]; exact hjk)⟩
          have hval := HTL2.out.val j a (toOpV x) ha (by rw [List.getElem?_map, hkx]; rfl)
          rw [opsOf_eq] at hval
          have HVAL := hide hval
          have hoa := (HTL2.out.ok a (List.mem_of_getElem? ha)).via hbq
          have HKX := hide hkx
          clear hkx hc hDw hval
          obtain ⟨⟨tx, op, er, cd⟩, dv, cv⟩ := x
          obtain ⟨hd1, hd2⟩ := hok
          obtain ⟨A2, n2, c2, rfl, hj1⟩ := hd1
          clear hj1
          obtain ⟨A3, n3, c3, rfl, hj2⟩ := hd2
          have hcv : BytesAt wr B (.slice A3 n3 c3) cd.data := ⟨A3, n3, c3, rfl, hj2⟩
          clear hj2
          obtain ⟨er', cd', av⟩ := a
          obtain ⟨A4, n4, c4, rfl⟩ := hoa.form
          dsimp only at *
          have HV2 : Hid (toldD (xs.map PairV.d) (opsOf (ds.take j)) op = (er', cd')) := hide HVAL.out.symm
          clear HVAL
          have s4 : (j : Int) < k := by omega
          have s5 : (0 : Int) ≤ j := by omega
          go_upto_region 11 with fail
          refine gen1 (fun W k0 hbW hz => ?_)
          have hb2W := below_via hbq hbW hbq.size
          have htW := HTL2.out.via hb2W
          clear d0 d1 d2 d3 d4 d5 d6 d7 d8 d9 d10 d11 d12
          have rt := fun (t : In (Below W.heap.size W)) => (htW.via t.h).row ha
          have r0 := fun t => (rt t).1
          have r1 := fun t => (rt t).2.1
          have r2 := fun t => (rt t).2.2.1
          have r3 := fun t => (rt t).2.2.2.1
          have r4 := fun t => (rt t).2.2.2.2.1
          have r5 := fun t => (rt t).2.2.2.2.2
          dsimp only at r0 r1 r2 r3 r4 r5
          have a0 : ∀ t : In (Below W.heap.size W), t.w.cell? ⟨wr.heap.size, 7, none⟩ = some (.int .i64 er) := fun t => (Blk.via t.h k0).cell 7
          have a1 : ∀ t : In (Below W.heap.size W), t.w.cell? ⟨wr.heap.size, 7 + 1, none⟩ = some (.int .i64 cd.kind) := fun t => (Blk.via t.h k0).cell 8
          have a2 : ∀ t : In (Below W.heap.size W), t.w.cell? ⟨wr.heap.size, 7 + 2, none⟩ = some (.slice A3 n3 c3) := fun t => (Blk.via t.h k0).cell 9
          have a3 : ∀ t : In (Below W.heap.size W), t.w.cell? ⟨wr.heap.size, 7 + 3, none⟩ = some (.int .i64 cd.lo) := fun t => (Blk.via t.h k0).cell 10
          have a4 : ∀ t : In (Below W.heap.size W), t.w.cell? ⟨wr.heap.size, 7 + 4, none⟩ = some (.int .i64 cd.hi) := fun t => (Blk.via t.h k0).cell 11
          have a5 : ∀ t : In (Below W.heap.size W), t.w.cell? ⟨wr.heap.size, 7 + 5, none⟩ = some (.int .i64 cd.val) := fun t => (Blk.via t.h k0).cell 12
          have hav5 := (hoa.via hbW).bytes
          have hcv5 : BytesAt W W.heap.size (.slice A3 n3 c3) cd.data := (hcv.below hbW (by have := hb0q.size; omega)).more (by have := hb0q.size; have := hbW.size; omega)
          have HSA := hide (fun (bb : Bool) (hbb : (er' == er && cellEq cd' cd) = bb) (t : In (Below W.heap.size W)) => hbb ▸ pSameAnswer_any er' er cd' cd (.slice A4 n4 c4) (.slice A3 n3 c3) W.heap.size t.w t.h.size (hav5.below t.h (Nat.le_refl _)) (hcv5.below t.h (Nat.le_refl _)))
          clear rt hav5 hcv5 htW hcv hoa
          cases hsm : (er' == er && cellEq cd' cd)
          · have HSA' := hide (HSA.out _ hsm)
            have HSM := hide hsm
            clear HSA hsm
            refine wp_region_in (C := (Below W.heap.size W)) (by kernel_rfl) (by kernel_rfl) (Below.refl _ _).drew ?_
            repeat (first | go_big_quiet_step ((go_at_call 56; with_reducible exact calls_in (Nat.le_refl _) (HSA'.out _))) | quiet_step ((go_at_call 56; with_reducible exact calls_in (Nat.le_refl _) (HSA'.out _))))
            refine wpQuiet_nil ?_
            intro _ hw'
            obtain ⟨t, hw''⟩ := hw'
            subst hw''
            clear r0 r1 r2 r3 r4 r5 a0 a1 a2 a3 a4 a5
            have hbt := below_via (below_via hb2 hb2W hb2.size) t.h (Nat.le_trans hb2.size hb2W.size)
            have hb0t := below_via hbw hbt hwz
            go_wp2_with fail
            (with_reducible refine (HRUN.out t.w hbt j hj).mono ?_)
            rintro e w5 ⟨v5, ys5, g5, done5, rfl, st5, hyd5, htl5, hb5⟩
            have HYD5 := hide hyd5
            clear hyd5 htl5
            obtain ⟨A8, c8, rfl, _, _, hP8⟩ := st5.form
            go_wp2
            go_ret2
            have hre := replay_at (s := xs.map PairV.d) (ds := ds) (k := j) (by have := HL.out; omega) HALL.out (fun d hd => by rw [HKX.out] at hd; injection hd with hd; subst hd; show sameAns (toldD (xs.map PairV.d) (opsOf (ds.take j)) op).1 (toldD (xs.map PairV.d) (opsOf (ds.take j)) op).2 er cd = false; rw [HV2.out]; exact HSM.out)
            refine ⟨A8, c8, ys5, by rw [hre]; rfl, ?_, hP8, below_via hb0t hb5 hb0t.size⟩
            rw [hre, HYD5.out]
            unfold ops_of opsOf
            rw [List.map_map]
            rfl
          · have HSA' := hide (HSA.out _ hsm)
            have HSM := hide hsm
            clear HSA hsm
            refine wp_region_in (C := (Below W.heap.size W)) (by kernel_rfl) (by kernel_rfl) (Below.refl _ _).drew ?_
            repeat (first | go_big_quiet_step ((go_at_call 56; with_reducible exact calls_in (Nat.le_refl _) (HSA'.out _))) | quiet_step ((go_at_call 56; with_reducible exact calls_in (Nat.le_refl _) (HSA'.out _))))
            refine wpQuiet_nil ?_
            intro _ hw'
            obtain ⟨t, hw''⟩ := hw'
            subst hw''
            clear r0 r1 r2 r3 r4 r5 a0 a1 a2 a3 a4 a5
            go_wp2
            go_roundw
            case rel => exact ⟨j + 1, by omega, rfl, by go_num, below_via hb2W t.h hb2W.size, HALL.out.snoc HKX.out (by show sameAns (toldD (xs.map PairV.d) (opsOf (ds.take j)) op).1 (toldD (xs.map PairV.d) (opsOf (ds.take j)) op).2 er cd = true; rw [HV2.out]; exact HSM.out)⟩
            case measure => simp [intOf]; omega
        · obtain rfl : j = k := by omega
          go_wp2
          go_ret2
          have hre := replay_at (s := xs.map PairV.d) (ds := ds) (k := j) (by have := HL.out; omega) HALL.out (fun d hd => by have := (List.getElem?_eq_some_iff.1 hd).1; have := HL.out; omega)
          have st3 := ST2.out.via hbq
          obtain ⟨A8, c8, e8, _, _, hP9⟩ := st3.form
          obtain ⟨rfl, rfl⟩ : A8 = A9 ∧ c8 = c9 := by injection e8 with e1 e2 e3; exact ⟨e1.symm, e3.symm⟩
          refine ⟨A8, c8, ys1, by rw [hre]; rfl, ?_, hP9, hb0q⟩
          rw [hre, HYD2.out, ← opsOf_eq, List.take_of_length_le (by have := HL.out; simp; omega)]
end Go.Proofs.YteidmdnhkgcnoaaGreat
