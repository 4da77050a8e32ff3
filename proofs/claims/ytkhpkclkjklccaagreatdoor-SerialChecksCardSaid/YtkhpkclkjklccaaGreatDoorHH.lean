/-
  WALKS OF THE REFERENCE: ref33.Did, ref34.Did, ref34.Check.
-/
import Derived.Test.YtkhpkclkjklccaaGreatDoorHG
import Derived.Test.YtkhpkclkjklccaaGreatDoorMI
import Derived.Deep.RegionHeld3
namespace Go.Proofs.YtkhpkclkjklccaaGreatDoor
open Go.RowKit


/-- An event's Did, its bytes where they lay. -/
def evDid (x : EvV) : DidV := ⟨didOfEv x.d, x.dv, x.cv⟩
def allV (xs : List EvV) (zs : List Int) : List DidV := (xs.filter (fun x => x.d.act == 1 && decide (x.d.txn ∈ zs))).map evDid
theorem allV_map (xs : List EvV) : (allV xs (comL xs)).map DidV.d = allD xs := by
  unfold allV allD
  rw [List.map_map]
  rfl
theorem allV_yes {xs : List EvV} {zs : List Int} {k : Nat} {x : EvV} (h : xs[k]? = some x) (h1 : (x.d.act == 1) = true) (h2 : decide (x.d.txn ∈ zs) = true) : allV (xs.take (k + 1)) zs = allV (xs.take k) zs ++ [evDid x] := by
  unfold allV
  rw [take_snoc1 h, List.filter_append, List.map_append]
  simp only [List.filter_cons, h1, h2, Bool.and_self, if_true, List.filter_nil, List.map_cons, List.map_nil]
theorem allV_no {xs : List EvV} {zs : List Int} {k : Nat} {x : EvV} (h : xs[k]? = some x) (h1 : (x.d.act == 1 && decide (x.d.txn ∈ zs)) = false) : allV (xs.take (k + 1)) zs = allV (xs.take k) zs := by
  unfold allV
  rw [take_snoc1 h, List.filter_append, List.map_append]
  simp only [List.filter_cons, h1, List.filter_nil, List.map_nil, List.append_nil, Bool.false_eq_true, if_false]
theorem allV_len (xs : List EvV) (zs : List Int) : (allV xs zs).length ≤ xs.length := by
  unfold allV
  rw [List.length_map]
  exact List.length_filter_le _ _
theorem allV_mem {xs : List EvV} {zs : List Int} {y : DidV} (h : y ∈ allV xs zs) : ∃ x ∈ xs, y = evDid x := by
  obtain ⟨x, hx, rfl⟩ := List.mem_map.1 h
  exact ⟨x, (List.mem_filter.1 hx).1, rfl⟩
theorem row_via {W W' : World} {base n : Nat} {e : TypeId} {size : Nat} {v : Value} {xs : List Value} (h : W.ownsRow base e size v n xs) (hb : Below W.heap.size W W') : W'.ownsRow base e size v n xs :=
  row_keep h fun q hq => hb.block q (World.ownsRow.lt h q hq).2
/-- A list of Dids told, its row the call's own. -/
def DidsPost (w : World) (ys : List DidV) (e : Ending) (w' : World) : Prop := ∃ A c, e = .returned (.slice A ys.length c) ∧ ys.length ≤ c ∧ Dids w' w'.heap.size A ys.length ys ∧ Below w.heap.size w w'
theorem held_ev {W : World} {b p : Nat} {d : EvD} {A1 A2 : Option Addr} {n1 m1 n2 m2 : Nat} (h : EvRow W b p ⟨d, .slice A1 n1 m1, .slice A2 n2 m2⟩) : (W.cell? ⟨b, p + 2, none⟩ = some (.int .i64 d.txn) ∧ W.cell? ⟨b, p + 3, none⟩ = some (.int .i64 d.op.act) ∧ W.cell? ⟨b, p + 3 + 1, none⟩ = some (.string d.op.key) ∧ W.cell? ⟨b, p + 3 + 2, none⟩ = some (.slice A1 n1 m1) ∧ W.cell? ⟨b, p + 3 + 3, none⟩ = some (.int .i64 d.op.lo) ∧ W.cell? ⟨b, p + 3 + 4, none⟩ = some (.int .i64 d.op.hi) ∧ W.cell? ⟨b, p + 3 + 5, none⟩ = some (.int .i64 d.op.n) ∧ W.cell? ⟨b, p + 9, none⟩ = some (.int .i64 d.err) ∧ W.cell? ⟨b, p + 9 + 1, none⟩ = some (.int .i64 d.cell.kind) ∧ W.cell? ⟨b, p + 9 + 2, none⟩ = some (.slice A2 n2 m2) ∧ W.cell? ⟨b, p + 9 + 3, none⟩ = some (.int .i64 d.cell.lo) ∧ W.cell? ⟨b, p + 9 + 4, none⟩ = some (.int .i64 d.cell.hi) ∧ W.cell? ⟨b, p + 9 + 5, none⟩ = some (.int .i64 d.cell.val)) := h.2.2

set_option maxHeartbeats 4000000 in
set_option maxRecDepth 100000 in
theorem rDid_any (A O : Option Addr) (m c n oc : Nat) (xs : List EvV) (zs : List Int) (B : Nat) (w : World) (hB : B ≤ w.heap.size) (hm : m ≤ 1000) (hn : n ≤ 1000) (h : Evs w B A m xs) (ho : Ints w B O n zs) :
    Calls Tryz.prog 40 #[.slice A m c, .slice O n oc] w (DidsPost w (allV xs zs)) := by
  have HL := hide h.1
  have HEV := hide h
  obtain ⟨i0, hi, hz0, hz1, hz2⟩ := info_parts info_didh
  go_enter Tryz.func40, Tryz.ntmps40
  go_wp2
  go_loopw [5, 6] (fun t i wr => ∃ k : Nat, k ≤ m ∧ i = .int .i64 k ∧ wr.ownsRow w.heap.size 38 13 t (allV (xs.take k) zs).length ((allV (xs.take k) zs).flatMap DidV.cells) ∧ Below w.heap.size w wr) (fun _ i _ => m - (intOf i).toNat)
  case atStart => exact ⟨0, Nat.zero_le _, rfl, World.ownsRow_nil _ _ _ _, Below.refl _ _⟩
  case round =>
    obtain ⟨k, hk, rfl, hown, hbw⟩ := hrel
    by_cases hlt : k < m
    · have hE := h.below hbw hB
      obtain ⟨b, o, x, rfl, hb, hkx, hok, _⟩ := hE.at_ hlt
      obtain ⟨c0, c1, c2, _⟩ := hE.row hkx
      have HK := hide hkx
      have hz := hbw.size
      have hIn := hide (fun W (hb : Below w.heap.size w W) t => In_any O n oc zs t B W (by omega) (ho.below hb hB))
      have hrow := fun W (hb : Below w.heap.size w W) => (h.below hb hB).row hkx
      obtain ⟨d, dv, cv⟩ := x
      obtain ⟨⟨A1, n1, m1, rfl, p1⟩, ⟨A2, n2, m2, rfl, p2⟩⟩ := hok
      have HRW := hide (fun W hb => held_ev (hrow W hb))
      dsimp only at *
      clear p1 p2 hkx hE hrow c1
      have s1 : (k : Int) < m := by omega
      have s2 : (0 : Int) ≤ k := by omega
      have hbz : b < wr.heap.size := by omega
      have hlc : (allV (xs.take k) zs).length ≤ k := Nat.le_trans (allV_len _ _) (List.length_take_le _ _)
      cases t1 : ((d.act : Int) == 1)
      · have HT := hide t1
        go_wp2
        go_roundw
        case rel => exact ⟨k + 1, by omega, by go_num, by rw [allV_no HK.out (by simp only [HT.out, Bool.false_and])]; exact hown, hbw⟩
        case measure => simp [intOf]; omega
      · have HT := hide t1
        cases t2 : decide (d.txn ∈ zs)
        · have HT2 := hide t2
          have hIn2 := hide (fun W hb => t2 ▸ hIn.out W hb d.txn)
          clear t2
          go_wp2_with (go_at_call 53; refine (hIn2.out _ hbw).mono ?_; rintro e w2 ⟨rfl, rfl⟩)
          go_roundw
          case rel => exact ⟨k + 1, by omega, by go_num, by rw [allV_no HK.out (by simp only [HT2.out, Bool.and_false])]; exact hown, hbw⟩
          case measure => simp [intOf]; omega
        · have HT2 := hide t2
          have hIn2 := hide (fun W hb => t2 ▸ hIn.out W hb d.txn)
          clear t2
          obtain ⟨A3, c3', rfl, hcap3, _⟩ := own_slice hown
          clear hcap3
          have hownd := hown.drew
          have jb := hbw.drew
          have jz : w.heap.size ≤ wr.drew.heap.size := hz
          have HNW : Hid (∀ u ∈ DidV.cells (evDid ⟨d, .slice A1 n1 m1, .slice A2 n2 m2⟩), u.oneCell' = true) := fun u hu => by
            simp only [DidV.cells, evDid, opCells, cellCells, didOfEv, List.cons_append, List.nil_append, List.mem_cons, List.not_mem_nil, or_false] at hu
            rcases hu with rfl | rfl | rfl | rfl | rfl | rfl | rfl | rfl | rfl | rfl | rfl | rfl | rfl <;> rfl
          go_wp2_with (go_at_call 53; refine (hIn2.out _ hbw).mono ?_; rintro e w2 ⟨rfl, rfl⟩)
          clear c0 c2 t1
          go_region_held3 (fun w' => (w'.cell? ⟨b, o + k * 15 + 2, none⟩ = some (.int .i64 d.txn) ∧ w'.cell? ⟨b, o + k * 15 + 3, none⟩ = some (.int .i64 d.op.act) ∧ w'.cell? ⟨b, o + k * 15 + 3 + 1, none⟩ = some (.string d.op.key) ∧ w'.cell? ⟨b, o + k * 15 + 3 + 2, none⟩ = some (.slice A1 n1 m1) ∧ w'.cell? ⟨b, o + k * 15 + 3 + 3, none⟩ = some (.int .i64 d.op.lo) ∧ w'.cell? ⟨b, o + k * 15 + 3 + 4, none⟩ = some (.int .i64 d.op.hi) ∧ w'.cell? ⟨b, o + k * 15 + 3 + 5, none⟩ = some (.int .i64 d.op.n) ∧ w'.cell? ⟨b, o + k * 15 + 9, none⟩ = some (.int .i64 d.err) ∧ w'.cell? ⟨b, o + k * 15 + 9 + 1, none⟩ = some (.int .i64 d.cell.kind) ∧ w'.cell? ⟨b, o + k * 15 + 9 + 2, none⟩ = some (.slice A2 n2 m2) ∧ w'.cell? ⟨b, o + k * 15 + 9 + 3, none⟩ = some (.int .i64 d.cell.lo) ∧ w'.cell? ⟨b, o + k * 15 + 9 + 4, none⟩ = some (.int .i64 d.cell.hi) ∧ w'.cell? ⟨b, o + k * 15 + 9 + 5, none⟩ = some (.int .i64 d.cell.val)))
            (first | (with_reducible exact HRW.out _ jb) | (with_reducible exact HRW.out _ (jb.alloc jz _)) | (with_reducible exact HRW.out _ jb3) | (with_reducible exact HRW.out _ (hbw.alloc hz _).drew))
            (((refine step_append_any _ (by rfl) (.tmp 28) (.tmp 45) _ (by rfl) w.heap.size 38 i0 _ 13 144 Tryz.underlying39 hi hz0 hz1 hz2 rfl (by omega) (.slice A3 (allV (xs.take k) zs).length c3') (allV (xs.take k) zs).length _ (by rfl) (hownd.alloc _) (wr.heap.size + 1) (some ⟨wr.heap.size, 0, none⟩) 1 1 (DidV.cells (evDid ⟨d, .slice A1 n1 m1, .slice A2 n2 m2⟩)) (by rfl) (Reads.of_blk (n := 1) (size := 13) (Blk.new _ _ _) rfl) HNW.out (by unfold maxLen; omega) (by omega) (by simp; omega) ?_; intro v' w1 hown' hgr _; have jb3 : Below w.heap.size w w1 := (jb.alloc jz _).grown hgr (by simp; omega) (fun q hq => (World.ownsRow.lt hownd q hq).1))))
          go_wp2
          go_roundw
          case rel =>
            refine ⟨k + 1, by omega, by go_num, ?_, jb3⟩
            rw [allV_yes HK.out HT.out HT2.out]
            simpa using hown'
          case measure => simp [intOf]; omega
    · obtain rfl : k = m := by omega
      rw [List.take_of_length_le (by have := HL.out; omega)] at hown
      obtain ⟨A3, c3', rfl, hc3, _, _, hR, _⟩ := own_slice hown
      have hE := h.below hbw hB
      go_wp2
      go_ret
      refine ⟨_, _, rfl, hc3, ⟨rfl, hR, fun y hy => ?_⟩, hbw⟩
      obtain ⟨x, hx, rfl⟩ := allV_mem hy
      exact (hE.2.2 x hx).more (by have := hbw.size; omega)

set_option maxHeartbeats 4000000 in
set_option maxRecDepth 100000 in
theorem rDid34_any (A : Option Addr) (m c : Nat) (xs : List EvV) (B : Nat) (w : World) (hB : B ≤ w.heap.size) (hm : m ≤ 1000) (h : Evs w B A m xs) :
    Calls Tryz.prog 25 #[.slice A m c] w (DidsPost w (keepL (allV xs (comL xs)))) := by
  have HCO := hide (rCommitted_any A m c xs B w hB (by omega) h)
  have hcl : (comL xs).length ≤ m := by rw [h.1]; exact comL_len xs
  have hyl : (allV xs (comL xs)).length ≤ m := by rw [h.1]; exact allV_len _ _
  have HDI := hide (fun W (hb : Below w.heap.size w W) Az cz hz => rDid_any A Az m c (comL xs).length cz xs (comL xs) W.heap.size W (Nat.le_refl _) hm (by omega) ((h.below hb hB).more (Nat.le_trans hB hb.size)) hz)
  obtain ⟨i0, hi, hz0, hz1, hz2⟩ := info_parts info_didh
  generalize allV xs (comL xs) = ys at *
  go_enter Tryz.func25, Tryz.ntmps25
  go_wp2_with fail
  refine HCO.out.mono ?_
  rintro e w1 ⟨Az, cz, rfl, hz, hb1⟩
  have HDI2 := hide (HDI.out w1 hb1 Az cz hz)
  clear HDI
  go_wp2_with fail
  refine HDI2.out.mono ?_
  rintro e w2 ⟨Ay, cy, rfl, hcy, hY, hb2⟩
  have hb02 := below_via hb1 hb2 hb1.size
  clear HDI2 hz
  obtain ⟨n, hn⟩ : ∃ n, n = ys.length := ⟨_, rfl⟩
  rw [← hn] at hY hyl hcy ⊢
  have HN := hide hn
  clear hn
  go_wp2
  go_loopw [4, 5] (fun t i wr => ∃ k : Nat, k ≤ n ∧ i = .int .i64 k ∧ wr.ownsRow w2.heap.size 38 13 t (keepL (ys.take k)).length ((keepL (ys.take k)).flatMap DidV.cells) ∧ Below w2.heap.size w2 wr) (fun _ i _ => n - (intOf i).toNat)
  case atStart => exact ⟨0, Nat.zero_le _, rfl, World.ownsRow_nil _ _ _ _, Below.refl _ _⟩
  case round =>
    obtain ⟨k, hk, rfl, hown, hbw⟩ := hrel
    by_cases hlt : k < n
    · have hD := hY.below hbw (Nat.le_refl _)
      obtain ⟨b, o, x, rfl, hb, hkx, hok, _⟩ := hD.at_ hlt
      have hrw := hD.row hkx
      have HK := hide hkx
      have hz := hbw.size
      have hone := hok.one
      obtain ⟨d, dv, cv⟩ := x
      obtain ⟨⟨A1, n1, m1, rfl, p1⟩, ⟨A2, n2, m2, rfl, p2⟩⟩ := hok
      have HONE := hide hone
      have HRW := hide (fun W (hb : Below wr.heap.size wr W) => (hD.below hb hz).row hkx)
      dsimp only at *
      obtain ⟨c0, c1, c2, c3, c4, c5, c6, c7, c8, c9, c10, c11, c12⟩ := hrw
      clear p1 p2 hkx hone
      have s1 : (k : Int) < n := by omega
      have s2 : (0 : Int) ≤ k := by omega
      have hbz : b < wr.heap.size := by omega
      have hlc : (keepL (ys.take k)).length ≤ k := keepL_len _ _
      have HN2 := hide (fun W => rCounts_any d A1 A2 n1 m1 n2 m2 W)
      unfold didA at HN2
      cases t1 : countsD d
      · rw [t1] at HN2
        have HT := hide t1
        clear t1
        go_wp2_with fail
        refine (HN2.out _).mono ?_
        rintro e w3 ⟨rfl, hb3⟩
        go_wp2
        go_roundw
        case rel =>
          exact ⟨k + 1, by omega, by go_num, by rw [keepL_snoc_no HK.out HT.out]; exact row_via hown hb3, below_via hbw hb3 hz⟩
        case measure => simp [intOf]; omega
      · rw [t1] at HN2
        have HT := hide t1
        clear t1
        obtain ⟨A3, c3', rfl, hcap3, _⟩ := own_slice hown
        clear hcap3
        go_wp2_with fail
        refine (HN2.out _).mono ?_
        rintro e w3 ⟨rfl, hb3⟩
        obtain ⟨d0, d1, d2, d3, d4, d5, d6, d7, d8, d9, d10, d11, d12⟩ := HRW.out _ hb3
        have hown3 := row_via hown hb3
        have hz3 := hb3.size
        have hbz3 : b < w3.heap.size := by omega
        clear c0 c1 c2 c3 c4 c5 c6 c7 c8 c9 c10 c11 c12
        dsimp only at *
        go_wp2_with (at_builtin; refine wpList_append_any _ rfl (.tmp 21) (.tmp 26) _ rfl w2.heap.size 38 i0 _ 13 144 Tryz.underlying39 hi hz0 hz1 hz2 rfl (by omega) _ _ _ rfl (hown3.alloc _) (w3.heap.size + 1) (some ⟨w3.heap.size, 0, none⟩) 1 1 (DidV.cells ⟨d, .slice A1 n1 m1, .slice A2 n2 m2⟩) rfl (Reads.of_blk (n := 1) (size := 13) (Blk.new _ _ _) rfl) HONE.out ?c4 ?c5 ?c6 ?_)
        case c4 => unfold maxLen; omega
        case c5 => omega
        case c6 => simp; omega
        intro v' w4 hown4 hg hat
        have hr0 := (World.ownsRow.lt hown3)
        go_wp2
        go_roundw
        case rel =>
          refine ⟨k + 1, by omega, by go_num, ?_, ?_⟩
          · rw [keepL_snoc_yes HK.out HT.out]
            simpa using hown4
          · exact ((below_via hbw hb3 hz).alloc (by omega) _).grown hg (by simp; omega) (fun q hq => (hr0 q hq).1)
        case measure => simp [intOf]; omega
    · obtain rfl : k = n := by omega
      rw [List.take_of_length_le (by have := HN.out; omega)] at hown
      obtain ⟨A3, c3', rfl, hc3, _, _, hR, _⟩ := own_slice hown
      have hD := hY.below hbw (Nat.le_refl _)
      go_wp2
      go_ret
      refine ⟨_, _, rfl, hc3, ⟨rfl, hR, fun y hy => (hD.2.2 y (List.mem_filter.1 hy).1).more (by have := hbw.size; omega)⟩, below_via hb02 hbw hb02.size⟩

set_option maxHeartbeats 4000000 in
set_option maxRecDepth 100000 in
theorem rCheck_any (Ap : Option Addr) (np cp : Nat) (ps : List PairV) (A : Option Addr) (m c : Nat) (xs : List EvV) (B : Nat) (w : World) (hB : B ≤ w.heap.size) (hn : np ≤ 1000) (hnc : np ≤ cp) (hm : m ≤ 1000) (hP : Pairs w B Ap np ps) (h : Evs w B A m xs)
    (hR : RightS (ps.map PairV.d)) (hW : WfS (ps.map PairV.d)) (hX : ∀ x ∈ xs, OpWf x.d.op) :
    Calls Tryz.prog 9 #[.slice Ap np cp, .slice A m c] w (ChkPost (ps.map PairV.d) (didD xs) (comL xs) w) := by
  have HX := hide hX
  have HR := hide hR
  have HW := hide hW
  have HDI := hide (rDid34_any A m c xs B w hB hm h)
  have HCO := hide (fun W (hb : Below w.heap.size w W) => rCommitted_any A m c xs W.heap.size W (Nat.le_refl _) (by omega) ((h.below hb hB).more (Nat.le_trans hB hb.size)))
  have hcl : (comL xs).length ≤ 1000 := Nat.le_trans (comL_len xs) (by have := h.1; omega)
  have hyl : (keepL (allV xs (comL xs))).length ≤ 1000 := Nat.le_trans (List.length_filter_le _ _) (Nat.le_trans (allV_len _ _) (by have := h.1; omega))
  have hkd : (keepL (allV xs (comL xs))).map DidV.d = didD xs := keep_map (allV_map xs)
  have HKD := hide hkd
  clear hX hR hW hkd
  generalize keepL (allV xs (comL xs)) = K at *
  go_enter Tryz.func9, Tryz.ntmps9
  go_wp2_with fail
  refine HDI.out.mono ?_
  rintro e w1 ⟨A2, c2, rfl, hnc2, hD2, hb1⟩
  go_wp2_with fail
  refine (HCO.out w1 hb1).mono ?_
  rintro e w2 ⟨Az, cz, rfl, hz, hb2⟩
  have hb02 := below_via hb1 hb2 hb1.size
  have HORD := hide (rOrder_any A2 Az K.length c2 (comL xs).length cz K (comL xs) w2.heap.size w2 (Nat.le_refl _) (by omega) (by omega) hnc2 ((hD2.below hb2 (Nat.le_refl _)).more hb2.size) hz)
  clear hnc2 hD2 hz HDI HCO
  go_wp2_with fail
  refine HORD.out.mono ?_
  intro e w4 hpo
  obtain ⟨hb4, hpo⟩ := hpo.data HKD.out
  have hb04 := below_via hb02 hb4 hb02.size
  obtain ⟨hany, rfl⟩ | ⟨hany, hord, rfl⟩ | ⟨hany, ys, A4, c4, hord, rfl, hD4⟩ := hpo
  · have HE := hide (show checkD (ps.map PairV.d) (didD xs) (comL xs) = (0, 1) by unfold checkD; rw [if_pos hany])
    clear hany
    go_wp2
    go_ret2
    refine ⟨?_, hb04⟩
    rw [HE.out]
    rfl
  · have HE := hide (show checkD (ps.map PairV.d) (didD xs) (comL xs) = (0, 15) by unfold checkD; rw [if_neg (by rw [hany]; decide), hord])
    clear hany hord
    go_wp2
    go_ret2
    refine ⟨?_, hb04⟩
    rw [HE.out]
    rfl
  · have hys : ys.length ≤ 1000 := by rw [← hD4.1]; exact hyl
    have hym : ∀ y ∈ ys, ∃ x ∈ xs, y.d = didOfEv x.d := fun y hy => by
      have h1 := (ord_permD _ _ _ _ hord).mem_iff.1 (List.mem_map.2 ⟨y, hy, rfl⟩)
      exact allD_mem (List.mem_filter.1 h1).1
    have HCK := hide (show checkD (ps.map PairV.d) (didD xs) (comL xs) = if (replayD (ps.map PairV.d) (ys.map DidV.d)).2 < ys.length then ((0 : Int), (14 : Int)) else (((invs ((didD xs).map (rankD (comL xs))) : Nat) : Int), 0) by unfold checkD; rw [if_neg (by rw [hany]; decide), hord]; simp only [List.length_map])
    have HREP := hide (rReplay_any Ap np cp ps A4 K.length c4 ys w4.heap.size w4 (Nat.le_refl _) hn (by omega) hnc ((hP.below hb04 hB).more (Nat.le_trans hB hb04.size)) hD4 HR.out HW.out (fun y hy => by obtain ⟨x, hx, e⟩ := hym y hy; rw [e]; exact HX.out x hx))
    have HYL := hide hD4.1
    clear hany hord hym HORD HKD hD4
    generalize invs ((didD xs).map (rankD (comL xs))) = I at *
    generalize K.length = M at *
    go_wp2_with fail
    refine HREP.out.mono ?_
    rintro e w5 ⟨A5, c5, zs, rfl, _, _, hb5⟩
    have hb05 := below_via hb04 hb5 hb04.size
    generalize (replayD (ps.map PairV.d) (ys.map DidV.d)).2 = N at *
    by_cases hlt2 : N < M
    · go_wp2
      go_ret2
      refine ⟨?_, hb05⟩
      rw [HCK.out, if_pos (by rw [← HYL.out]; exact hlt2)]
      rfl
    · go_wp2
      go_ret2
      refine ⟨?_, hb05⟩
      rw [HCK.out, if_neg (by rw [← HYL.out]; exact hlt2)]
      rfl
end Go.Proofs.YtkhpkclkjklccaaGreatDoor
