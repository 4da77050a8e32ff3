/-
  WALKS OF THE PROGRAM: trace.sorted, trace.has, the closure of trace.replay.
  WALKS OF THE PROGRAM: trace.Kept, trace.replay, trace.Final, trace.Bounds; moneyerref36.Bounds.
-/
import Derived.Test.YteidmdnhkgcnoaaGreatHE
import Derived.Test.YteidmdnhkgcnoaaGreatShelf
import Derived.Test.YteidmdnhkgcnoaaGreatTC
import Derived.Test.YteidmdnhkgcnoaaGreatPQ
namespace Go.Proofs.YteidmdnhkgcnoaaGreat
open Go.RowKit Go.Sort

/-- The numbers, rising. -/
def sortI (l : List Int) : List Int := l.mergeSort fun x y => decide (x ≤ y)
theorem sortI_len (l : List Int) : (sortI l).length = l.length := List.length_mergeSort l
theorem sortI_mem (l : List Int) (x : Int) : x ∈ sortI l ↔ x ∈ l := List.mem_mergeSort
theorem sortI_rise (l : List Int) : (sortI l).Pairwise (· ≤ ·) := by
  have h := List.pairwise_mergeSort (le := fun x y : Int => decide (x ≤ y)) (fun a b c h1 h2 => by simp at *; omega) (fun a b => by simp; omega) l
  exact h.imp fun h => by simpa using h
theorem sort_below {B g N : Nat} {W : World} {d : Array Int} {os : Array Obj} (hB : B ≤ g) (hg : g < W.heap.size) : Below B W (grow (putRow (Value.int .i64) (Sort.ahead W N) g 0 d) os) := by
  refine ⟨rfl, rfl, rfl, ?_, fun k hk => ?_⟩
  · simp [grow, Sort.ahead, putRow, mapBlock]
  · have h1 : k < W.heap.size := by omega
    have h2 : g ≠ k := by omega
    show ((W.heap.modify g _) ++ os)[k]? = _
    rw [Array.getElem?_append_left (by simpa using h1), Array.getElem?_modify, if_neg h2]
theorem sort_cell {g N : Nat} {W : World} {d0 d : Array Int} {os : Array Obj} (hg : g < W.heap.size) (h0 : Holds (Value.int .i64) W g 0 d0) (hs : d.size = d0.size) (j : Nat) (hj : j < d.size) :
    (grow (putRow (Value.int .i64) (Sort.ahead W N) g 0 d) os).cell? ⟨g, j, none⟩ = some (.int .i64 d[j]!) := by
  rw [cell?_grow _ _ _ (by simpa [Sort.ahead] using hg)]
  have := cell?_putRow (Value.int .i64) (Sort.ahead W N) g 0 d0 d h0 hs j hj
  rwa [Nat.zero_add] at this

set_option maxHeartbeats 1600000 in
theorem sorted_any (A : Option Addr) (n c : Nat) (zs : List Int) (B : Nat) (w : World) (hB : B ≤ w.heap.size) (hn : n ≤ 1000000) (h : Ints w B A n zs) :
    Calls Tryz.prog 26 #[.slice A n c] w fun e w' => ∃ A' c', e = .returned (.slice A' n c') ∧ Ints w' w'.heap.size A' n (sortI zs) ∧ Below w.heap.size w w' := by
  have HL := hide h.1
  by_cases h0 : n = 0
  · subst h0
    obtain rfl : zs = [] := List.eq_nil_of_length_eq_zero HL.out.symm
    have hi : ∀ (W : World) A', Ints W W.heap.size A' 0 (sortI []) := fun W A' => ⟨by simp [sortI], by simp [sortI], fun h => absurd h (by omega)⟩
    have HI := hide hi
    clear hi
    cases A with
    | none =>
      go_enter Tryz.func26, Tryz.ntmps26
      go_wp2_with (first
        | (go_at_call 44; refine (Tryz.slices_Clone_int_nil _ _ _).mono ?_; rintro e w1 ⟨rfl, rfl⟩)
        | (go_at_call 45; refine (Tryz.slices_Sort_int_none _ _ _).mono ?_; rintro e w2 ⟨rfl, rfl⟩))
      go_ret
      exact ⟨_, _, rfl, HI.out _ _, Below.refl _ _⟩
    | some ad =>
      go_enter Tryz.func26, Tryz.ntmps26
      go_wp2_with fail
      refine (Tryz.slices_Clone_int_zero ad c w).mono ?_
      rintro e w1 ⟨v', rfl, hown, _, hb1⟩
      obtain ⟨A1, c1, rfl, _⟩ := own_slice hown
      go_wp2_with (go_at_call 45; refine (Tryz.slices_Sort_int_none _ _ _).mono ?_; rintro e w2 ⟨rfl, rfl⟩)
      go_ret
      exact ⟨_, _, rfl, HI.out _ _, hb1⟩
  · obtain ⟨b, o, rfl, hbB, hc⟩ := h.2.plain (by omega) (by omega)
    have hc' : ∀ j, j < zs.length → w.cell? ⟨b, o + j, none⟩ = some (.int .i64 (zs.getD j 0)) := fun j hj => hc j _ (by simp [List.getD, hj])
    have HCL := hide (Tryz.slices_Clone_int b o n c zs w (by rw [HL.out]; exact Nat.le_refl _) (by omega) hc')
    clear hc hc'
    go_enter Tryz.func26, Tryz.ntmps26
    go_wp2_with fail
    refine HCL.out.mono ?_
    rintro e w1 ⟨v', rfl, hown, _, hb1⟩
    rw [List.take_of_length_le (by have := HL.out; omega)] at hown
    obtain ⟨g, cap, rfl, hbg, hgl⟩ := hown.form (by omega)
    have hH : Holds (Value.int .i64) w1 g 0 zs.toArray := fun j hj => by
      have hj' : j < zs.length := by simpa using hj
      refine ⟨?_, ?_⟩
      · rw [Nat.zero_add, World.ownsRow.cellAt hown j (by have := HL.out; omega)]
        simp [hj']
      · rw [Nat.zero_add]
        exact World.ownsRow.frozenAt hown j
    have HSO := hide (fun n' (hn' : n' = zs.length) => hn' ▸ Tryz.slices_Sort_int g 0 cap zs w1 hH hgl (by have := HL.out; omega))
    have HH := hide hH
    clear hown hH HCL
    go_wp2_with fail
    refine (HSO.out n HL.out).mono ?_
    rintro e w2 ⟨rfl, N, os, rfl⟩
    have hb2 := sort_below (N := N) (d := (zs.mergeSort fun x y => decide (x ≤ y)).toArray) (os := os) hbg hgl
    have hcell := fun j hj => sort_cell (N := N) (d := (zs.mergeSort fun x y => decide (x ≤ y)).toArray) (os := os) hgl HH.out (by simp [List.length_mergeSort]) j hj
    have HCELL := hide hcell
    have hgl2 : g < (grow (putRow (Value.int .i64) (Sort.ahead w1 N) g 0 (zs.mergeSort fun x y => decide (x ≤ y)).toArray) os).heap.size := by have := hb2.size; simp [grow, Sort.ahead, putRow, mapBlock]; omega
    clear hcell
    go_wp2
    go_ret
    refine ⟨_, _, rfl, ⟨by rw [sortI_len, HL.out], by rw [List.length_map, sortI_len, Nat.mul_one, HL.out], fun _ => ⟨_, rfl, hgl2, fun j u hu => ?_⟩⟩, hb1.trans hb2⟩
    rw [add_plain, Nat.zero_add]
    have hj : j < (sortI zs).length := by have := (List.getElem?_eq_some_iff.1 hu).1; simpa using this
    have hj2 : j < (zs.mergeSort fun x y => decide (x ≤ y)).toArray.size := by simpa [sortI] using hj
    rw [HCELL.out j hj2, ← hu, List.getElem?_map, List.getElem?_eq_getElem hj]
    have hj3 : j < (zs.mergeSort fun x y => decide (x ≤ y)).length := hj
    simp [sortI]
    rw [List.getElem?_eq_getElem hj3]
    rfl

set_option maxHeartbeats 800000 in
theorem has_any (A : Option Addr) (n c : Nat) (zs : List Int) (x : Int) (B : Nat) (w : World) (hn : n ≤ 1000000) (h : Ints w B A n zs) (hs : zs.Pairwise (· ≤ ·)) :
    Calls Tryz.prog 28 #[.slice A n c, .int .i64 x] w fun e w' => e = .returned (.bool (decide (x ∈ zs))) ∧ Below w.heap.size w w' := by
  have HL := hide h.1
  by_cases h0 : n = 0
  · subst h0
    obtain rfl : zs = [] := List.eq_nil_of_length_eq_zero HL.out.symm
    go_enter Tryz.func28, Tryz.ntmps28
    go_wp2_with (go_at_call 50; refine (Tryz.slices_BinarySearch_int_empty _ _ _ _).mono ?_; rintro e w2 ⟨rfl, rfl⟩)
    go_ret
    exact ⟨ret_bool (by simp), Below.refl _ _⟩
  · obtain ⟨b, o, rfl, hbB, hc⟩ := h.2.plain (by omega) (by omega)
    have hc' : ∀ j, j < zs.length → w.cell? ⟨b, o + j, none⟩ = some (.int .i64 (zs.getD j 0)) := fun j hj => hc j _ (by simp [List.getD, hj])
    have htk : zs.take n = zs := List.take_of_length_le (by have := HL.out; omega)
    have hbs := Tryz.slices_BinarySearch_int b o n c zs x w (by rw [HL.out]; exact Nat.le_refl _) (by omega) hc' (by rw [htk]; exact hs)
    rw [htk] at hbs
    have HBS := hide hbs
    have hcp : zs.countP (· < x) ≤ 1000000 := Nat.le_trans List.countP_le_length (by have := HL.out; omega)
    clear hc hc' htk hbs hs
    generalize zs.countP (· < x) = P at *
    have hcon : zs.contains x = decide (x ∈ zs) := by simp
    rw [hcon] at HBS
    generalize decide (x ∈ zs) = bb at *
    go_enter Tryz.func28, Tryz.ntmps28
    go_wp2_with fail
    refine HBS.out.mono ?_
    rintro e w2 ⟨rfl, q, rfl⟩
    go_wp2
    go_ret
    exact ⟨rfl, below_of_drewN _ _⟩

set_option maxHeartbeats 800000 in
/-- trace.replay's closure: is the number among the rising ones? -/
theorem chosen_any (t : Int) (Bm : Nat) (A : Option Addr) (n c : Nat) (zs : List Int) (B : Nat) (w : World) (hn : n ≤ 1000000) (hB : Blk w Bm 24 #[.slice A n c]) (h : Ints w B A n (sortI zs)) :
    Calls Tryz.prog 36 #[.int .i64 t, .pointer (some ⟨Bm, 0, none⟩)] w fun e w' => e = .returned (.bool (decide (t ∈ zs))) ∧ Below w.heap.size w w' := by
  have HH := hide (has_any A n c (sortI zs) t B w hn h (sortI_rise zs))
  have q0 := hB.cell 0
  have l0 := hB.lt
  have e : decide (t ∈ sortI zs) = decide (t ∈ zs) := by simp only [sortI_mem]
  rw [e] at HH
  clear h e
  go_enter Tryz.func36, Tryz.ntmps36
  go_wp2_with (go_at_call 28; refine HH.out.mono ?_; rintro e w2 ⟨rfl, hb2⟩)
  go_ret
  exact ⟨rfl, hb2⟩
end Go.Proofs.YteidmdnhkgcnoaaGreat
namespace Go.Proofs.YteidmdnhkgcnoaaGreat
open Go.RowKit

/-- P36.1: those that were not taken back. -/
def keptL (l : List StoD) : List Int := (l.filter (fun s => s.fate != 3)).map StoD.txn
theorem keptL_len (l : List StoD) (k : Nat) : (keptL (l.take k)).length ≤ k := by
  unfold keptL
  rw [List.length_map]
  exact Nat.le_trans (List.length_filter_le _ _) (List.length_take_le _ _)
theorem keptL_yes {l : List StoD} {k : Nat} {s : StoD} (h : l[k]? = some s) (hq : (s.fate != 3) = true) : keptL (l.take (k + 1)) = keptL (l.take k) ++ [s.txn] := by
  unfold keptL
  rw [take_snoc1 h, List.filter_append]
  simp [hq]
theorem keptL_no {l : List StoD} {k : Nat} {s : StoD} (h : l[k]? = some s) (hq : (s.fate != 3) = false) : keptL (l.take (k + 1)) = keptL (l.take k) := by
  unfold keptL
  rw [take_snoc1 h, List.filter_append]
  simp [hq]

set_option maxHeartbeats 1600000 in
theorem Kept_any (A : Option Addr) (m c : Nat) (xs : List EvV) (w : World) (hm : m ≤ 1000) (h : Evs w w.heap.size A m xs) (hwf : ∀ x ∈ xs, wfI x.d.txn) :
    Calls Tryz.prog 15 #[.slice A m c] w (IntsPost w (keptL (storiesD (xs.map EvV.d)))) := by
  have HST := hide (hStories_any A m c xs w hm h hwf)
  have hsl := storiesD_len (xs.map EvV.d)
  have hsm : (storiesD (xs.map EvV.d)).length ≤ m := by rw [h.1]; rw [List.length_map] at hsl; exact hsl
  generalize storiesD (xs.map EvV.d) = l at *
  clear hsl h hwf
  obtain ⟨i0, hi, hz0, hz1, hz2⟩ := info_parts info_int
  obtain ⟨n, hn⟩ : ∃ n, n = l.length := ⟨_, rfl⟩
  unfold StoPost at HST
  rw [← hn] at HST hsm
  have HL := hide hn
  clear hn
  go_enter Tryz.func15, Tryz.ntmps15
  go_wp2_with fail
  refine HST.out.mono ?_
  rintro e w1 ⟨A1, c1, rfl, hS, hb1⟩
  clear HST
  go_wp2
  go_loopw [3, 9] (fun t i wr => ∃ k : Nat, k ≤ n ∧ i = .int .i64 k ∧ wr.ownsRow w1.heap.size 3 1 t (keptL (l.take k)).length ((keptL (l.take k)).map (Value.int .i64)) ∧ Below w1.heap.size w1 wr) (fun _ i _ => n - (intOf i).toNat)
  case atStart => exact ⟨0, Nat.zero_le _, rfl, World.ownsRow_nil _ _ _ _, Below.refl _ _⟩
  case round =>
    obtain ⟨k, hk, rfl, hown, hbw⟩ := hrel
    have hz := hbw.size
    by_cases hlt : k < n
    · obtain ⟨b, o, s, rfl, hb, hs, c0, c1', c2, c3⟩ := (hS.below hbw (Nat.le_refl _)).at_ hlt
      have HK := hide hs
      obtain ⟨t, cl, fa, wro⟩ := s
      dsimp only at *
      clear hs
      have s1 : (k : Int) < n := by omega
      have s2 : (0 : Int) ≤ k := by omega
      have hbz : b < wr.heap.size := by omega
      have hlc := keptL_len l k
      cases t1 : ((fa : Int) != 3)
      · go_wp2
        go_roundw
        case rel => exact ⟨k + 1, by omega, by go_num, by rw [keptL_no HK.out t1]; exact hown.alloc _, hbw.alloc hz _⟩
        case measure => simp [intOf]; omega
      · obtain ⟨A3, c3', rfl, hcap3, _⟩ := own_slice hown
        clear hcap3
        go_wp2_with (at_builtin; refine wpList_append_any _ rfl (.tmp 16) (.tmp 19) _ rfl w1.heap.size 3 i0 _ 1 8 Tryz.underlying24 hi hz0 hz1 hz2 rfl (by omega) _ _ _ rfl ((hown.alloc _).alloc _) (wr.heap.size + 1 + 1) (some ⟨wr.heap.size + 1, 0, none⟩) 1 1 [.int .i64 t] rfl ?c2 ?c3 ?c4 ?c5 ?c6 ?_)
        case c2 => simpa using Reads.of_blk (size := 1) (n := 1) (Blk.new (wr.alloc _) 3 #[.int .i64 t]) rfl
        case c3 => exact ints_one [t]
        case c4 => unfold maxLen; omega
        case c5 => omega
        case c6 => simp; omega
        intro v' w2 hown1 hg hat
        have hr0 := (World.ownsRow.lt hown)
        go_wp2
        go_roundw
        case rel =>
          refine ⟨k + 1, by omega, by go_num, ?_, ?_⟩
          · rw [keptL_yes HK.out t1]
            simpa using hown1
          · exact (((hbw.alloc hz _).alloc (by simp; omega) _)).grown hg (by simp; omega) (fun q hq => (hr0 q hq).1)
        case measure => simp [intOf]; omega
    · obtain rfl : k = n := by omega
      rw [List.take_of_length_le (by have := HL.out; omega)] at hown
      obtain ⟨A3, c3', rfl, _, _, _, hR, _⟩ := own_slice hown
      go_wp2
      go_ret
      exact ⟨_, _, rfl, ⟨rfl, hR⟩, below_via hb1 hbw hb1.size⟩

/-- What those of zs did, that counts. -/
def didT (xs : List EvV) (zs : List Int) : List DidD := ((xs.filter (fun x => x.d.act == 1 && decide (x.d.txn ∈ zs))).map (fun x => didOfEv x.d)).filter countsD
theorem didT_those (xs : List EvV) (zs : List Int) : ((thoseL xs [1] xs.length).filter (fun x => decide (x.1.d.txn ∈ zs))).map (fun x => didOfEv x.1.d) = (xs.filter (fun x => x.d.act == 1 && decide (x.d.txn ∈ zs))).map (fun x => didOfEv x.d) := by
  have h := thoseL_map xs [1] xs.length (Nat.le_refl _)
  rw [List.take_length] at h
  have e : (fun x : EvIn xs => didOfEv x.1.d) = (fun x : EvV => didOfEv x.d) ∘ (fun x : EvIn xs => x.1) := rfl
  rw [e, ← List.map_map]
  congr 1
  have e2 : ((thoseL xs [1] xs.length).filter (fun x => decide (x.1.d.txn ∈ zs))).map (fun x => x.1) = ((thoseL xs [1] xs.length).map (fun x => x.1)).filter (fun x => decide (x.d.txn ∈ zs)) := by
    rw [List.filter_map]; rfl
  rw [e2, h, List.filter_filter]
  congr 1
  funext x
  rw [Bool.and_comm]
  congr 1
  rw [Bool.eq_iff_iff]
  simp
/-- The state told behind those, or that there is none. -/
def TrPost (s : List PairD) (K : List DidD) (w : World) (e : Ending) (w' : World) : Prop :=
  (((replayD s K).2 < K.length ∧ e = .returned (.tuple #[.slice none 0 0, .int .i64 14])) ∨
   (¬ (replayD s K).2 < K.length ∧ ∃ A c ys, e = .returned (.tuple #[.slice A ys.length c, .int .i64 0]) ∧ ys.map PairV.d = (replayD s K).1 ∧ Pairs w' w'.heap.size A ys.length ys)) ∧ Below w.heap.size w w'
theorem keep_mapT {l : List DidV} {K : List DidD} (h : l.map DidV.d = K) : (keepL l).map DidV.d = K.filter countsD := by
  subst h
  unfold keepL
  rw [List.filter_map]
  rfl

set_option maxHeartbeats 4000000 in
set_option maxRecDepth 100000 in
theorem trReplay_any (Ap : Option Addr) (np cp : Nat) (ps : List PairV) (A O : Option Addr) (m c n oc : Nat) (xs : List EvV) (zs : List Int) (B : Nat) (w : World) (hB : B ≤ w.heap.size) (hnp : np ≤ 1000) (hm : m ≤ 1000) (hn : n ≤ 1000) (hP : Pairs w B Ap np ps) (hpl : ∀ x ∈ ps, x.d.cell.data.length ≤ 1000000) (h : Evs w B A m xs) (ho : Ints w B O n zs)
    (hR : RightS (ps.map PairV.d)) (hW : WfS (ps.map PairV.d)) (hX : ∀ x ∈ xs, OpWf x.d.op ∧ x.d.op.data.length ≤ 1000000 ∧ x.d.cell.data.length ≤ 1000000 ∧ wfI x.d.txn) :
    Calls Tryz.prog 24 #[.slice Ap np cp, .slice A m c, .slice O n oc] w (TrPost (ps.map PairV.d) (didT xs zs) w) := by
  have HL := hide h.1
  have HX := hide hX
  have HPL := hide hpl
  have HR := hide hR
  have HW := hide hW
  have HSO := hide (sorted_any O n oc zs B w hB (by omega) ho)
  have hmf : ∀ (fn : Fn) (first cap : Array Value) (w : World), (Instr.makeFunc fn first cap).run Tryz.prog w = .ok (.func fn first cap) w := fun _ _ _ _ => rfl
  clear hX hpl hR hW ho
  go_enter Tryz.func24, Tryz.ntmps24
  go_wp2_with fail
  refine HSO.out.mono ?_
  rintro e w1 ⟨A1, c1, rfl, hz, hb1⟩
  clear HSO
  go_wp2_with fail
  refine gen1 (R := fun W => Calls Tryz.prog 35 _ W _) (fun W k0 hbW hzW => ?_)
  have hb0W := below_via hb1 hbW hb1.size
  have hDID := hDid_any A m c xs (fun t => decide (t ∈ zs)) w1.heap.size W hm ((h.below hb0W hB).more (Nat.le_trans hB hb0W.size)) (fun x hx => ⟨(HX.out x hx).2.1, (HX.out x hx).2.2.1⟩) (fun x hx => (HX.out x hx).2.2.2)
    (hide (fun W2 t _ hb2 => chosen_any t w1.heap.size A1 n c1 zs w1.heap.size W2 (by omega) (Blk.via hb2 k0) ((hz.below hbW (Nat.le_refl _)).below hb2 hbW.size)))
  have HDID := hide hDID
  clear hDID hz
  refine HDID.out.mono ?_
  rintro e w2 ⟨v, done, rfl, hrow, hd, hb2⟩
  rw [didT_those] at hd
  have HD := hide hd
  have hdl : done.length ≤ 1000 := by
    have e1 := congrArg List.length hd
    rw [List.length_map, List.length_map] at e1
    have := List.length_filter_le (fun x : EvV => x.d.act == 1 && decide (x.d.txn ∈ zs)) xs
    have := HL.out
    omega
  have hdm : ∀ y ∈ done, ∃ x ∈ xs, y.d = didOfEv x.d := fun y hy => by
    have h1 : y.d ∈ done.map DidV.d := List.mem_map.2 ⟨y, hy, rfl⟩
    rw [hd] at h1
    obtain ⟨x, hx, e⟩ := List.mem_map.1 h1
    exact ⟨x, (List.mem_filter.1 hx).1, e.symm⟩
  have HDM := hide hdm
  clear hd hdm HDID
  have HDEL := hide (deleteFunc_any v done W.heap.size w2 hb2.size (by omega) hrow)
  go_wp2_with fail
  refine HDEL.out.mono ?_
  rintro e w3 ⟨v2, rfl, hrow2, hb3⟩
  have hb02 := below_via hb0W hb2 hb0W.size
  have hb03 := hb02.trans (hb3.mono hb0W.size)
  have hkl : (keepL done).length ≤ 1000 := Nat.le_trans (List.length_filter_le _ _) hdl
  obtain ⟨A2, c2, rfl, hnc2, _, _, hR2, _⟩ := own_slice hrow2.1
  have hD2 : Dids w3 w3.heap.size A2 (keepL done).length (keepL done) := ⟨rfl, hR2, fun y hy => ⟨(hrow2.2 y hy).1.bytes, (hrow2.2 y hy).2.bytes⟩⟩
  have hkm : ∀ y ∈ keepL done, ∃ x ∈ xs, y.d = didOfEv x.d := fun y hy => HDM.out y (List.mem_filter.1 hy).1
  have HREP := hide (pReplay_any Ap np cp ps A2 (keepL done).length c2 (keepL done) w3.heap.size w3 (Nat.le_refl _) hnp (by omega) ((hP.below hb03 hB).more (Nat.le_trans hB hb03.size)) HPL.out hD2 HR.out HW.out (fun y hy => by obtain ⟨x, hx, e⟩ := hkm y hy; rw [e]; exact ⟨(HX.out x hx).1, (HX.out x hx).2.1⟩))
  have HKD : Hid ((keepL done).map DidV.d = didT xs zs) := hide (keep_mapT HD.out)
  have HKLEN : Hid ((keepL done).length = (didT xs zs).length) := hide (by rw [← HKD.out, List.length_map])
  clear hkm hnc2 hR2 HDEL hD2 hrow2 hrow
  unfold ReplayPost at HREP
  rw [HKD.out] at HREP
  generalize (keepL done).length = M at *
  go_wp2_with fail
  refine HREP.out.mono ?_
  rintro e w5 ⟨A5, c5, ys, rfl, hys, hP5, hb5⟩
  have hb05 := below_via hb03 hb5 hb03.size
  have HYS := hide hys
  clear hys HREP
  generalize hRP : replayD (ps.map PairV.d) (didT xs zs) = RP at *
  obtain ⟨R1, R2⟩ := RP
  have HRP := hide hRP
  clear hRP
  dsimp only at *
  by_cases hlt2 : R2 < M
  · go_wp2
    go_ret2
    unfold TrPost
    rw [HRP.out]
    exact ⟨.inl ⟨by rw [← HKLEN.out]; exact hlt2, rfl⟩, hb05⟩
  · go_wp2
    go_ret2
    unfold TrPost
    rw [HRP.out]
    exact ⟨.inr ⟨by rw [← HKLEN.out]; exact hlt2, _, _, ys, rfl, HYS.out, hP5⟩, hb05⟩

/-- P36.2. -/
def finalK (xs : List EvV) : List DidD := didT xs (keptL (storiesD (xs.map EvV.d)))
set_option maxHeartbeats 1600000 in
theorem Final_any (Ap : Option Addr) (np cp : Nat) (ps : List PairV) (A : Option Addr) (m c : Nat) (xs : List EvV) (w : World) (hnp : np ≤ 1000) (hm : m ≤ 1000) (hP : Pairs w w.heap.size Ap np ps) (hpl : ∀ x ∈ ps, x.d.cell.data.length ≤ 1000000) (h : Evs w w.heap.size A m xs)
    (hR : RightS (ps.map PairV.d)) (hW : WfS (ps.map PairV.d)) (hX : ∀ x ∈ xs, OpWf x.d.op ∧ x.d.op.data.length ≤ 1000000 ∧ x.d.cell.data.length ≤ 1000000 ∧ wfI x.d.txn) :
    Calls Tryz.prog 8 #[.slice Ap np cp, .slice A m c] w (TrPost (ps.map PairV.d) (finalK xs) w) := by
  have HK := hide (Kept_any A m c xs w hm h (fun x hx => (hX x hx).2.2.2))
  have hkl : (keptL (storiesD (xs.map EvV.d))).length ≤ 1000 := by
    have h1 := storiesD_len (xs.map EvV.d)
    have h2 := keptL_len (storiesD (xs.map EvV.d)) (storiesD (xs.map EvV.d)).length
    rw [List.take_length] at h2
    rw [List.length_map] at h1
    have := h.1
    omega
  have HT := hide (fun W (hb : Below w.heap.size w W) O oc ho => trReplay_any Ap np cp ps A O m c (keptL (storiesD (xs.map EvV.d))).length oc xs (keptL (storiesD (xs.map EvV.d))) W.heap.size W (Nat.le_refl _) hnp hm hkl ((hP.below hb (Nat.le_refl _)).more hb.size) hpl ((h.below hb (Nat.le_refl _)).more hb.size) ho hR hW hX)
  clear hkl hP hpl h hR hW hX
  unfold finalK
  generalize keptL (storiesD (xs.map EvV.d)) = zs at *
  go_enter Tryz.func8, Tryz.ntmps8
  go_wp2_with fail
  refine HK.out.mono ?_
  rintro e w1 ⟨O, oc, rfl, hz, hb1⟩
  have HT2 := hide (HT.out w1 hb1 O oc hz)
  clear HT hz
  go_wp2_with fail
  refine HT2.out.mono ?_
  rintro e w2 ⟨⟨hlt, rfl⟩ | ⟨hlt, A2, c2, ys, rfl, hys, hP2⟩, hb2⟩
  · have HLT := hide hlt
    clear hlt
    go_wp2
    go_ret2
    exact ⟨.inl ⟨HLT.out, rfl⟩, below_via hb1 hb2 hb1.size⟩
  · have HLT := hide hlt
    have HYS := hide hys
    clear hlt hys
    go_wp2
    go_ret2
    exact ⟨.inr ⟨HLT.out, _, _, ys, rfl, HYS.out, hP2⟩, below_via hb1 hb2 hb1.size⟩

/-- P36.3: is each counter within its bounds? -/
def boundsD (l : List PairD) : Bool := l.all fun p => !(p.cell.kind == 2 && (decide (p.cell.val < p.cell.lo) || decide (p.cell.hi < p.cell.val)))
theorem bounds_snoc {l : List PairV} {k : Nat} {x : PairV} (h : l[k]? = some x) : boundsD ((l.take (k + 1)).map PairV.d) = (boundsD ((l.take k).map PairV.d) && !(x.d.cell.kind == 2 && (decide (x.d.cell.val < x.d.cell.lo) || decide (x.d.cell.hi < x.d.cell.val)))) := by
  rw [take_snoc1 h, List.map_append]
  unfold boundsD
  rw [List.all_append]
  simp
end Go.Proofs.YteidmdnhkgcnoaaGreat
