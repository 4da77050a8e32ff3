/-
  WALKS OF THE PROGRAM: trace.sorted, trace.has, the closure of trace.replay.
-/
import Derived.Test.YteidmdnhkgcnoaaHD
import Derived.Test.YteidmdnhkgcnoaaShelf
namespace Go.Proofs.Yteidmdnhkgcnoaa
open Go.RowKit Go.Sort

/-- The numbers, rising. -/
def sortI (l : List Int) : List Int := l.mergeSort fun x y => decide (x ≤ y)
theorem sortI_len (l : List Int) : (sortI l).length = l.length := List.length_mergeSort l
theorem sortI_mem (l : List Int) (x : Int) : x ∈ sortI l ↔ x ∈ l := List.mem_mergeSort
theorem sortI_rise (l : List Int) : (sortI l).Pairwise (· ≤ ·) := by
  have h := List.pairwise_mergeSort (le := fun x y : Int => decide (x ≤ y)) (fun a b c h1 h2 => by simp at *; omega) (fun a b => by simp; omega) l
  exact h.imp fun h => by simpa using h
theorem sort_below {B g N : Nat} {W : World} {d : Array Int} {os : Array Obj} (hB : B ≤ g) (hg : g < W.heap.size) : Below B W (grow (putRow (Value.int .i64) (Sort.ahead W N) g 0 d) os) := by
  refine ⟨rfl, rfl, rfl, ?_, fun k hk => ?_⟩
  · simp [grow, Sort.ahead, putRow, mapBlock]
  · have h1 : k < W.heap.size := by omega
    have h2 : g ≠ k := by omega
    show ((W.heap.modify g _) ++ os)[k]? = _
    rw [Array.getElem?_append_left (by simpa using h1), Array.getElem?_modify, if_neg h2]
theorem sort_cell {g N : Nat} {W : World} {d0 d : Array Int} {os : Array Obj} (hg : g < W.heap.size) (h0 : Holds (Value.int .i64) W g 0 d0) (hs : d.size = d0.size) (j : Nat) (hj : j < d.size) :
    (grow (putRow (Value.int .i64) (Sort.ahead W N) g 0 d) os).cell? ⟨g, j, none⟩ = some (.int .i64 d[j]!) := by
  rw [cell?_grow _ _ _ (by simpa [Sort.ahead] using hg)]
  have := cell?_putRow (Value.int .i64) (Sort.ahead W N) g 0 d0 d h0 hs j hj
  rwa [Nat.zero_add] at this

set_option maxHeartbeats 1600000 in
theorem sorted_any (A : Option Addr) (n c : Nat) (zs : List Int) (B : Nat) (w : World) (hB : B ≤ w.heap.size) (hn : n ≤ 1000000) (h : Ints w B A n zs) :
    Calls Try.prog 12 #[.slice A n c] w fun e w' => ∃ A' c', e = .returned (.slice A' n c') ∧ Ints w' w'.heap.size A' n (sortI zs) ∧ Below w.heap.size w w' := by
  have HL := hide h.1
  by_cases h0 : n = 0
  · subst h0
    obtain rfl : zs = [] := List.eq_nil_of_length_eq_zero HL.out.symm
    have hi : ∀ (W : World) A', Ints W W.heap.size A' 0 (sortI []) := fun W A' => ⟨by simp [sortI], by simp [sortI], fun h => absurd h (by omega)⟩
    have HI := hide hi
    clear hi
    cases A with
    | none =>
      go_enter Try.func12, Try.ntmps12
      go_wp2_with (first
        | (go_at_call 21; refine (Try.slices_Clone_int_nil _ _ _).mono ?_; rintro e w1 ⟨rfl, rfl⟩)
        | (go_at_call 22; refine (Try.slices_Sort_int_none _ _ _).mono ?_; rintro e w2 ⟨rfl, rfl⟩))
      go_ret
      exact ⟨_, _, rfl, HI.out _ _, Below.refl _ _⟩
    | some ad =>
      go_enter Try.func12, Try.ntmps12
      go_wp2_with fail
      refine (Try.slices_Clone_int_zero ad c w).mono ?_
      rintro e w1 ⟨v', rfl, hown, _, hb1⟩
      obtain ⟨A1, c1, rfl, _⟩ := own_slice hown
      go_wp2_with (go_at_call 22; refine (Try.slices_Sort_int_none _ _ _).mono ?_; rintro e w2 ⟨rfl, rfl⟩)
      go_ret
      exact ⟨_, _, rfl, HI.out _ _, hb1⟩
  · obtain ⟨b, o, rfl, hbB, hc⟩ := h.2.plain (by omega) (by omega)
    have hc' : ∀ j, j < zs.length → w.cell? ⟨b, o + j, none⟩ = some (.int .i64 (zs.getD j 0)) := fun j hj => hc j _ (by simp [List.getD, hj])
    have HCL := hide (Try.slices_Clone_int b o n c zs w (by rw [HL.out]; exact Nat.le_refl _) (by omega) hc')
    clear hc hc'
    go_enter Try.func12, Try.ntmps12
    go_wp2_with fail
    refine HCL.out.mono ?_
    rintro e w1 ⟨v', rfl, hown, _, hb1⟩
    rw [List.take_of_length_le (by have := HL.out; omega)] at hown
    obtain ⟨g, cap, rfl, hbg, hgl⟩ := hown.form (by omega)
    have hH : Holds (Value.int .i64) w1 g 0 zs.toArray := fun j hj => by
      have hj' : j < zs.length := by simpa using hj
      refine ⟨?_, ?_⟩
      · rw [Nat.zero_add, World.ownsRow.cellAt hown j (by have := HL.out; omega)]
        simp [hj']
      · rw [Nat.zero_add]
        exact World.ownsRow.frozenAt hown j
    have HSO := hide (fun n' (hn' : n' = zs.length) => hn' ▸ Try.slices_Sort_int g 0 cap zs w1 hH hgl (by have := HL.out; omega))
    have HH := hide hH
    clear hown hH HCL
    go_wp2_with fail
    refine (HSO.out n HL.out).mono ?_
    rintro e w2 ⟨rfl, N, os, rfl⟩
    have hb2 := sort_below (N := N) (d := (zs.mergeSort fun x y => decide (x ≤ y)).toArray) (os := os) hbg hgl
    have hcell := fun j hj => sort_cell (N := N) (d := (zs.mergeSort fun x y => decide (x ≤ y)).toArray) (os := os) hgl HH.out (by simp [List.length_mergeSort]) j hj
    have HCELL := hide hcell
    have hgl2 : g < (grow (putRow (Value.int .i64) (Sort.ahead w1 N) g 0 (zs.mergeSort fun x y => decide (x ≤ y)).toArray) os).heap.size := by have := hb2.size; simp [grow, Sort.ahead, putRow, mapBlock]; omega
    clear hcell
    go_wp2
    go_ret
    refine ⟨_, _, rfl, ⟨by rw [sortI_len, HL.out], by rw [List.length_map, sortI_len, Nat.mul_one, HL.out], fun _ => ⟨_, rfl, hgl2, fun j u hu => ?_⟩⟩, hb1.trans hb2⟩
    rw [add_plain, Nat.zero_add]
    have hj : j < (sortI zs).length := by have := (List.getElem?_eq_some_iff.1 hu).1; simpa using this
    have hj2 : j < (zs.mergeSort fun x y => decide (x ≤ y)).toArray.size := by simpa [sortI] using hj
    rw [HCELL.out j hj2, ← hu, List.getElem?_map, List.getElem?_eq_getElem hj]
    have hj3 : j < (zs.mergeSort fun x y => decide (x ≤ y)).length := hj
    simp [sortI]
    rw [List.getElem?_eq_getElem hj3]
    rfl

set_option maxHeartbeats 800000 in
theorem has_any (A : Option Addr) (n c : Nat) (zs : List Int) (x : Int) (B : Nat) (w : World) (hn : n ≤ 1000000) (h : Ints w B A n zs) (hs : zs.Pairwise (· ≤ ·)) :
    Calls Try.prog 15 #[.slice A n c, .int .i64 x] w fun e w' => e = .returned (.bool (decide (x ∈ zs))) ∧ Below w.heap.size w w' := by
  have HL := hide h.1
  by_cases h0 : n = 0
  · subst h0
    obtain rfl : zs = [] := List.eq_nil_of_length_eq_zero HL.out.symm
    go_enter Try.func15, Try.ntmps15
    go_wp2_with (go_at_call 26; refine (Try.slices_BinarySearch_int_empty _ _ _ _).mono ?_; rintro e w2 ⟨rfl, rfl⟩)
    go_ret
    exact ⟨ret_bool (by simp), Below.refl _ _⟩
  · obtain ⟨b, o, rfl, hbB, hc⟩ := h.2.plain (by omega) (by omega)
    have hc' : ∀ j, j < zs.length → w.cell? ⟨b, o + j, none⟩ = some (.int .i64 (zs.getD j 0)) := fun j hj => hc j _ (by simp [List.getD, hj])
    have htk : zs.take n = zs := List.take_of_length_le (by have := HL.out; omega)
    have hbs := Try.slices_BinarySearch_int b o n c zs x w (by rw [HL.out]; exact Nat.le_refl _) (by omega) hc' (by rw [htk]; exact hs)
    rw [htk] at hbs
    have HBS := hide hbs
    have hcp : zs.countP (· < x) ≤ 1000000 := Nat.le_trans List.countP_le_length (by have := HL.out; omega)
    clear hc hc' htk hbs hs
    generalize zs.countP (· < x) = P at *
    have hcon : zs.contains x = decide (x ∈ zs) := by simp
    rw [hcon] at HBS
    generalize decide (x ∈ zs) = bb at *
    go_enter Try.func15, Try.ntmps15
    go_wp2_with fail
    refine HBS.out.mono ?_
    rintro e w2 ⟨rfl, q, rfl⟩
    go_wp2
    go_ret
    exact ⟨rfl, below_of_drewN _ _⟩

set_option maxHeartbeats 800000 in
/-- trace.replay's closure: is the number among the rising ones? -/
theorem chosen_any (t : Int) (Bm : Nat) (A : Option Addr) (n c : Nat) (zs : List Int) (B : Nat) (w : World) (hn : n ≤ 1000000) (hB : Blk w Bm 42 #[.slice A n c]) (h : Ints w B A n (sortI zs)) :
    Calls Try.prog 14 #[.int .i64 t, .pointer (some ⟨Bm, 0, none⟩)] w fun e w' => e = .returned (.bool (decide (t ∈ zs))) ∧ Below w.heap.size w w' := by
  have HH := hide (has_any A n c (sortI zs) t B w hn h (sortI_rise zs))
  have q0 := hB.cell 0
  have l0 := hB.lt
  have e : decide (t ∈ sortI zs) = decide (t ∈ zs) := by simp only [sortI_mem]
  rw [e] at HH
  clear h e
  go_enter Try.func14, Try.ntmps14
  go_wp2_with (go_at_call 15; refine HH.out.mono ?_; rintro e w2 ⟨rfl, hb2⟩)
  go_ret
  exact ⟨rfl, hb2⟩
end Go.Proofs.Yteidmdnhkgcnoaa
