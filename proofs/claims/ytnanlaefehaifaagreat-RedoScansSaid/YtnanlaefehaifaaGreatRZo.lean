/-
  WALKS: cmp.isNaN, cmp.Compare, the comparison of redo.Losers; slices.SortFunc over its rows, by the library's contract.
-/
import Derived.Test.YtnanlaefehaifaaGreatRZm
import Derived.Test.YtnanlaefehaifaaGreatSrt
import Derived.Sort.OwnSorted
import Derived.WalkSpells
namespace Go.Proofs.YtnanlaefehaifaaGreat
open Go.RowKit Go.Sort Go.Lib

/-- A transaction, cell by cell. -/
def txC (t : TxD) : List Value := [.int .i64 t.id, .int .i64 t.first, .int .i64 t.last, .int .i64 t.kept]
theorem txC_length (t : TxD) : (txC t).length = 4 := rfl
section
variable {α : Type} [Inhabited α] (en : α → List Value) (K : Nat)
omit [Inhabited α] in
theorem flat_lenG (hK : ∀ x, (en x).length = K) : ∀ l : List α, (l.flatMap en).length = l.length * K
  | [] => by simp
  | x :: l => by rw [List.flatMap_cons, List.length_append, hK, flat_lenG hK l, List.length_cons, Nat.add_mul]; omega
omit [Inhabited α] in
theorem flat_atG (hK : ∀ x, (en x).length = K) : ∀ (l : List α) (i c : Nat) (_ : c < K), (l.flatMap en)[i * K + c]? = (l[i]?).bind fun x => (en x)[c]?
  | [], i, c, _ => by simp
  | x :: l, 0, c, hc => by rw [List.flatMap_cons, Nat.zero_mul, Nat.zero_add, List.getElem?_append_left (by rw [hK]; exact hc)]; rfl
  | x :: l, i + 1, c, hc => by
    rw [List.flatMap_cons, List.getElem?_append_right (by rw [hK, Nat.add_mul]; omega), hK, show (i + 1) * K + c - K = i * K + c by rw [Nat.add_mul]; omega, flat_atG hK l i c hc]
    rfl
variable (h0 : 0 < K) (hK : ∀ x, (en x).length = K)
include h0 hK
theorem flatK_G (d : Array α) : (flatK en K d).toList = d.toList.flatMap en := by
  apply List.ext_getElem?
  intro t
  by_cases ht : t < d.size * K
  · have h1 := get_flatK en K d t ht
    have h2 : t < (flatK en K d).size := by simpa using ht
    rw [getElem!_pos _ t h2] at h1
    have hd : t / K < d.size := (Nat.div_lt_iff_lt_mul h0).2 ht
    have h3 : (d.toList.flatMap en)[t]? = (en d[t / K])[t % K]? := by
      have h4 := flat_atG en K hK d.toList (t / K) (t % K) (Nat.mod_lt _ h0)
      rw [show t / K * K + t % K = t by rw [Nat.mul_comm]; exact Nat.div_add_mod t K] at h4
      rw [h4, Array.getElem?_toList, Array.getElem?_eq_getElem hd]
      rfl
    rw [Array.getElem?_toList, Array.getElem?_eq_getElem h2, h1, h3, getElem!_pos d _ hd]
    have hm : t % K < (en d[t / K]).length := by rw [hK]; exact Nat.mod_lt _ h0
    rw [getElem!_pos (en d[t / K]) (t % K) hm, List.getElem?_eq_getElem hm]
  · rw [List.getElem?_eq_none (by simpa using ht), List.getElem?_eq_none (by rw [flat_lenG en K hK]; simpa using ht)]
variable {w : World} {base g cap n : Nat} {e : TypeId} {es : List α}
theorem holds_rowG {cur : Array Value} (hb : w.heap[g]? = some (.cells cur e (0, 0))) (ht : cur.toList.take (es.length * K) = es.flatMap en) : HoldsK en K w g 0 es.toArray := by
  intro j hj
  have hj' : j < es.length * K := by simpa using hj
  refine ⟨?_, by simp [World.frozen?, hb]⟩
  have h1 : (cur.toList.take (es.length * K))[j]? = (es.flatMap en)[j]? := by rw [ht]
  rw [List.getElem?_take_of_lt hj'] at h1
  simp only [World.cell?, hb, Nat.zero_add]
  simp only [Option.isSome_none, Bool.false_eq_true, if_false]
  have h2 : j < (flatK en K es.toArray).size := by simpa using hj'
  rw [← Array.getElem?_toList, h1, getElem!_pos _ j h2, id, ← Array.getElem?_eq_getElem h2, ← Array.getElem?_toList, flatK_G en K h0 hK]
omit h0 hK in
theorem heap_sortedG {m : Nat} {os : Array Obj} {cur : Array Value} {fr : Nat × Nat} (d : Array α) (hb : w.heap[g]? = some (.cells cur e fr)) :
    (sortWorldK en K w g 0 m d os).heap[g]? = some (.cells (putCells id 0 (flatK en K d) cur) e fr) := by
  have hg : g < w.heap.size := (Array.getElem?_eq_some_iff.1 hb).1
  unfold sortWorldK putRowK
  rw [heap_grow_old _ _ (by simpa using hg)]
  simp [putRow, mapBlock, Sort.ahead, Array.getElem?_modify, hb, onCells]
omit h0 hK in
theorem grownBy_sortedG {m : Nat} {os : Array Obj} (d : Array α) : w.grownBy (sortWorldK en K w g 0 m d os) (some g) := by
  unfold sortWorldK putRowK
  refine ⟨rfl, rfl, rfl, by simp, fun k hk hne => ?_⟩
  rw [heap_grow_old _ _ (by simpa using hk)]
  have : g ≠ k := fun e => hne (by rw [e])
  simp [putRow, mapBlock, Sort.ahead, Array.getElem?_modify, this]
theorem ownsRow_sortedG {m : Nat} {os : Array Obj} {cur : Array Value} {ts : List α} (hl : ts.length = es.length) (hbase : base ≤ g) (hb : w.heap[g]? = some (.cells cur e (0, 0)))
    (h1 : es.length ≤ cap) (h2 : cap ≤ maxLen) (h3 : cur.size = cap * K) :
    (sortWorldK en K w g 0 m ts.toArray os).ownsRow base e K (.slice (some ⟨g, 0, none⟩) es.length cap) es.length (ts.flatMap en) := by
  refine ⟨by rw [flat_lenG en K hK, hl], .inr ⟨g, cap, _, rfl, hbase, heap_sortedG en K _ hb, h1, h2, by simp [putCells, h3], ?_⟩⟩
  apply List.ext_getElem?
  intro j
  have hfl : (ts.flatMap en).length = ts.length * K := flat_lenG en K hK ts
  have hle : es.length * K ≤ cap * K := Nat.mul_le_mul_right K h1
  by_cases hj : j < es.length * K
  · rw [List.getElem?_take_of_lt hj, Array.getElem?_toList]
    have hs : j < (flatK en K ts.toArray).size := by simp [hl]; exact hj
    have hc : j < cur.size := by omega
    rw [← flatK_G en K h0 hK ts.toArray, Array.getElem?_toList, Array.getElem?_eq_getElem hs]
    simp only [putCells, Array.getElem?_mapIdx, Array.getElem?_eq_getElem hc, Option.map_some, Nat.zero_le, Nat.zero_add, true_and, hs, if_true, Nat.sub_zero, id]
    rw [getElem!_pos _ j hs]
  · rw [List.getElem?_take_eq_none (by omega), List.getElem?_eq_none (by rw [hfl, hl]; omega)]
end
theorem isNaN_any (a : Int) (w : World) : Calls Tryz.prog 128 #[.int .i64 a] w fun e w' => e = .returned (.bool false) ∧ w' = w := by
  go_enter Tryz.func128, Tryz.ntmps128
  go_wp2
  go_ret
  exact ⟨ret_bool (by simp), rfl⟩
def cmpI (a b : Int) : Int := if a < b then -1 else if b < a then 1 else 0
set_option maxHeartbeats 1600000 in
theorem compare_any (a b : Int) (w : World) : Calls Tryz.prog 57 #[.int .i64 a, .int .i64 b] w fun e w' => e = .returned (.int .i64 (cmpI a b)) ∧ w' = w := by
  have HN := hide (fun x => isNaN_any x w)
  unfold cmpI
  by_cases h1 : a < b
  · rw [if_pos h1]
    go_enter Tryz.func57, Tryz.ntmps57
    go_wp2_with (go_at_call 128; refine (HN.out _).mono ?_; rintro e w' ⟨rfl, hw'⟩; obtain rfl := hw'.symm)
    go_ret
    exact ⟨rfl, rfl⟩
  · rw [if_neg h1]
    by_cases h2 : b < a
    · rw [if_pos h2]
      go_enter Tryz.func57, Tryz.ntmps57
      go_wp2_with (go_at_call 128; refine (HN.out _).mono ?_; rintro e w' ⟨rfl, hw'⟩; obtain rfl := hw'.symm)
      go_ret
      exact ⟨rfl, rfl⟩
    · rw [if_neg h2]
      go_enter Tryz.func57, Tryz.ntmps57
      go_wp2_with (go_at_call 128; refine (HN.out _).mono ?_; rintro e w' ⟨rfl, hw'⟩; obtain rfl := hw'.symm)
      go_ret
      exact ⟨rfl, rfl⟩
theorem ltOf_cmpI (x y : Int) : ltOf cmpI x y = decide (x < y) := by
  unfold ltOf cmpI
  by_cases h1 : x < y
  · simp [h1]
  · by_cases h2 : y < x <;> simp [h1, h2]
theorem swo_cmpI : SWO (ltOf cmpI) where
  irrefl x := by rw [ltOf_cmpI]; simp
  trans x y z h1 h2 := by rw [ltOf_cmpI] at *; simp only [decide_eq_true_eq] at *; omega
  ntrans x y z h1 h2 := by rw [ltOf_cmpI] at *; simp only [decide_eq_false_iff_not] at *; omega
theorem cmpI_parts (x y : Int) (h1 : (ltOf cmpI) x y = false) (h2 : (ltOf cmpI) y x = false) : x = y := by
  rw [ltOf_cmpI] at h1 h2
  simp only [decide_eq_false_iff_not] at h1 h2
  omega
theorem grow_two (W : World) (a b : Obj) : (W.alloc a).alloc b = grow (W.drewN 0) #[a, b] := by
  cases W
  simp [grow, World.alloc, World.drewN]
  try (apply Array.ext'; simp)
set_option maxHeartbeats 3200000 in
theorem closureL_any (x y : TxD) (W : World) : Calls Tryz.prog 56 #[.agg (txC x).toArray, .agg (txC y).toArray] W fun e w' => e = .returned (.int .i64 (cmpI x.id y.id)) ∧ ∃ q os', w' = grow (W.drewN q) os' := by
  obtain ⟨x1, x2, x3, x4⟩ := x
  obtain ⟨y1, y2, y3, y4⟩ := y
  have HC := hide (fun w => compare_any x1 y1 w)
  unfold txC
  dsimp only
  generalize hr1 : cmpI x1 y1 = r1
  have HC1 := hide (fun w => hr1 ▸ compare_any x1 y1 w)
  clear HC hr1
  go_enter Tryz.func56, Tryz.ntmps56
  go_wp2_with (go_at_call 57; refine (HC1.out _).mono ?_; rintro e w' ⟨rfl, hw'⟩; obtain rfl := hw'.symm)
  go_ret
  exact ⟨rfl, 0, _, grow_two _ _ _⟩
/-- The rows of redo.Losers are sorted by their numbers. -/
theorem sortL_any (en : Int → TxD) (hid : ∀ t, (en t).id = t) (v : Value) (ss : List Int) (base : Nat) (w : World) (hn : ss.length ≤ 1000) (hown : w.ownsRow base 53 4 v ss.length ((ss.map en).flatMap txC)) :
    Calls Tryz.prog 55 #[v, .func (.func 56) #[] #[]] w fun e w' => e = .returned (.tuple #[]) ∧ ∃ ts : List Int, ts.Perm ss ∧ ts.Pairwise (· ≤ ·) ∧ w'.ownsRow base 53 4 v ss.length ((ts.map en).flatMap txC) ∧ w.grownBy w' v.ownBlock := by
  have hfm : ∀ l : List Int, (l.map en).flatMap txC = l.flatMap fun t => txC (en t) := fun l => by rw [List.flatMap_map]
  rw [hfm] at hown
  rcases hown.2 with ⟨h0, h1⟩ | ⟨g, cap, cur, h0, hg, hh, hnc, hcm, hs, ht⟩
  · subst h0
    have hss : ss = [] := List.eq_nil_of_length_eq_zero h1
    subst hss
    refine (AnyF.slices_SortFunc_none Tryz.laySort (none : Option Addr) 0 (.func (.func 56) #[] #[]) w).mono ?_
    rintro e w2 ⟨rfl, rfl⟩
    exact ⟨rfl, [], List.Perm.refl _, List.Pairwise.nil, by simpa using hown, World.grownBy.refl _ _⟩
  · subst h0
    have hgl : g < w.heap.size := (Array.getElem?_eq_some_iff.1 hh).1
    have hcl : ∀ (x y : Int) (W : World), Calls Tryz.prog 56 #[.agg (txC (en x)).toArray, .agg (txC (en y)).toArray] W fun e w' => e = .returned (.int .i64 (cmpI x y)) ∧ ∃ q os', w' = grow (W.drewN q) os' := fun x y W => by
      have h := closureL_any (en x) (en y) W
      rw [hid, hid] at h
      exact h
    have hS := AnyQ.slices_SortFunc_total Tryz.laySort 4 (fun w => by kernel_rfl) (fun w => by kernel_rfl) (fun t : Int => txC (en t)) (fun _ => rfl) (fun x u hu => by
        simp only [txC, List.mem_cons, List.not_mem_nil, or_false] at hu
        rcases hu with rfl | rfl | rfl | rfl <;> rfl) cmpI swo_cmpI 56 #[] g 0 cap ss.toArray w (enters_of Tryz.func56 (by kernel_rfl) rfl)
      (fun m os dk _ x y => hcl x y _) (holds_rowG _ 4 (by omega) (fun _ => rfl) hh ht) hgl (by simp; omega) cmpI_parts
    refine hS.mono ?_
    rintro e w2 ⟨rfl, nn, os, rfl⟩
    refine ⟨rfl, ss.mergeSort fun x y => !(ltOf cmpI) y x, List.mergeSort_perm _ _, ?_, ?_, grownBy_sortedG _ _ _⟩
    · have := List.pairwise_mergeSort (le := fun x y : Int => !(ltOf cmpI) y x) (fun a b c h1 h2 => by simp only [ltOf_cmpI, Bool.not_eq_true', decide_eq_false_iff_not] at *; omega) (fun a b => by simp only [ltOf_cmpI, Bool.or_eq_true, Bool.not_eq_true', decide_eq_false_iff_not]; omega) ss
      refine this.imp ?_
      intro a b h
      simp only [ltOf_cmpI, Bool.not_eq_true', decide_eq_false_iff_not] at h
      omega
    · rw [hfm]
      exact ownsRow_sortedG _ 4 (by omega) (fun _ => rfl) (by simp) hg hh hnc hcm hs
end Go.Proofs.YtnanlaefehaifaaGreat
