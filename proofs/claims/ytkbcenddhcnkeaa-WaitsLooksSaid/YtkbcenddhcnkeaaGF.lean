/-
  WALKS: cmp.Compare, cmp.Or, slices.Clone of edges, waits.sorted (slices.SortFunc by the library's contract).
-/
import Derived.Test.YtkbcenddhcnkeaaGD
import Derived.Test.YtkbcenddhcnkeaaSrt
import Derived.Sort.OwnSorted
import Derived.WalkSpells
namespace Go.Proofs.Ytkbcenddhcnkeaa
open Go.RowKit Go.Sort Go.Lib

theorem flatK_ed (d : Array Ed) : (flatK edC 2 d).toList = d.toList.flatMap edC := by
  apply List.ext_getElem?
  intro t
  by_cases ht : t < d.size * 2
  · have h1 := get_flatK edC 2 d t ht
    have h2 : t < (flatK edC 2 d).size := by simpa using ht
    rw [getElem!_pos _ t h2] at h1
    have hd : t / 2 < d.size := by omega
    have h3 : (d.toList.flatMap edC)[t]? = (edC d[t / 2])[t % 2]? := by
      have h4 := flat_at edC 2 edC_length d.toList (t / 2) (t % 2) (Nat.mod_lt _ (by omega))
      rw [show t / 2 * 2 + t % 2 = t by omega] at h4
      rw [h4, Array.getElem?_toList, Array.getElem?_eq_getElem hd]
      rfl
    rw [Array.getElem?_toList, Array.getElem?_eq_getElem h2, h1, h3, getElem!_pos d _ hd]
    have hm : t % 2 < (edC d[t / 2]).length := by rw [edC_length]; exact Nat.mod_lt _ (by omega)
    rw [getElem!_pos (edC d[t / 2]) (t % 2) hm, List.getElem?_eq_getElem hm]
  · rw [List.getElem?_eq_none (by simpa using ht), List.getElem?_eq_none (by rw [flat_length _ 2 edC_length]; simpa using ht)]
section
variable {w : World} {base g cap n : Nat} {e : TypeId} {es : List Ed}
theorem holds_row {cur : Array Value} (hb : w.heap[g]? = some (.cells cur e (0, 0))) (ht : cur.toList.take (es.length * 2) = es.flatMap edC) : HoldsK edC 2 w g 0 es.toArray := by
  intro j hj
  have hj' : j < es.length * 2 := by simpa using hj
  refine ⟨?_, by simp [World.frozen?, hb]⟩
  have h1 : (cur.toList.take (es.length * 2))[j]? = (es.flatMap edC)[j]? := by rw [ht]
  rw [List.getElem?_take_of_lt hj'] at h1
  simp only [World.cell?, hb, Nat.zero_add]
  simp only [Option.isSome_none, Bool.false_eq_true, if_false]
  have h2 : j < (flatK edC 2 es.toArray).size := by simpa using hj'
  rw [← Array.getElem?_toList, h1, getElem!_pos _ j h2, id, ← Array.getElem?_eq_getElem h2, ← Array.getElem?_toList, flatK_ed]
theorem heap_sortedK {m : Nat} {os : Array Obj} {cur : Array Value} {fr : Nat × Nat} (d : Array Ed) (hb : w.heap[g]? = some (.cells cur e fr)) :
    (sortWorldK edC 2 w g 0 m d os).heap[g]? = some (.cells (putCells id 0 (flatK edC 2 d) cur) e fr) := by
  have hg : g < w.heap.size := (Array.getElem?_eq_some_iff.1 hb).1
  unfold sortWorldK putRowK
  rw [heap_grow_old _ _ (by simpa using hg)]
  simp [putRow, mapBlock, Sort.ahead, Array.getElem?_modify, hb, onCells]
theorem grownBy_sortedK {m : Nat} {os : Array Obj} (d : Array Ed) : w.grownBy (sortWorldK edC 2 w g 0 m d os) (some g) := by
  unfold sortWorldK putRowK
  refine ⟨rfl, rfl, rfl, by simp, fun k hk hne => ?_⟩
  rw [heap_grow_old _ _ (by simpa using hk)]
  have : g ≠ k := fun e => hne (by rw [e])
  simp [putRow, mapBlock, Sort.ahead, Array.getElem?_modify, this]
theorem ownsRow_sortedK {m : Nat} {os : Array Obj} {cur : Array Value} {ts : List Ed} (hl : ts.length = es.length) (hbase : base ≤ g) (hb : w.heap[g]? = some (.cells cur e (0, 0)))
    (h1 : es.length ≤ cap) (h2 : cap ≤ maxLen) (h3 : cur.size = cap * 2) :
    (sortWorldK edC 2 w g 0 m ts.toArray os).ownsRow base e 2 (.slice (some ⟨g, 0, none⟩) es.length cap) es.length (ts.flatMap edC) := by
  refine ⟨by rw [flat_length _ 2 edC_length]; omega, .inr ⟨g, cap, _, rfl, hbase, heap_sortedK _ hb, h1, h2, by simp [putCells, h3], ?_⟩⟩
  apply List.ext_getElem?
  intro j
  have hfl : (ts.flatMap edC).length = ts.length * 2 := flat_length _ 2 edC_length ts
  by_cases hj : j < es.length * 2
  · rw [List.getElem?_take_of_lt hj, Array.getElem?_toList]
    have hs : j < (flatK edC 2 ts.toArray).size := by simp; omega
    have hc : j < cur.size := by omega
    rw [← flatK_ed ts.toArray, Array.getElem?_toList, Array.getElem?_eq_getElem hs]
    simp only [putCells, Array.getElem?_mapIdx, Array.getElem?_eq_getElem hc, Option.map_some, Nat.zero_le, Nat.zero_add, true_and, hs, if_true, Nat.sub_zero, id]
    rw [getElem!_pos _ j hs]
  · rw [List.getElem?_take_eq_none (by omega), List.getElem?_eq_none (by omega)]
end
theorem isNaN_any (a : Int) (w : World) : Calls Try.prog 38 #[.int .i64 a] w fun e w' => e = .returned (.bool false) ∧ w' = w := by
  go_enter Try.func38, Try.ntmps38
  go_wp2
  go_ret
  exact ⟨ret_bool (by simp), rfl⟩
def cmpI (a b : Int) : Int := if a < b then -1 else if b < a then 1 else 0
set_option maxHeartbeats 1600000 in
theorem compare_any (a b : Int) (w : World) : Calls Try.prog 31 #[.int .i64 a, .int .i64 b] w fun e w' => e = .returned (.int .i64 (cmpI a b)) ∧ w' = w := by
  have HN := hide (fun x => isNaN_any x w)
  unfold cmpI
  by_cases h1 : a < b
  · rw [if_pos h1]
    go_enter Try.func31, Try.ntmps31
    go_wp2_with (go_at_call 38; refine (HN.out _).mono ?_; rintro e w' ⟨rfl, hw'⟩; obtain rfl := hw'.symm)
    go_ret
    exact ⟨rfl, rfl⟩
  · rw [if_neg h1]
    by_cases h2 : b < a
    · rw [if_pos h2]
      go_enter Try.func31, Try.ntmps31
      go_wp2_with (go_at_call 38; refine (HN.out _).mono ?_; rintro e w' ⟨rfl, hw'⟩; obtain rfl := hw'.symm)
      go_ret
      exact ⟨rfl, rfl⟩
    · rw [if_neg h2]
      go_enter Try.func31, Try.ntmps31
      go_wp2_with (go_at_call 38; refine (HN.out _).mono ?_; rintro e w' ⟨rfl, hw'⟩; obtain rfl := hw'.symm)
      go_ret
      exact ⟨rfl, rfl⟩
def orI (a b : Int) : Int := if a ≠ 0 then a else b
set_option maxHeartbeats 1600000 in
theorem or_any (g : Nat) (a b : Int) (c : Nat) (w : World) (k : Blk w g 3 #[.int .i64 a, .int .i64 b]) : Calls Try.prog 30 #[.slice (some ⟨g, 0, none⟩) 2 c] w fun e w' => e = .returned (.int .i64 (orI a b)) ∧ w' = w := by
  have q0 := k.cell 0
  have q1 := k.cell 1
  have l0 := k.lt
  simp only [List.getElem?_toArray, List.getElem?_cons_zero, List.getElem?_cons_succ] at q0 q1
  go_enter Try.func30, Try.ntmps30
  go_wp2
  go_loopw [8] (fun i wr => ∃ j : Nat, j ≤ 2 ∧ i = .int .i64 j ∧ (0 < j → a = 0) ∧ (1 < j → b = 0) ∧ wr = w) (fun i _ => 2 - (intOf i).toNat)
  case atStart => exact ⟨0, by omega, rfl, fun h => absurd h (by omega), fun h => absurd h (by omega), rfl⟩
  case round =>
    obtain ⟨j, hj, rfl, h1, h2, rfl⟩ := hrel
    obtain rfl | rfl | rfl : j = 0 ∨ j = 1 ∨ j = 2 := by omega
    · clear h1 h2
      by_cases ha : a = 0
      · go_wp2
        go_roundw
        case rel => exact ⟨1, by omega, by go_num, fun _ => ha, fun h => absurd h (by omega), by trivial⟩
        case measure => simp [intOf]
      · have HO := hide (show orI a b = a from if_pos ha)
        go_wp2
        go_ret
        exact ⟨by rw [HO.out]; rfl, rfl⟩
    · have ha := h1 (by omega)
      clear h1 h2
      by_cases hb : b = 0
      · go_wp2
        go_roundw
        case rel => exact ⟨2, by omega, by go_num, fun _ => ha, fun _ => hb, by trivial⟩
        case measure => simp [intOf]
      · have HO := hide (show orI a b = b by rw [orI, if_neg (by rw [ha]; simp)])
        clear ha
        go_wp2
        go_ret
        exact ⟨by rw [HO.out]; rfl, rfl⟩
    · have HO := hide (show orI a b = 0 by rw [orI, if_neg (by rw [h1 (by omega)]; simp), h2 (by omega)])
      clear h1 h2
      go_wp2
      go_ret
      exact ⟨by rw [HO.out]; rfl, rfl⟩
/-- The world behind a region's draw. -/
def IsDrew (W1 W' : World) : Prop := W' = W1.drew
instance (W1 : World) : Nonempty (In (IsDrew W1)) := ⟨⟨_, rfl⟩⟩
theorem In.cell {W1 : World} (t : In (IsDrew W1)) (p : Addr) : t.w.cell? p = W1.cell? p := by rw [show t.w = W1.drew from t.h]; rfl
/-- How edges are compared. -/
def cmpE (x y : Ed) : Int := orI (cmpI x.1 y.1) (cmpI x.2 y.2)
theorem ltOf_cmpE (x y : Ed) : ltOf cmpE x y = decide (x.1 < y.1 ∨ (x.1 = y.1 ∧ x.2 < y.2)) := by
  unfold ltOf cmpE orI cmpI
  by_cases h1 : x.1 < y.1
  · simp [h1]
  · by_cases h2 : y.1 < x.1
    · have h3 : ¬ x.1 = y.1 := by omega
      simp [h1, h2, h3]
    · have h3 : x.1 = y.1 := by omega
      by_cases h4 : x.2 < y.2
      · simp [h3, h4]
      · by_cases h5 : y.2 < x.2 <;> simp [h3, h4, h5]
theorem swo_cmpE : SWO (ltOf cmpE) where
  irrefl x := by rw [ltOf_cmpE]; simp
  trans x y z h1 h2 := by rw [ltOf_cmpE] at *; simp only [decide_eq_true_eq] at *; omega
  ntrans x y z h1 h2 := by rw [ltOf_cmpE] at *; simp only [decide_eq_false_iff_not] at *; omega
theorem le_cmpE : (fun x y => !(ltOf cmpE) y x) = leE := by
  funext x y
  rw [ltOf_cmpE, Bool.eq_iff_iff, leE_iff]
  simp only [Bool.not_eq_true', decide_eq_false_iff_not]
  omega
theorem grow_three (W : World) (a b c : Obj) : (((W.alloc a).alloc b).alloc c).drew = grow (W.drewN 1) #[a, b, c] := by
  cases W
  simp [grow, World.alloc, World.drew, World.drewN]
  apply Array.ext'
  simp
set_option maxHeartbeats 3200000 in
theorem closure_any (x y : Ed) (W : World) : Calls Try.prog 29 #[.agg #[.int .i64 x.1, .int .i64 x.2], .agg #[.int .i64 y.1, .int .i64 y.2]] W fun e w' => e = .returned (.int .i64 (cmpE x y)) ∧ ∃ q os', w' = grow (W.drewN q) os' := by
  obtain ⟨x1, x2⟩ := x
  obtain ⟨y1, y2⟩ := y
  have HC := hide (fun a b w => compare_any a b w)
  have HO := hide (fun g a b c w k => or_any g a b c w k)
  unfold cmpE
  dsimp only
  generalize hr1 : cmpI x1 y1 = r1
  generalize hr2 : cmpI x2 y2 = r2
  have HC1 := hide (fun w => hr1 ▸ compare_any x1 y1 w)
  have HC2 := hide (fun w => hr2 ▸ compare_any x2 y2 w)
  clear HC hr1 hr2
  go_enter Try.func29, Try.ntmps29
  go_wp2
  generalize hW1 : (W.alloc (.cells #[.int .i64 x1, .int .i64 x2] 29)).alloc (.cells #[.int .i64 y1, .int .i64 y2] 29) = W1
  have k0 : Blk W1 W.heap.size 29 #[.int .i64 x1, .int .i64 x2] := hW1 ▸ (Blk.new W _ _).alloc _
  have k1 : Blk W1 (W.heap.size + 1) 29 #[.int .i64 y1, .int .i64 y2] := hW1 ▸ by simpa using Blk.new (W.alloc (.cells #[.int .i64 x1, .int .i64 x2] 29)) 29 #[.int .i64 y1, .int .i64 y2]
  have q0 : ∀ t : In (IsDrew W1), t.w.cell? ⟨W.heap.size, 0, none⟩ = some (.int .i64 x1) := fun t => (t.cell _).trans (k0.cell 0)
  have q1 : ∀ t : In (IsDrew W1), t.w.cell? ⟨W.heap.size, 1, none⟩ = some (.int .i64 x2) := fun t => (t.cell _).trans (k0.cell 1)
  have q2 : ∀ t : In (IsDrew W1), t.w.cell? ⟨W.heap.size + 1, 0, none⟩ = some (.int .i64 y1) := fun t => (t.cell _).trans (k1.cell 0)
  have q3 : ∀ t : In (IsDrew W1), t.w.cell? ⟨W.heap.size + 1, 1, none⟩ = some (.int .i64 y2) := fun t => (t.cell _).trans (k1.cell 1)
  have hW1' := hide hW1
  have l0 := k0.lt
  have l1 := k1.lt
  clear hW1 k0 k1
  refine wp_region_in_tail (C := (IsDrew W1)) 10 (by kernel_rfl) (by kernel_rfl) rfl ?_
  simp only [List.take_succ_cons, List.take_zero, List.drop_succ_cons, List.drop_zero]
  repeat (first | go_big_quiet_step ((go_at_call 31; first | with_reducible exact calls_in_same (HC1.out _) | with_reducible exact calls_in_same (HC2.out _))) | quiet_step ((go_at_call 31; first | with_reducible exact calls_in_same (HC1.out _) | with_reducible exact calls_in_same (HC2.out _))))
  refine wpQuiet_nil ?_
  intro _ hw'
  obtain ⟨t, hw''⟩ := hw'
  subst hw''
  obtain ⟨tw, th⟩ := t
  obtain rfl : tw = W1.drew := th
  dsimp only
  go_wp2_with (go_at_call 30; refine (HO.out _ r1 r2 2 _ (by first | exact Blk.new _ _ _ | exact (Blk.new _ _ _).drew)).mono ?_; rintro e w' ⟨rfl, hw'⟩; obtain rfl := hw'.symm)
  have HG : (W1.alloc (.cells #[.int .i64 r1, .int .i64 r2] 3)).drew = grow (W.drewN 1) #[.cells #[.int .i64 x1, .int .i64 x2] 29, .cells #[.int .i64 y1, .int .i64 y2] 29, .cells #[.int .i64 r1, .int .i64 r2] 3] := by
    rw [← hW1'.out]
    exact grow_three _ _ _ _
  go_ret
  exact ⟨rfl, 1, _, HG⟩
/-- A row of edges of one's own. -/
def EdsOwn (es : List Ed) (w : World) (e : Ending) (w' : World) : Prop := ∃ A2 c2, e = .returned (.slice A2 es.length c2) ∧ w'.ownsRow w.heap.size 29 2 (.slice A2 es.length c2) es.length (es.flatMap edC) ∧ Below w.heap.size w w'
set_option maxHeartbeats 1600000 in
theorem clone_any (A : Option Addr) (n c : Nat) (es : List Ed) (B : Nat) (w : World) (hB : B ≤ w.heap.size) (hn : n ≤ 1000000) (h : Eds w B A n es) (hc : A = none → c = 0) :
    Calls Try.prog 27 #[.slice A n c] w (EdsOwn es w) := by
  obtain ⟨i0, hi, hz0, hz1, hz2⟩ := info_parts info_edge
  have HL := hide h.1
  cases A with
  | none =>
    obtain rfl : c = 0 := hc rfl
    obtain rfl : n = 0 := by
      rcases Nat.eq_zero_or_pos n with h0 | h0
      · exact h0
      · obtain ⟨b, o, e, ha, _⟩ := h.at_ h0
        cases ha
    have HE := hide (show es = [] from List.eq_nil_of_length_eq_zero HL.out.symm)
    clear h hc hi hz0 hz1 hz2
    have hq := fun w : World => Lib.run_eql_slice_nil (P := Try.prog) w 22 29 none 0 0 0 0 Try.underlying22
    go_enter Try.func27, Try.ntmps27
    go_wp2
    go_ret
    refine ⟨none, 0, by rw [HE.out]; rfl, ?_, Below.refl _ _⟩
    rw [HE.out]
    exact World.ownsRow_nil _ _ _ 2
  | some ad =>
    have HR := hide h.2
    clear h hc
    have hq := fun w : World => Lib.run_eql_slice_nil (P := Try.prog) w 22 29 (some ad) n c 0 0 Try.underlying22
    go_enter Try.func27, Try.ntmps27
    go_wp2_with (at_builtin; refine heldG ?_)
    refine unheldG ?_
    at_builtin
    refine wpList_append_any _ rfl _ _ _ rfl w.heap.size 29 i0 _ 2 16 Try.underlying22 hi hz0 hz1 hz2 rfl (by omega) _ 0 [] rfl (World.ownsRow_made w #[] 0 (Nat.le_refl _) (Nat.zero_le _) rfl) B (some ad) n c (es.flatMap edC) rfl (HR.out.alloc hB _) (Eds.one es) (by unfold maxLen; omega) (by omega) (by simp) ?_
    intro v' w1 hown hg _
    have hb1 : Below w.heap.size w w1 := ((Below.refl _ _).alloc (Nat.le_refl _) _).grown hg (by simp) (fun k hk => by cases hk; exact Nat.le_refl _)
    simp only [Nat.zero_add, List.nil_append] at hown
    obtain ⟨A2, c2, rfl, _⟩ := own_slice hown
    have HO := hide hown
    clear hown hg
    go_wp2
    go_ret
    exact ⟨A2, c2, by rw [← HL.out]; rfl, by rw [← HL.out]; exact HO.out, hb1⟩
theorem srtE_sort (es : List Ed) : (es.toArray.toList.mergeSort fun x y => !(ltOf cmpE) y x) = srtE es := by
  unfold srtE
  rw [← le_cmpE]
theorem cmpE_parts (x y : Ed) (h1 : (ltOf cmpE) x y = false) (h2 : (ltOf cmpE) y x = false) : x = y := by
  rw [ltOf_cmpE] at h1 h2
  simp only [decide_eq_false_iff_not] at h1 h2
  exact Prod.ext (by omega) (by omega)
set_option maxHeartbeats 1600000 in
theorem sorted_any (A : Option Addr) (n c : Nat) (es : List Ed) (B : Nat) (w : World) (hB : B ≤ w.heap.size) (hn : n ≤ 1000000) (h : Eds w B A n es) (hc : A = none → c = 0) :
    Calls Try.prog 19 #[.slice A n c] w (EdsOwn (srtE es) w) := by
  have HL := hide h.1
  have HC := hide (clone_any A n c es B w hB hn h hc)
  clear h hc
  go_enter Try.func19, Try.ntmps19
  go_wp2_with fail
  refine HC.out.mono ?_
  rintro e w1 ⟨A2, c2, rfl, hown, hb1⟩
  have HO := hide hown
  have h0 := hown.2
  clear hown
  rcases h0 with ⟨h0, h1⟩ | ⟨g, cap, cur, h0, hg, hh, hnc, hcm, hs, ht⟩
  · have HE := hide (show srtE es = [] from List.eq_nil_of_length_eq_zero (by rw [srtE_len]; exact h1))
    injection h0 with h3 h4 h5
    subst h3 h5
    have HS := hide (AnyF.slices_SortFunc_none Try.laySort (none : Option Addr) 0 (.func (.func 29) #[] #[]) w1)
    generalize es.length = m at h1 ⊢
    subst h1
    clear h4
    go_wp2_with fail
    refine HS.out.mono ?_
    rintro e w2 ⟨rfl, hw2⟩
    obtain rfl := hw2.symm
    go_wp2
    go_ret
    refine ⟨none, 0, by rw [HE.out]; rfl, ?_, hb1⟩
    rw [HE.out]
    exact World.ownsRow_nil _ _ _ 2
  · injection h0 with h3 h4 h5
    subst h3 h5
    have hgl : g < w1.heap.size := (Array.getElem?_eq_some_iff.1 hh).1
    have HH := hide hh
    have HT := hide ht
    have HSZ := hide hs
    have hS := AnyQ.slices_SortFunc_total Try.laySort 2 (fun w => by kernel_rfl) (fun w => by kernel_rfl) edC edC_length (fun x u hu => by
        simp only [edC, List.mem_cons, List.not_mem_nil, or_false] at hu
        rcases hu with rfl | rfl <;> rfl) cmpE swo_cmpE 29 #[] g 0 c2 es.toArray w1 (enters_of Try.func29 (by kernel_rfl) rfl)
      (fun m os dk _ x y => closure_any x y _) (holds_row hh ht) hgl (by have := HL.out; simp; omega) cmpE_parts
    rw [srtE_sort] at hS
    have HS : Hid (Calls Try.prog 28 #[.slice (some ⟨g, 0, none⟩) es.length c2, .func (.func 29) #[] #[]] w1 fun e w' => e = .returned (.tuple #[]) ∧ ∃ n os, w' = sortWorldK edC 2 w1 g 0 n (srtE es).toArray os) := hide hS
    clear hh ht hs h4 hS
    have HSL := hide (srtE_len es)
    generalize hml : es.length = ml at *
    have HML := hide hml
    clear hml
    go_wp2_with fail
    refine HS.out.mono ?_
    rintro e w2 ⟨rfl, nn, os, hw2⟩
    have hO2 : w2.ownsRow w.heap.size 29 2 (.slice (some ⟨g, 0, none⟩) ml c2) ml ((srtE es).flatMap edC) := by
      rw [hw2, ← HML.out]
      exact ownsRow_sortedK (by rw [HSL.out, HML.out]) hg HH.out (by rw [HML.out]; exact hnc) hcm HSZ.out
    have hb2 : Below w.heap.size w w2 := by
      rw [hw2]
      exact hb1.grown (grownBy_sortedK _) hb1.size (fun q hq => by cases hq; exact hg)
    have HO2 := hide hO2
    clear hw2 hO2
    go_wp2
    go_ret
    exact ⟨some ⟨g, 0, none⟩, c2, by rw [HSL.out]; rfl, by rw [HSL.out]; exact HO2.out, hb2⟩
end Go.Proofs.Ytkbcenddhcnkeaa
