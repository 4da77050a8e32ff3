/-
  EDGES IN MEMORY; WALKS: moneyerref12.SameList, moneyerref14.in, least, Without, Youngest, slices.Max, waits.Youngest.
-/
import Derived.Test.YtkbcenddhcnkeaaProg
import Derived.Test.YtkbcenddhcnkeaaMem
import Derived.Test.YtkbcenddhcnkeaaApp
import Derived.Test.YtkbcenddhcnkeaaQin
import Derived.Test.YtkbcenddhcnkeaaGC
import Derived.BigQuiet
namespace Go.Proofs.Ytkbcenddhcnkeaa
open Go.RowKit

/-- A goal at which the walk stops. -/
def HeldG (p : Prop) : Prop := p
theorem heldG {p : Prop} (h : HeldG p) : p := h
theorem unheldG {p : Prop} (h : p) : HeldG p := h
def edC (e : Ed) : List Value := [.int .i64 e.1, .int .i64 e.2]
theorem edC_length (e : Ed) : (edC e).length = 2 := rfl
theorem info_edge : (Try.prog.info? 29).map (fun i => (i.zero, i.size, i.bytes)) = some (some (.agg #[.int .i64 0, .int .i64 0]), 2, 16) := by kernel_rfl
theorem info_int : (Try.prog.info? 3).map (fun i => (i.zero, i.size, i.bytes)) = some (some (.int .i64 0), 1, 8) := by kernel_rfl
/-- The slice reads as the edges es. -/
def Eds (w : World) (B : Nat) (A : Option Addr) (n : Nat) (es : List Ed) : Prop := n = es.length ∧ Reads w B 2 A n (es.flatMap edC)
section
variable {w w' : World} {B B' C n : Nat} {A : Option Addr} {es : List Ed}
theorem Eds.below (h : Eds w B A n es) (hb : Below C w w') (hC : B ≤ C) : Eds w' B A n es := ⟨h.1, h.2.below hb hC⟩
theorem Eds.more (h : Eds w B A n es) (hB : B ≤ B') : Eds w B' A n es := ⟨h.1, h.2.more hB⟩
theorem Eds.at_ {k : Nat} (h : Eds w B A n es) (hk : k < n) : ∃ b o e, A = some ⟨b, o, none⟩ ∧ b < B ∧ es[k]? = some e ∧ w.cell? ⟨b, o + k * 2, none⟩ = some (.int .i64 e.1) ∧ w.cell? ⟨b, o + k * 2 + 1, none⟩ = some (.int .i64 e.2) := by
  obtain ⟨rfl, hr⟩ := h
  obtain ⟨b, o, e, hb, hc⟩ := hr.plain (by omega) (by omega)
  have key : ∀ j u, (edC es[k])[j]? = some u → w.cell? ⟨b, o + k * 2 + j, none⟩ = some u := fun j u hu => by
    have hj : j < 2 := by
      have := (List.getElem?_eq_some_iff.1 hu).1
      rwa [edC_length] at this
    rw [Nat.add_assoc]
    refine hc _ u ?_
    rw [flat_at _ 2 edC_length _ _ _ hj, List.getElem?_eq_getElem hk]
    exact hu
  exact ⟨b, o, es[k], e, hb, List.getElem?_eq_getElem hk, key 0 _ rfl, key 1 _ rfl⟩
theorem Eds.one (es : List Ed) : ∀ u ∈ es.flatMap edC, u.oneCell' = true := by
  intro u hu
  obtain ⟨x, hx, hu⟩ := List.mem_flatMap.1 hu
  simp only [edC, List.mem_cons, List.not_mem_nil, or_false] at hu
  rcases hu with rfl | rfl <;> rfl
theorem Eds.of_own {base c : Nat} {e : TypeId} (h : w.ownsRow base e 2 (.slice A n c) n (es.flatMap edC)) (hn : n = es.length) : Eds w w.heap.size A n es := ⟨hn, Reads.of_own h⟩
end
def numsEq (a b : List Int) : Bool := a == b
theorem numsEq_len {a b : List Int} (h : a.length ≠ b.length) : numsEq a b = false := by
  unfold numsEq
  rw [beq_eq_false_iff_ne]
  rintro rfl
  exact h rfl
set_option maxHeartbeats 1600000 in
theorem SameList_any (A A' : Option Addr) (n c n' c' : Nat) (xs ys : List Int) (B : Nat) (w : World) (hn : n ≤ 1000000) (hn' : n' ≤ 1000000) (h : Ints w B A n xs) (h' : Ints w B A' n' ys) :
    Calls Try.prog 8 #[.slice A n c, .slice A' n' c'] w fun e w' => e = .returned (.bool (numsEq xs ys)) ∧ Below w.heap.size w w' := by
  by_cases hl : n = n'
  · subst hl
    have b0 : ((n : Int) != n) = false := by simp
    have HL := hide (And.intro h.1 h'.1)
    go_enter Try.func8, Try.ntmps8
    go_wp2
    go_loopw [5] (fun i wr => ∃ k : Nat, k ≤ n ∧ i = .int .i64 k ∧ xs.take k = ys.take k ∧ ∃ dd, wr = w.drewN dd) (fun i _ => n - (intOf i).toNat)
    case atStart => exact ⟨0, Nat.zero_le _, rfl, rfl, 0, rfl⟩
    case round =>
      obtain ⟨k, hk, rfl, hq, dd, rfl⟩ := hrel
      have HQ := hide hq
      clear hq
      by_cases hlt : k < n
      · obtain ⟨b, o, x, rfl, hb, hkx, c0⟩ := h.at_ (k := k) hlt
        obtain ⟨b', o', y, rfl, hb', hky, c1⟩ := h'.at_ (k := k) hlt
        have HX := hide (And.intro hkx hky)
        have s1 : (k : Int) < n := by omega
        have s0 : (0 : Int) ≤ k := by omega
        clear hkx hky
        cases hxy : (x != y)
        · have HE := hide (show x = y by simpa using hxy)
          go_wp2
          go_quiet (fail)
          go_wp2
          go_roundw
          case rel =>
            refine ⟨k + 1, by omega, by go_num, ?_, by first | exact ⟨_, rfl⟩ | exact ⟨_, World.drewN_drewN _ _ _⟩⟩
            obtain ⟨h1, h2⟩ := HX.out
            obtain ⟨l1, e1⟩ := List.getElem?_eq_some_iff.1 h1
            obtain ⟨l2, e2⟩ := List.getElem?_eq_some_iff.1 h2
            rw [List.take_succ_eq_append_getElem l1, List.take_succ_eq_append_getElem l2, HQ.out, e1, e2, HE.out]
          case measure => simp [intOf]; omega
        · have HE := hide (show x ≠ y by simpa using hxy)
          go_wp2
          go_quiet (fail)
          go_wp2
          go_ret
          refine ⟨ret_bool ?_, by first | exact below_drewN (Below.refl _ _) _ | exact below_drewN (below_drewN (Below.refl _ _) _) _⟩
          symm
          unfold numsEq
          rw [beq_eq_false_iff_ne]
          rintro rfl
          obtain ⟨h1, h2⟩ := HX.out
          rw [h1] at h2
          injection h2 with h2
          exact HE.out h2
      · go_wp2
        go_ret
        refine ⟨ret_bool ?_, below_drewN (Below.refl _ _) _⟩
        obtain ⟨l1, l2⟩ := HL.out
        have hq := HQ.out
        rw [List.take_of_length_le (by omega), List.take_of_length_le (by omega)] at hq
        rw [hq]
        simp [numsEq]
  · have b0 : ((n : Int) != n') = true := by simp; omega
    have HE := hide (numsEq_len (a := xs) (b := ys) (by rw [← h.1, ← h'.1]; exact hl))
    clear hl
    go_enter Try.func8, Try.ntmps8
    go_wp2
    go_ret
    exact ⟨ret_bool HE.out.symm, Below.refl _ _⟩

set_option maxHeartbeats 1600000 in
theorem in_any (A : Option Addr) (n c : Nat) (xs : List Int) (v : Int) (B : Nat) (w : World) (hn : n ≤ 1000000) (h : Ints w B A n xs) :
    Calls Try.prog 21 #[.slice A n c, .int .i64 v] w fun e w' => e = .returned (.bool (decide (v ∈ xs))) ∧ w' = w := by
  have HL := hide h.1
  go_enter Try.func21, Try.ntmps21
  go_wp2
  go_loopw [5] (fun i wr => ∃ k : Nat, k ≤ n ∧ i = .int .i64 k ∧ Hid (v ∉ xs.take k) ∧ wr = w) (fun i _ => n - (intOf i).toNat)
  case atStart => exact ⟨0, Nat.zero_le _, rfl, hide (by simp), rfl⟩
  case round =>
    obtain ⟨k, hk, rfl, HV, rfl⟩ := hrel
    by_cases hlt : k < n
    · obtain ⟨b, o, x, rfl, hb, hkx, c0⟩ := h.at_ (k := k) hlt
      have HX := hide hkx
      have s1 : (k : Int) < n := by omega
      have s0 : (0 : Int) ≤ k := by omega
      clear hkx
      by_cases hx : x = v
      · subst hx
        go_wp2
        go_ret
        refine ⟨ret_bool ?_, rfl⟩
        symm
        exact decide_eq_true (List.mem_of_getElem? HX.out)
      · go_wp2
        go_roundw
        case rel =>
          refine ⟨k + 1, by omega, by go_num, hide ?_, by trivial⟩
          obtain ⟨l1, e1⟩ := List.getElem?_eq_some_iff.1 HX.out
          rw [List.take_succ_eq_append_getElem l1, e1]
          intro hm
          rcases List.mem_append.1 hm with hm | hm
          · exact HV.out hm
          · rw [List.mem_singleton] at hm
            exact hx hm.symm
        case measure => simp [intOf]; omega
    · go_wp2
      go_ret
      refine ⟨ret_bool ?_, rfl⟩
      symm
      refine decide_eq_false (fun hm => HV.out ?_)
      rw [List.take_of_length_le (by have := HL.out; omega)]
      exact hm
/-- What a round of least keeps. -/
def LeastS (o : Option Int) (m ok : Value) : Prop := match o with | none => m = .int .i64 0 ∧ ok = .bool false | some x => m = .int .i64 x ∧ ok = .bool true
def minStep (o : Option Int) (y : Int) : Option Int := match o with | none => some y | some m => some (if y < m then y else m)
theorem take_min {l : List Ed} {n c : Int} {any : Bool} {k : Nat} {e : Ed} (h : l[k]? = some e) : minD (((l.take (k + 1)).filter (askB n c any)).map (·.2)) = if askB n c any e = true then minStep (minD (((l.take k).filter (askB n c any)).map (·.2))) e.2 else minD (((l.take k).filter (askB n c any)).map (·.2)) := by
  obtain ⟨hk, rfl⟩ := List.getElem?_eq_some_iff.1 h
  rw [List.take_succ_eq_append_getElem hk, List.filter_append, List.map_append]
  by_cases hq : askB n c any l[k] = true
  · rw [if_pos hq, List.filter_cons_of_pos hq]
    exact minD_snoc _ _
  · rw [if_neg hq, List.filter_cons_of_neg hq]
    simp
def leastV (o : Option Int) : Value := match o with | none => .tuple #[.int .i64 0, .bool false] | some m => .tuple #[.int .i64 m, .bool true]
set_option maxHeartbeats 6400000 in
theorem least_any (A : Option Addr) (n c : Nat) (es : List Ed) (nn ab : Int) (any : Bool) (B : Nat) (w : World) (hn : n ≤ 1000000) (h : Eds w B A n es) :
    Calls Try.prog 32 #[.slice A n c, .int .i64 nn, .int .i64 ab, .bool any] w fun e w' => e = .returned (leastV (leastD es nn ab any)) ∧ w' = w := by
  have HL := hide h.1
  go_enter Try.func32, Try.ntmps32
  go_wp2
  go_loopw [10, 11, 12] (fun m ok i wr => ∃ k : Nat, k ≤ n ∧ i = .int .i64 k ∧ LeastS (minD (((es.take k).filter (askB nn ab any)).map (·.2))) m ok ∧ wr = w) (fun _ _ i _ => n - (intOf i).toNat)
  case atStart => exact ⟨0, Nat.zero_le _, rfl, ⟨rfl, rfl⟩, rfl⟩
  case round =>
    obtain ⟨k, hk, rfl, hm, rfl⟩ := hrel
    by_cases hlt : k < n
    · obtain ⟨b, o, e, rfl, hb, hkx, c0, c1⟩ := h.at_ (k := k) hlt
      have HT := hide (take_min (n := nn) (c := ab) (any := any) hkx)
      have s1 : (k : Int) < n := by omega
      have s0 : (0 : Int) ≤ k := by omega
      obtain ⟨x, y⟩ := e
      dsimp only at *
      generalize hO : minD (((es.take k).filter (askB nn ab any)).map (·.2)) = O at hm HT
      clear hkx hO
      by_cases h1 : x = nn
      · by_cases h2 : any = true ∨ ab < y
        · have HQ := hide (show askB nn ab any (x, y) = true by simp only [askB, Bool.and_eq_true, Bool.or_eq_true, decide_eq_true_eq, beq_iff_eq]; exact ⟨h1, h2⟩)
          have HT : Hid (minD (((es.take (k + 1)).filter (askB nn ab any)).map (·.2)) = minStep O y) := hide (by rw [HT.out, if_pos HQ.out])
          subst h1
          have h3 : any = true ∨ (any = false ∧ ab < y) := by cases any; exact .inr ⟨rfl, by simpa using h2⟩; exact .inl rfl
          clear h2 HQ
          cases O with
          | none =>
            obtain ⟨rfl, rfl⟩ := hm
            rcases h3 with rfl | ⟨rfl, h3⟩
            all_goals
              go_wp2
              go_roundw
              case rel => exact ⟨k + 1, by omega, by go_num, by rw [HT.out]; exact ⟨rfl, rfl⟩, by trivial⟩
              case measure => simp [intOf]; omega
          | some m =>
            obtain ⟨rfl, rfl⟩ := hm
            by_cases h4 : y < m
            · have HT : Hid (minD (((es.take (k + 1)).filter (askB x ab any)).map (·.2)) = some y) := hide (by rw [HT.out]; simp [minStep, h4])
              rcases h3 with rfl | ⟨rfl, h3⟩
              all_goals
                go_wp2
                go_roundw
                case rel => exact ⟨k + 1, by omega, by go_num, by rw [HT.out]; exact ⟨rfl, rfl⟩, by trivial⟩
                case measure => simp [intOf]; omega
            · have HT : Hid (minD (((es.take (k + 1)).filter (askB x ab any)).map (·.2)) = some m) := hide (by rw [HT.out]; simp [minStep, h4])
              rcases h3 with rfl | ⟨rfl, h3⟩
              all_goals
                go_wp2
                go_roundw
                case rel => exact ⟨k + 1, by omega, by go_num, by rw [HT.out]; exact ⟨rfl, rfl⟩, by trivial⟩
                case measure => simp [intOf]; omega
        · have HT : Hid (minD (((es.take (k + 1)).filter (askB nn ab any)).map (·.2)) = O) := hide (by
            rw [HT.out, if_neg]
            intro hq
            simp only [askB, Bool.and_eq_true, Bool.or_eq_true, decide_eq_true_eq, beq_iff_eq] at hq
            exact h2 hq.2)
          have h3 : any = false := by cases any; rfl; exact absurd (.inl rfl) h2
          subst h3
          have h4 : ¬ ab < y := fun h => h2 (.inr h)
          clear h2
          subst h1
          go_wp2
          go_roundw
          case rel => exact ⟨k + 1, by omega, by go_num, by rw [HT.out]; exact hm, by trivial⟩
          case measure => simp [intOf]; omega
      · have HT : Hid (minD (((es.take (k + 1)).filter (askB nn ab any)).map (·.2)) = O) := hide (by
          rw [HT.out, if_neg]
          intro hq
          simp only [askB, Bool.and_eq_true, beq_iff_eq] at hq
          exact h1 hq.1)
        go_wp2
        go_roundw
        case rel => exact ⟨k + 1, by omega, by go_num, by rw [HT.out]; exact hm, by trivial⟩
        case measure => simp [intOf]; omega
    · have HKN := hide (show es.take k = es from List.take_of_length_le (by have := HL.out; omega))
      rw [HKN.out] at hm
      cases ho : minD ((es.filter (askB nn ab any)).map (·.2)) with
      | none =>
        rw [ho] at hm
        obtain ⟨rfl, rfl⟩ := hm
        have HO := hide ho
        clear ho
        go_wp2
        go_ret2
        exact ⟨by rw [leastD, HO.out]; rfl, by trivial⟩
      | some m =>
        rw [ho] at hm
        obtain ⟨rfl, rfl⟩ := hm
        have HO := hide ho
        clear ho
        go_wp2
        go_ret2
        exact ⟨by rw [leastD, HO.out]; rfl, by trivial⟩
theorem young_snoc (l : List Int) (x : Int) : young (l ++ [x]) = if l = [] then x else max (young l) x := by
  cases l with
  | nil => rfl
  | cons y r =>
    show (r ++ [x]).foldl max y = _
    rw [List.foldl_append, if_neg (by simp)]
    rfl
theorem young_take {xs : List Int} {k : Nat} {x : Int} (h : xs[k]? = some x) : young (xs.take (k + 1)) = if k = 0 then x else max (young (xs.take k)) x := by
  obtain ⟨hk, rfl⟩ := List.getElem?_eq_some_iff.1 h
  rw [List.take_succ_eq_append_getElem hk, young_snoc]
  cases k with
  | zero => simp
  | succ k =>
    rw [if_neg (fun e => by
      have := congrArg List.length e
      rw [List.length_take, List.length_nil] at this
      omega), if_neg (by omega)]
set_option maxHeartbeats 3200000 in
theorem rYoung_any (A : Option Addr) (n c : Nat) (xs : List Int) (B : Nat) (w : World) (hn : n ≤ 1000000) (h : Ints w B A n xs) :
    Calls Try.prog 17 #[.slice A n c] w fun e w' => e = .returned (.int .i64 (young xs)) ∧ w' = w := by
  have HL := hide h.1
  go_enter Try.func17, Try.ntmps17
  go_wp2
  go_loopw [3, 4] (fun m i wr => ∃ (k : Nat) (y : Int), k ≤ n ∧ i = .int .i64 k ∧ m = .int .i64 y ∧ Hid (y = young (xs.take k)) ∧ wr = w) (fun _ i _ => n - (intOf i).toNat)
  case atStart => exact ⟨0, 0, Nat.zero_le _, rfl, rfl, hide rfl, rfl⟩
  case round =>
    obtain ⟨k, y, hk, rfl, rfl, HY, rfl⟩ := hrel
    by_cases hlt : k < n
    · obtain ⟨b, o, x, rfl, hb, hkx, c0⟩ := h.at_ (k := k) hlt
      have HT := hide (young_take hkx)
      have s1 : (k : Int) < n := by omega
      have s0 : (0 : Int) ≤ k := by omega
      clear hkx
      by_cases h0 : k = 0
      · subst h0
        have HT : Hid (young (xs.take 1) = x) := hide (by rw [HT.out, if_pos rfl])
        simp only [Nat.add_zero] at c0
        go_wp2
        go_roundw
        case rel => exact ⟨1, _, by omega, by go_num, rfl, hide HT.out.symm, by trivial⟩
        case measure => simp [intOf]; omega
      · have HT : Hid (young (xs.take (k + 1)) = max y x) := hide (by rw [HT.out, if_neg h0, HY.out])
        have s2 : ¬ (k : Int) = 0 := by omega
        by_cases h1 : y < x
        · have HT : Hid (x = young (xs.take (k + 1))) := hide (by rw [HT.out]; omega)
          go_wp2
          go_roundw
          case rel => exact ⟨k + 1, _, by omega, by go_num, rfl, HT, by trivial⟩
          case measure => simp [intOf]; omega
        · have HT : Hid (y = young (xs.take (k + 1))) := hide (by rw [HT.out]; omega)
          go_wp2
          go_roundw
          case rel => exact ⟨k + 1, _, by omega, by go_num, rfl, HT, by trivial⟩
          case measure => simp [intOf]; omega
    · have HK := hide (show y = young xs by rw [HY.out, List.take_of_length_le (by have := HL.out; omega)])
      go_wp2
      go_ret
      exact ⟨by rw [HK.out]; rfl, by trivial⟩
set_option maxHeartbeats 3200000 in
theorem max_any (A : Option Addr) (n c : Nat) (xs : List Int) (B : Nat) (w : World) (hn : n ≤ 1000000) (h0 : 0 < n) (h : Ints w B A n xs) :
    Calls Try.prog 25 #[.slice A n c] w fun e w' => e = .returned (.int .i64 (young xs)) ∧ w' = w := by
  have HL := hide h.1
  obtain ⟨b, o, x0, rfl, hb, hkx, c0⟩ := h.at_ (k := 0) h0
  have H0 := hide (show x0 = young (xs.take 1) by rw [young_take hkx, if_pos rfl])
  simp only [Nat.add_zero] at c0
  have s00 : (0 : Int) < n := by omega
  have s01 : ¬ (n : Int) < 1 := by omega
  clear hkx
  go_enter Try.func25, Try.ntmps25
  go_wp2
  go_loopw [3, 4] (fun m i wr => ∃ (k : Nat) (y : Int), k ≤ n ∧ 1 ≤ k ∧ i = .int .i64 k ∧ m = .int .i64 y ∧ Hid (y = young (xs.take k)) ∧ wr = w) (fun _ i _ => n - (intOf i).toNat)
  case atStart => exact ⟨1, x0, by omega, Nat.le_refl _, rfl, rfl, H0, rfl⟩
  case round =>
    obtain ⟨k, y, hk, hk1, rfl, rfl, HY, rfl⟩ := hrel
    by_cases hlt : k < n
    · obtain ⟨b2, o2, x, e, hb2, hkx, c1⟩ := h.at_ (k := k) hlt
      injection e with e
      injection e with e1 e2
      subst e1 e2
      have HT := hide (young_take hkx)
      have s1 : (k : Int) < n := by omega
      have s0 : (0 : Int) ≤ k := by omega
      clear hkx
      have HT : Hid (young (xs.take (k + 1)) = max y x) := hide (by rw [HT.out, if_neg (by omega), HY.out])
      go_wp2
      go_roundw
      case rel => exact ⟨k + 1, _, by omega, by omega, by go_num, rfl, hide (by rw [HT.out]; split <;> omega), by trivial⟩
      case measure => simp [intOf]; omega
    · have HK := hide (show y = young xs by rw [HY.out, List.take_of_length_le (by have := HL.out; omega)])
      go_wp2
      go_ret
      exact ⟨by rw [HK.out]; rfl, by trivial⟩
theorem wYoung_any (A : Option Addr) (n c : Nat) (xs : List Int) (B : Nat) (w : World) (hn : n ≤ 1000000) (h : Ints w B A n xs) :
    Calls Try.prog 16 #[.slice A n c] w fun e w' => e = .returned (.int .i64 (young xs)) ∧ w' = w := by
  have HL := hide h.1
  by_cases h0 : n = 0
  · have HX := hide (show xs = [] from List.eq_nil_of_length_eq_zero (by have := h.1; omega))
    subst h0
    clear h
    go_enter Try.func16, Try.ntmps16
    go_wp2
    go_ret
    exact ⟨by rw [HX.out]; rfl, rfl⟩
  · have HM := hide (max_any A n c xs B w hn (by omega) h)
    have s1 : ¬ (n : Int) = 0 := by omega
    clear h
    go_enter Try.func16, Try.ntmps16
    go_wp2_with fail
    refine HM.out.mono ?_
    rintro e w' ⟨rfl, rfl⟩
    go_wp2
    go_ret
    exact ⟨rfl, rfl⟩
def WoRel (w : World) (n : Nat) (nn : Int) (es : List Ed) (v i : Value) (wr : World) : Prop :=
  ∃ k : Nat, k ≤ n ∧ i = .int .i64 k ∧ wr.ownsRow w.heap.size 29 2 v (wout (es.take k) nn).length ((wout (es.take k) nn).flatMap edC) ∧ Below w.heap.size w wr
theorem wout_take {es : List Ed} {k : Nat} {e : Ed} (nn : Int) (h : es[k]? = some e) : wout (es.take (k + 1)) nn = if e.1 = nn then wout (es.take k) nn else wout (es.take k) nn ++ [e] := by
  obtain ⟨hk, rfl⟩ := List.getElem?_eq_some_iff.1 h
  unfold wout
  rw [List.take_succ_eq_append_getElem hk, List.filter_append]
  by_cases hx : es[k].1 = nn
  · rw [if_pos hx, List.filter_cons_of_neg (by simp [hx])]
    simp
  · rw [if_neg hx, List.filter_cons_of_pos (by simp [hx])]
    rfl
set_option maxHeartbeats 3200000 in
theorem without_any (A : Option Addr) (n c : Nat) (es : List Ed) (nn : Int) (B : Nat) (w : World) (hB : B ≤ w.heap.size) (hn : n ≤ 1000000) (h : Eds w B A n es) :
    Calls Try.prog 13 #[.slice A n c, .int .i64 nn] w fun e w' => (∃ A2 c2, e = .returned (.slice A2 (wout es nn).length c2) ∧ w'.ownsRow w.heap.size 29 2 (.slice A2 (wout es nn).length c2) (wout es nn).length ((wout es nn).flatMap edC)) ∧ Below w.heap.size w w' := by
  have HL := hide h.1
  obtain ⟨i0, hi, hz0, hz1, hz2⟩ := info_parts info_edge
  go_enter Try.func13, Try.ntmps13
  go_wp2
  go_loopw [5, 6] (WoRel w n nn es) (fun _ i _ => n - (intOf i).toNat)
  case atStart => exact ⟨0, Nat.zero_le _, rfl, by simpa [wout] using World.ownsRow_nil w w.heap.size 29 2, Below.refl _ _⟩
  case round =>
    obtain ⟨k, hk, rfl, hown, hbw⟩ := hrel
    have hz := hbw.size
    by_cases hlt : k < n
    · obtain ⟨b, o, e, rfl, hb, hkx, c0, c1⟩ := (h.below hbw hB).at_ (k := k) hlt
      have HT := hide (wout_take nn hkx)
      have hwl : (wout (es.take k) nn).length ≤ k := Nat.le_trans (List.length_filter_le _ _) (by rw [List.length_take]; omega)
      have s1 : (k : Int) < n := by omega
      have s0 : (0 : Int) ≤ k := by omega
      obtain ⟨x, y⟩ := e
      dsimp only at *
      clear hkx
      by_cases h1 : x = nn
      · have HT : Hid (wout (es.take (k + 1)) nn = wout (es.take k) nn) := hide (by rw [HT.out, if_pos h1])
        have HO := hide hown
        subst h1
        clear hown
        go_wp2
        go_roundw
        case rel => exact ⟨k + 1, by omega, by go_num, by rw [HT.out]; exact HO.out, hbw⟩
        case measure => simp [intOf]; omega
      · have HT : Hid (wout (es.take (k + 1)) nn = wout (es.take k) nn ++ [(x, y)]) := hide (by rw [HT.out, if_neg h1])
        obtain ⟨A1, c1', rfl, hnc1, junk⟩ := own_slice hown
        have HO := hide hown
        generalize hm : (wout (es.take k) nn).length = m at HO hnc1 hwl ⊢
        have HM := hide hm
        clear hown junk hm
        go_wp2_with (at_builtin; refine heldG ?_)
        refine unheldG ?_
        at_builtin
        refine wpList_append_any _ rfl _ _ _ rfl w.heap.size 29 i0 _ 2 16 Try.underlying22 hi hz0 hz1 hz2 rfl (by omega) (.slice A1 m c1') m _ rfl (HO.out.alloc _) (wr.heap.size + 1) (some ⟨wr.heap.size, 0, none⟩) 1 1 (edC (x, y)) rfl (Reads.of_blk (n := 1) (size := 2) (Blk.new _ _ _) rfl) ?c3 ?c4 ?c5 ?c6 ?_
        case c3 => intro u hu; simp only [edC, List.mem_cons, List.not_mem_nil, or_false] at hu; rcases hu with rfl | rfl <;> rfl
        case c4 => unfold maxLen; omega
        case c5 => omega
        case c6 => simp; omega
        intro v' w4 hown4 hg4 _
        go_wp2
        go_roundw
        case rel =>
          refine ⟨k + 1, by omega, by go_num, ?_, (hbw.alloc hz _).grown hg4 (by simp; omega) (fun q hq => (HO.out.lt q hq).1)⟩
          rw [HT.out, List.length_append, HM.out, List.flatMap_append]
          simpa using hown4
        case measure => simp [intOf]; omega
    · have HK := hide (show es.take k = es from List.take_of_length_le (by have := HL.out; omega))
      have HO := hide hown
      clear hown
      go_wp2
      go_ret
      have h1 := HO.out
      rw [HK.out] at h1
      obtain ⟨A1, c1, e1, _⟩ := own_slice h1
      subst e1
      exact ⟨⟨A1, c1, rfl, h1⟩, hbw⟩
/-- A row of one's own stays while another one, of another type, is appended to. -/
theorem own_keep {w w' : World} {base base2 : Nat} {e1 e2 : TypeId} {s1 s2 : Nat} {v1 v2 : Value} {n1 n2 : Nat} {xs1 xs2 : List Value} (h1 : w.ownsRow base e1 s1 v1 n1 xs1) (h2 : w.ownsRow base2 e2 s2 v2 n2 xs2) (hne : e1 ≠ e2) (hg : w.grownBy w' v2.ownBlock) : w'.ownsRow base e1 s1 v1 n1 xs1 := by
  obtain ⟨hl, h⟩ := h1
  refine ⟨hl, ?_⟩
  rcases h with h | ⟨g, cap, cur, rfl, hb, hh, hr⟩
  · exact .inl h
  · refine .inr ⟨g, cap, cur, rfl, hb, (hg.block g (Array.getElem?_eq_some_iff.1 hh).1 (fun e => ?_)).trans hh, hr⟩
    obtain ⟨_, ⟨rfl, _⟩ | ⟨g2, _, cur2, rfl, _, hh2, _⟩⟩ := h2
    · cases e
    · injection e with e
      subst e
      rw [hh] at hh2
      injection hh2 with hh2
      injection hh2 with _ h3
      exact hne h3
end Go.Proofs.Ytkbcenddhcnkeaa
