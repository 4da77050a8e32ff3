/-
  WALKS OF THE PROGRAM: strings.Compare, the closure of model.place, slices.BinarySearchFunc, model.place.
-/
import Derived.Test.YteidmdnhkgcnoaaGreatProg
import Derived.Test.YteidmdnhkgcnoaaGreatMem
import Derived.Lib.Bytealg
import Derived.Lib.Walk
import Derived.Lib.Strings
namespace Go.Proofs.YteidmdnhkgcnoaaGreat
open Go.RowKit

theorem compare_spec : ∀ x y : List UInt8, Lib.compareBytes x y = if Op.bytesLess x y = true then -1 else if x = y then 0 else 1
  | [], [] => by simp [Lib.compareBytes, Op.bytesLess]
  | [], _ :: _ => by simp [Lib.compareBytes, Op.bytesLess]
  | _ :: _, [] => by simp [Lib.compareBytes, Op.bytesLess]
  | a :: x, b :: y => by
    unfold Lib.compareBytes Op.bytesLess
    rw [compare_spec x y]
    by_cases h1 : a < b
    · simp [h1]
    · by_cases h2 : b < a
      · have h3 : a ≠ b := fun e => by subst e; exact UInt8.lt_irrefl _ h2
        simp [h1, h2, h3]
      · have h3 : a = b := by
          rcases Classical.em (a = b) with h | h
          · exact h
          · rcases UInt8.lt_or_lt_of_ne h with h | h
            · exact absurd h h1
            · exact absurd h h2
        subst h3
        simp [UInt8.lt_irrefl]

/-- The sign of two keys. -/
def cmpK (a b : ByteArray) : Int := if kless a b = true then -1 else if a = b then 0 else 1
theorem cmpK_eq (a b : ByteArray) : Lib.compareBytes a.data.toList b.data.toList = cmpK a b := by
  rw [compare_spec]
  unfold cmpK kless
  rw [ByteArray.toList_eq, ByteArray.toList_eq]
  by_cases h : a = b
  · subst h; simp
  · have : ¬ a.data.toList = b.data.toList := fun e => h (WideShapes.bytes_inj e)
    simp [h, this]

set_option maxHeartbeats 1000000 in
set_option maxRecDepth 100000 in
theorem cmpStr_any (a b : ByteArray) (w : World) :
    Calls Tryz.prog 115 #[.string a, .string b] w fun e w' => e = .returned (.int .i64 (cmpK a b)) ∧ w' = w := by
  rw [← cmpK_eq]
  go_enter Tryz.func115, Tryz.ntmps115
  go_wp2
  rw [run_callFunc_extern Tryz.func124 (by kernel_rfl) (by kernel_rfl) (by kernel_rfl) (e := Extern.BytealgCompare.compare) (by kernel_rfl), Lib.run_compareString]
  simp only [Result.andThen]
  rw [Oper.upon_value]
  go_wp2
  go_ret
  exact ⟨rfl, rfl⟩
theorem compare_any (a b : ByteArray) (w : World) :
    Calls Tryz.prog 102 #[.string a, .string b] w fun e w' => e = .returned (.int .i64 (cmpK a b)) ∧ w' = w := by
  go_enter Tryz.func102, Tryz.ntmps102
  go_wp2_with (go_at_call 115; refine (cmpStr_any _ _ _).mono ?_; rintro e w' ⟨rfl, rfl⟩)
  go_ret
  exact ⟨rfl, rfl⟩
def pairV (x : PairV) : Value := .agg #[.string x.d.key, .int .i64 x.d.cell.kind, x.cv, .int .i64 x.d.cell.lo, .int .i64 x.d.cell.hi, .int .i64 x.d.cell.val]
theorem cmpC_any (x : PairV) (k : ByteArray) (w : World) :
    Calls Tryz.prog 101 #[.agg #[.string x.d.key, .int .i64 x.d.cell.kind, x.cv, .int .i64 x.d.cell.lo, .int .i64 x.d.cell.hi, .int .i64 x.d.cell.val], .string k] w fun e w' => e = .returned (.int .i64 (cmpK x.d.key k)) ∧ Below w.heap.size w w' := by
  go_enter Tryz.func101, Tryz.ntmps101
  go_wp2_with (go_at_call 102; refine (compare_any _ _ _).mono ?_; rintro e w' ⟨rfl, rfl⟩)
  go_ret
  exact ⟨rfl, (Below.refl _ _).alloc (Nat.le_refl _) _⟩

theorem pos_of {xs : List PairV} {k : ByteArray} (hs : RightS (xs.map PairV.d)) {p : Nat} (hp : p ≤ xs.length) (h1 : ∀ (i : Nat) x, i < p → xs[i]? = some x → kless x.d.key k = true) (h2 : ∀ (i : Nat) x, p ≤ i → xs[i]? = some x → kless x.d.key k = false) : pos (xs.map PairV.d) k = p := by
  refine (pos_unique hs (by simpa using hp) (fun i x hi hx => ?_) (fun i x hi hx => ?_)).symm
  · rw [List.getElem?_map] at hx
    obtain ⟨y, hy, rfl⟩ := Option.map_eq_some_iff.1 hx
    exact h1 i y hi hy
  · rw [List.getElem?_map] at hx
    obtain ⟨y, hy, rfl⟩ := Option.map_eq_some_iff.1 hx
    exact h2 i y hi hy
theorem sorted_lt {xs : List PairV} {k : ByteArray} (hs : RightS (xs.map PairV.d)) {h : Nat} {x : PairV} (hx : xs[h]? = some x) (hl : kless x.d.key k = true) : ∀ (i : Nat) y, i < h + 1 → xs[i]? = some y → kless y.d.key k = true := by
  intro i y hi hy
  by_cases hih : i = h
  · subst hih; rw [hx] at hy; injection hy with hy; subst hy; exact hl
  · obtain ⟨l1, e1⟩ := List.getElem?_eq_some_iff.1 hy
    obtain ⟨l2, e2⟩ := List.getElem?_eq_some_iff.1 hx
    have := List.pairwise_iff_getElem.1 hs.2 i h (by simpa using l1) (by simpa using l2) (by omega)
    simp only [List.getElem_map, e1, e2] at this
    exact kless_trans this hl
theorem sorted_ge {xs : List PairV} {k : ByteArray} (hs : RightS (xs.map PairV.d)) {h : Nat} {x : PairV} (hx : xs[h]? = some x) (hl : kless x.d.key k = false) : ∀ (i : Nat) y, h ≤ i → xs[i]? = some y → kless y.d.key k = false := by
  intro i y hi hy
  by_cases hih : i = h
  · subst hih; rw [hx] at hy; injection hy with hy; subst hy; exact hl
  · obtain ⟨l1, e1⟩ := List.getElem?_eq_some_iff.1 hy
    obtain ⟨l2, e2⟩ := List.getElem?_eq_some_iff.1 hx
    have := List.pairwise_iff_getElem.1 hs.2 h i (by simpa using l2) (by simpa using l1) (by omega)
    simp only [List.getElem_map, e1, e2] at this
    cases hk : kless y.d.key k with
    | false => rfl
    | true => have h3 := kless_trans this hk; rw [hl] at h3; cases h3

set_option maxHeartbeats 3200000 in
set_option maxRecDepth 100000 in
theorem bsf_any (A : Option Addr) (n c : Nat) (k : ByteArray) (xs : List PairV) (B : Nat) (w : World) (hB : B ≤ w.heap.size) (hn : n ≤ 1000000) (h : Pairs w B A n xs) (hs : RightS (xs.map PairV.d)) :
    Calls Tryz.prog 100 #[.slice A n c, .string k, .func (.func 101) #[] #[]] w fun e w' => e = .returned (.tuple #[.int .i64 (pos (xs.map PairV.d) k : Nat), .bool (hasD (xs.map PairV.d) k).isSome]) ∧ Below w.heap.size w w' := by
  have HL := hide h.1
  have HS := hide hs
  clear hs
  go_enter Tryz.func100, Tryz.ntmps100
  go_wp2
  go_loopw [9, 10] (fun a b wr => ∃ lo hi : Nat, a = .int .i64 lo ∧ b = .int .i64 hi ∧ lo ≤ hi ∧ hi ≤ n ∧ Below w.heap.size w wr ∧ (∀ (i : Nat) x, i < lo → xs[i]? = some x → kless x.d.key k = true) ∧ (∀ (i : Nat) x, hi ≤ i → xs[i]? = some x → kless x.d.key k = false)) (fun a b _ => (intOf b).toNat - (intOf a).toNat)
  case atStart => exact ⟨0, n, rfl, rfl, Nat.zero_le _, Nat.le_refl _, Below.refl _ _, fun i x hi => absurd hi (by omega), fun i x hi hx => by have := (List.getElem?_eq_some_iff.1 hx).1; have := HL.out; omega⟩
  case round =>
    obtain ⟨lo, hi, rfl, rfl, hlh, hhn, hbw, hlo, hhi⟩ := hrel
    have HLO := hide hlo
    have HHI := hide hhi
    have hwz := hbw.size
    clear hlo hhi
    by_cases hlt : lo < hi
    · have hP := h.below hbw hB
      have hmid : (lo + hi) / 2 < n := by omega
      obtain ⟨b, o, x, rfl, hb, hx, hok, hc⟩ := hP.at_ hmid
      have d0 := (hP.row hx).1
      have d1 := hc 1 _ rfl
      have d2 := hc 2 _ rfl
      have d3 := hc 3 _ rfl
      have d4 := hc 4 _ rfl
      have d5 := hc 5 _ rfl
      have HX := hide hx
      clear hx hc hok hP h
      have HC := hide (fun (z : Int) (hz : cmpK x.d.key k = z) W => hz ▸ cmpC_any x k W)
      cases hkl : kless x.d.key k
      · have hz : cmpK x.d.key k = 0 ∨ cmpK x.d.key k = 1 := by
          unfold cmpK
          rw [hkl]
          simp only [Bool.false_eq_true, if_false]
          split <;> simp
        have HKL := hide hkl
        clear hkl
        rcases hz with hz | hz
        all_goals
          have HC' := hide (HC.out _ hz)
          clear HC hz
          go_wp2_with (go_at_call 101; (with_reducible refine (HC'.out _).mono ?_); rintro e w' ⟨rfl, hbx⟩)
          go_roundw
          case rel => exact ⟨lo, (lo + hi) / 2, rfl, by go_num, by omega, by omega, below_via hbw hbx hwz, HLO.out, sorted_ge HS.out HX.out HKL.out⟩
          case measure => simp [intOf]; omega
      · have hz : cmpK x.d.key k = -1 := by unfold cmpK; rw [hkl]; rfl
        have HKL := hide hkl
        have HC' := hide (HC.out _ hz)
        clear hkl hz HC
        go_wp2_with (go_at_call 101; (with_reducible refine (HC'.out _).mono ?_); rintro e w' ⟨rfl, hbx⟩)
        go_roundw
        case rel => exact ⟨(lo + hi) / 2 + 1, hi, by go_num, rfl, by omega, by omega, below_via hbw hbx hwz, sorted_lt HS.out HX.out HKL.out, HHI.out⟩
        case measure => simp [intOf]; omega
    · obtain rfl : lo = hi := by omega
      have hpos : pos (xs.map PairV.d) k = lo := pos_of HS.out (by have := HL.out; omega) HLO.out HHI.out
      have HPOS := hide hpos
      by_cases hln : lo < n
      · have hP := h.below hbw hB
        obtain ⟨b, o, x, rfl, hb, hx, hok, hc⟩ := hP.at_ hln
        have d0 := (hP.row hx).1
        have d1 := hc 1 _ rfl
        have d2 := hc 2 _ rfl
        have d3 := hc 3 _ rfl
        have d4 := hc 4 _ rfl
        have d5 := hc 5 _ rfl
        have hkl : kless x.d.key k = false := HHI.out lo x (Nat.le_refl _) hx
        have hhas : (hasD (xs.map PairV.d) k).isSome = decide (x.d.key = k) := by
          unfold hasD
          rw [hpos, List.getElem?_map, hx]
          by_cases he : x.d.key = k
          · simp [he]
          · have : ¬ x.d.key.toList = k.toList := fun e => he (toList_inj e)
            simp [he, this]
        have HH := hide hhas
        have HC := hide (fun (z : Int) (hz : cmpK x.d.key k = z) W => hz ▸ cmpC_any x k W)
        clear hx hc hok hP h hpos hhas
        by_cases he : x.d.key = k
        · have hz : cmpK x.d.key k = 0 := by unfold cmpK; rw [hkl]; simp [he]
          have hd : decide (x.d.key = k) = true := decide_eq_true he
          have HD := hide hd
          have HC' := hide (HC.out _ hz)
          clear hz he HC hd hkl
          go_wp2_with (go_at_call 101; (with_reducible refine (HC'.out _).mono ?_); rintro e w' ⟨rfl, hbx⟩)
          go_ret2
          exact ⟨by rw [HPOS.out, HH.out, HD.out]; rfl, below_via hbw hbx hwz⟩
        · have hz : cmpK x.d.key k = 1 := by unfold cmpK; rw [hkl]; simp [he]
          have hd : decide (x.d.key = k) = false := decide_eq_false he
          have HD := hide hd
          have HC' := hide (HC.out _ hz)
          clear hz he HC hd hkl
          go_wp2_with (go_at_call 101; (with_reducible refine (HC'.out _).mono ?_); rintro e w' ⟨rfl, hbx⟩)
          go_ret2
          exact ⟨by rw [HPOS.out, HH.out, HD.out]; rfl, below_via hbw hbx hwz⟩
      · have hhas : (hasD (xs.map PairV.d) k).isSome = false := by
          unfold hasD
          rw [hpos, List.getElem?_eq_none (by have := HL.out; simp; omega)]
          rfl
        have HH := hide hhas
        clear hpos hhas
        go_wp2
        go_ret2
        exact ⟨by rw [HPOS.out, HH.out]; rfl, hbw⟩

theorem mplace_any (A : Option Addr) (n c : Nat) (k : ByteArray) (xs : List PairV) (B : Nat) (w : World) (hB : B ≤ w.heap.size) (hn : n ≤ 1000000) (h : Pairs w B A n xs) (hs : RightS (xs.map PairV.d)) :
    Calls Tryz.prog 83 #[.slice A n c, .string k] w fun e w' => e = .returned (.tuple #[.int .i64 (pos (xs.map PairV.d) k : Nat), .bool (hasD (xs.map PairV.d) k).isSome]) ∧ Below w.heap.size w w' := by
  go_enter Tryz.func83, Tryz.ntmps83
  go_wp2_with (go_at_call 100; (with_reducible refine (bsf_any A n c k xs B _ hB hn h hs).mono ?_); rintro e w' ⟨rfl, hbx⟩)
  go_ret2
  exact ⟨rfl, hbx⟩
end Go.Proofs.YteidmdnhkgcnoaaGreat
