/-
  WALKS: moneyerref09.Good, Find.
-/
import Derived.Test.YteidmdnhkgcnoaaGreatMC
import Derived.Test.YteidmdnhkgcnoaaGreatMem
namespace Go.Proofs.YteidmdnhkgcnoaaGreat
open Go.RowKit

theorem goodKey_size {k : ByteArray} (h : goodKey k = true) : k.size ≤ 16 := by
  unfold goodKey at h
  simp only [Bool.and_eq_true, decide_eq_true_eq] at h
  exact h.2.2

set_option maxHeartbeats 1600000 in
theorem mGood_any (x : OpD) (A : Option Addr) (n c : Nat) (w : World) (hn : n = x.data.length) (hk : x.key.size ≤ 9223372036854775807) :
    Calls Tryz.prog 66 #[.agg #[.int .i64 x.act, .string x.key, .slice A n c, .int .i64 x.lo, .int .i64 x.hi, .int .i64 x.n]] w fun e w' => e = .returned (.bool (goodOp x)) ∧ Below w.heap.size w w' := by
  have HN := hide hn
  clear hn
  have HKR := hide (fun (b : Bool) (hb : goodKey x.key = b) (W : World) => hb ▸ keyRight_any x.key W hk)
  cases hb3 : goodKey x.key
  all_goals
    go_enter Tryz.func66, Tryz.ntmps66
    go_wp2_with (go_at_call 20; refine (HKR.out _ hb3 _).mono ?_; rintro e w' ⟨rfl, rfl⟩)
  all_goals
    go_ret
    refine ⟨ret_bool ?_, (Below.refl _ _).alloc (Nat.le_refl _) _⟩
    have hn := HN.out
    clear HN HKR
    unfold goodOp
    rw [hb3]
    simp_all <;> omega

theorem findL_some {l : List PairV} {k : ByteArray} {j : Nat} {x : PairV} (hx : l[j]? = some x) (he : (x.d.key.toList == k.toList) = true) (hno : ∀ (q : Nat) y, q < j → l[q]? = some y → (y.d.key.toList == k.toList) = false) : findL l k = some x := by
  unfold findL
  induction l generalizing j with
  | nil => simp at hx
  | cons y t ih =>
    rw [List.find?_cons]
    cases j with
    | zero => simp only [List.getElem?_cons_zero, Option.some.injEq] at hx; subst hx; rw [he]
    | succ j =>
      rw [hno 0 y (by omega) rfl]
      exact ih (j := j) (by simpa using hx) (fun q z hq hz => hno (q + 1) z (by omega) (by simpa using hz))
theorem findL_none {l : List PairV} {k : ByteArray} (hno : ∀ (q : Nat) y, l[q]? = some y → (y.d.key.toList == k.toList) = false) : findL l k = none := by
  unfold findL
  rw [List.find?_eq_none]
  intro x hx
  obtain ⟨i, hi, e⟩ := List.getElem_of_mem hx
  rw [hno i x (by rw [List.getElem?_eq_getElem hi, e])]
  exact Bool.false_ne_true
def mkCell (d : CellD) (v : Value) : Value := .agg #[.int .i64 d.kind, v, .int .i64 d.lo, .int .i64 d.hi, .int .i64 d.val]
def noCell : Value := mkCell cell0 (.slice none 0 0)
def FindPost (w : World) (xs : List PairV) (k : ByteArray) (e : Ending) (w' : World) : Prop :=
  e = .returned (match findL xs k with | some x => .tuple #[mkCell x.d.cell x.cv, .bool true] | none => .tuple #[noCell, .bool false]) ∧ Below w.heap.size w w'

set_option maxHeartbeats 1600000 in
theorem mFind_any (A : Option Addr) (n c : Nat) (k : ByteArray) (xs : List PairV) (B : Nat) (w : World) (hB : B ≤ w.heap.size) (hn : n ≤ 1000000) (h : Pairs w B A n xs) :
    Calls Tryz.prog 67 #[.slice A n c, .string k] w (FindPost w xs k) := by
  have HL := hide h.1
  go_enter Tryz.func67, Tryz.ntmps67
  go_wp2
  refine gen1 (fun W k0 hbW hz => ?_)
  have hP := h.below hbW hB
  go_loop [6] (fun i => ∃ j : Nat, j ≤ n ∧ i = .int .i64 j ∧ ∀ (q : Nat) y, q < j → xs[q]? = some y → (y.d.key.toList == k.toList) = false) (fun i => n - (intOf i).toNat)
  case atStart => exact ⟨0, Nat.zero_le _, rfl, fun q y hq => absurd hq (by omega)⟩
  case round =>
    obtain ⟨j, hj, rfl, hno⟩ := hrel
    have HNO := hide hno
    clear hno
    by_cases hlt : j < n
    · obtain ⟨b, o, x, rfl, hb, hkx, hok, hc⟩ := hP.at_ hlt
      obtain ⟨c0, c1, c2, c3, c4, c5⟩ := hP.row hkx
      have HX := hide hkx
      clear hkx hc h hP
      obtain ⟨⟨ky, cd⟩, cv⟩ := x
      obtain ⟨A2, n2, m2, rfl, hz1, hz2, hz3, hz4, hz5⟩ := hok
      clear hz1 hz2 hz3 hz4 hz5
      have s4 : (j : Int) < n := by omega
      have q0 := k0.cell
      have q1 := k0.frozen
      dsimp only at *
      cases hkk : ky.toList == k.toList
      · go_wp2
        go_round
        case rel =>
          refine ⟨j + 1, by omega, by go_num, fun q y hq hy => ?_⟩
          by_cases hqj : q < j
          · exact HNO.out q y hqj hy
          · obtain rfl : q = j := by omega
            rw [HX.out] at hy
            injection hy with hy
            subst hy
            exact hkk
        case measure => simp [intOf]; omega
      · go_wp2
        refine bodyPost_ret (v := .tuple #[mkCell cd (.slice A2 n2 m2), .bool true]) (by simp [results, Tryz.results67, go_sem, q0, mkCell]) rfl ⟨?_, ?_⟩
        · rw [findL_some HX.out hkk HNO.out]
        · refine Touch.below (L := w.heap.size) (H := w.heap.size + 1) (w := W) ?_ hbW (Nat.le_refl _)
          (repeat refine Touch.set ?_ (by simp) _); exact Touch.refl _
    · have q0 := k0.cell
      have q1 := k0.frozen
      go_wp2
      refine bodyPost_ret (v := .tuple #[noCell, .bool false]) (by simp [results, Tryz.results67, go_sem, q0, mkCell, noCell, cell0]) rfl ⟨?_, ?_⟩
      · rw [findL_none (l := xs) (k := k) (fun q y hy => HNO.out q y (by have := (List.getElem?_eq_some_iff.1 hy).1; have := HL.out; omega) hy)]
      · refine Touch.below (L := w.heap.size) (H := w.heap.size + 1) (w := W) ?_ hbW (Nat.le_refl _)
        (repeat refine Touch.set ?_ (by simp) _); exact Touch.refl _
end Go.Proofs.YteidmdnhkgcnoaaGreat
