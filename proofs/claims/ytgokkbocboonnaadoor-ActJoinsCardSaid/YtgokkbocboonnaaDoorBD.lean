/-
  WALK OF THE REFERENCE: moneyerref31.Much; SIZES of scripts, plainly.
-/
import Derived.Test.YtgokkbocboonnaaDoorAW
import Derived.Test.YtgokkbocboonnaaDoorBB
import Derived.Test.YtgokkbocboonnaaDoorAV
namespace Go.Proofs.YtgokkbocboonnaaDoor
open Go.RowKit Go.Lib

/-- Is a script more than is asked? -/
def muchA (xs : List ActV) : Bool := ((xs.take 300).any fun x => bigA x.d) || decide (200 < xs.length)
theorem muchA_yes {xs : List ActV} {k : Nat} (hk : k ≤ 300) (h : (xs.take k).any (fun x => bigA x.d) = true) : muchA xs = true := by
  unfold muchA
  have hsub : (xs.take 300).any (fun x => bigA x.d) = true := by
    rw [List.any_eq_true] at h ⊢
    obtain ⟨y, hy, hp⟩ := h
    exact ⟨y, (List.take_subset_take_left xs hk) hy, hp⟩
  simp [hsub]
theorem muchA_no {xs : List ActV} (h : muchA xs = false) : xs.length ≤ 200 ∧ ∀ x ∈ xs, bigA x.d = false := by
  unfold muchA at h
  simp only [Bool.or_eq_false_iff, decide_eq_false_iff_not] at h
  obtain ⟨h1, h2⟩ := h
  rw [List.take_of_length_le (by omega)] at h1
  refine ⟨by omega, fun x hx => ?_⟩
  rw [List.any_eq_false] at h1
  simpa using h1 x hx
def MuchRel (w : World) (n : Nat) (xs : List ActV) (i : Value) (wr : World) : Prop :=
  ∃ k : Nat, k ≤ n ∧ k ≤ 300 ∧ i = .int .i64 k ∧ Below w.heap.size w wr ∧ Hid ((xs.take k).any (fun x => bigA x.d) = false)
set_option maxHeartbeats 3200000 in
theorem muchA_any (A : Option Addr) (n c : Nat) (xs : List ActV) (B : Nat) (w : World) (hB : B ≤ w.heap.size) (hn : n ≤ 9223372036854775807) (h : Acts w B A n xs) (hp : ∀ x ∈ xs, x.d.pages.length ≤ 9223372036854775807) :
    Calls Tryd.prog 17 #[.slice A n c] w fun e w' => e = .returned (.bool (muchA xs)) ∧ Below w.heap.size w w' := by
  have HL := hide h.1
  have HP := hide hp
  clear hp
  go_enter Tryd.func17, Tryd.ntmps17
  go_wp2
  go_loopw [3] (MuchRel w n xs) (fun i _ => n - (intOf i).toNat)
  case atStart => exact ⟨0, Nat.zero_le _, Nat.zero_le _, rfl, Below.refl _ _, by simp [Hid]⟩
  case round =>
    obtain ⟨k, hk, hk2, rfl, hbw, HA⟩ := hrel
    by_cases hlt : (k : Int) < n
    · by_cases hlt2 : (k : Int) < 300
      · have hD := h.below hbw hB
        obtain ⟨b, o, x, rfl, hb, hkx, hok, _⟩ := hD.at_ (k := k) (by omega)
        obtain ⟨c0, c1, c2, c3, c4, c5, c6, c7, c8, c9, c10⟩ := hD.row hkx
        have hpx := HP.out x (List.mem_of_getElem? hkx)
        have HST := hide (show (xs.take (k + 1)).any (fun x => bigA x.d) = bigA x.d by rw [take_any_snoc' _ hkx, HA.out]; rfl)
        have s0 : (0 : Int) ≤ k := by omega
        obtain ⟨⟨A1, n1, m1, e1, _, _, g3, _⟩, F, f', e2, g6, _⟩ := hok
        obtain ⟨d, dv, pv⟩ := x
        dsimp only at *
        subst e1 e2
        have HB := hide (fun (v : Bool) (hv : bigA d = v) W => hv ▸ Big_any d.act d.client d.n d.log d.op d.pages A1 F n1 m1 d.pages.length f' W g3 rfl hpx)
        clear hkx hD h g3 hpx
        cases hv : bigA d
        · have HB := hide (HB.out _ hv)
          rw [hv] at HST
          clear hv
          go_wp2_with fail
          refine (HB.out _).mono ?_
          rintro e w1 ⟨rfl, hb1⟩
          have hb01 : Below w.heap.size w w1 := below_via hbw hb1 hbw.size
          go_wp2
          go_roundw
          case rel => exact ⟨k + 1, by omega, by omega, by go_num, hb01, HST⟩
          case measure => simp [intOf]; omega
        · have HB := hide (HB.out _ hv)
          rw [hv] at HST
          clear hv
          go_wp2_with fail
          refine (HB.out _).mono ?_
          rintro e w1 ⟨rfl, hb1⟩
          have hb01 : Below w.heap.size w w1 := below_via hbw hb1 hbw.size
          go_wp2
          go_ret
          exact ⟨ret_bool (muchA_yes (k := k + 1) (by omega) HST.out).symm, hb01⟩
      · have HKN := hide (show k = 300 by omega)
        go_wp2
        go_ret
        refine ⟨ret_bool ?_, hbw⟩
        obtain rfl := HKN.out
        have hl := HL.out
        unfold muchA
        rw [HA.out]
        simp
        omega
    · have HKN := hide (show k = n by omega)
      go_wp2
      go_ret
      refine ⟨ret_bool ?_, hbw⟩
      have hl := HL.out
      have hk' := HKN.out
      subst hk'
      unfold muchA
      rw [show xs.take 300 = xs.take k by rw [List.take_of_length_le (by omega), List.take_of_length_le (by omega)], HA.out]
      simp
      omega

theorem actT_len2 {a : ActD} (hb : bigA a = false) (hi : ActIn a) (hB : isActB a = true) : (actT a).length ≤ 1500 := by
  obtain ⟨b1, b2, b3⟩ := bigA_no hb
  have a0 := num_len hi.2.2.1.2.1
  have a1 := num_len hi.2.2.1.2.2.1
  have a2 := num_len hi.2.2.1.2.2.2
  have a3 := hexT_len a.op.data
  have a4 := key_len a.op.key
  have h1 : (callT a.op).length ≤ 1000 := by
    unfold callT
    repeat' split
    all_goals (simp only [List.length_append, List.length_cons, List.length_nil]; omega)
  have h2 := num_len hi.2.1
  have h3 := num_len hi.2.2.2.1
  have h4 := numsT_len (a.log :: a.pages) (fun n hn => (List.mem_cons.1 hn).elim (fun e => e ▸ hi.2.2.2.2.1) (hi.2.2.2.2.2 n))
  simp only [List.length_cons] at h4
  have h5 : a.act = 4 → a.pages.length ≤ 60 := by
    intro h
    unfold isActB at hB
    simp only [Bool.and_eq_true, Bool.or_eq_true, Bool.not_eq_true', decide_eq_true_eq, decide_eq_false_iff_not] at hB
    omega
  unfold actT
  repeat' split
  all_goals
    simp only [List.length_append, List.length_cons, List.length_nil]
    omega
theorem scriptT_len2 {l : List ActD} (h : ∀ a ∈ l, (actT a).length ≤ 1500) : (scriptT l).length ≤ 1501 * l.length := by
  induction l with
  | nil => simp [scriptT]
  | cons a r ih =>
    have h1 := h a List.mem_cons_self
    have h2 := ih (fun x hx => h x (List.mem_cons_of_mem _ hx))
    rw [scriptT_cons]
    simp only [List.length_append, List.length_cons] at h2 ⊢
    omega
theorem sm_of_big {a : ActD} (hb : bigA a = false) (hi : ActIn a) : ActSm a := by
  obtain ⟨b1, b2, b3⟩ := bigA_no hb
  exact ⟨⟨by omega, by omega, hi.2.2.1.1, hi.2.2.1.2.1, hi.2.2.1.2.2.1, hi.2.2.1.2.2.2⟩, hi, by omega⟩
theorem readD_sm {s : List UInt8} {l : List ActD} (h : readD s = some l) : ∀ a ∈ l, ActSm a := by
  have : ∀ (ls : List (List UInt8 × Bool)) (l : List ActD), readL ls = some l → ∀ a ∈ l, ActSm a := by
    intro ls
    induction ls with
    | nil =>
      intro l h a ha
      simp only [readL, Option.some.injEq] at h
      subst h
      cases ha
    | cons y r ih =>
      obtain ⟨x, b⟩ := y
      intro l h a ha
      simp only [readL] at h
      split at h
      · cases h
      · cases hp : parseD x with
        | none => rw [hp] at h; cases h
        | some a0 =>
          rw [hp] at h
          cases hr : readL r with
          | none => simp only [hr] at h; cases h
          | some l0 =>
            simp only [hr, Option.map_some, Option.some.injEq] at h
            subst h
            rcases List.mem_cons.1 ha with rfl | ha
            · obtain ⟨hw, nm, w, hws, hof, hB, hT⟩ := parseD_some hp
              obtain ⟨K, hK⟩ : ∃ K : Nat, ∀ l ∈ w, l.length ≤ K := by
                clear hof hws hw
                induction w with
                | nil => exact ⟨0, fun l hl => by cases hl⟩
                | cons v t ih =>
                  obtain ⟨K, hK⟩ := ih
                  refine ⟨v.length + K, fun l hl => ?_⟩
                  rcases List.mem_cons.1 hl with rfl | hl
                  · omega
                  · have := hK l hl
                    omega
              obtain ⟨i1, i2, i3, i4⟩ := actOfD_in hof hK
              rw [hws, List.length_cons] at hw
              exact ⟨opSm_of (actOfD_plain hof) hB i1 i2, i1, by omega⟩
            · exact ih _ hr a ha
  exact this _ _ h
theorem script_count (l : List ActD) : 2 * l.length ≤ (scriptT l).length := by
  induction l with
  | nil => simp [scriptT]
  | cons a r ih =>
    have := List.length_pos_iff.2 (actT_ne (a := a))
    rw [scriptT_cons]
    simp only [List.length_append, List.length_cons] at ih ⊢
    omega
end Go.Proofs.YtgokkbocboonnaaDoor
