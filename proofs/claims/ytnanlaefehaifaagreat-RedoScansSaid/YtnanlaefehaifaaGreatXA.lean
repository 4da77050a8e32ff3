/-
  WALKS OF THE REFERENCE: moneyerref12.SameList, moneyerref29.over, Commits.
-/
import Derived.Test.YtnanlaefehaifaaGreatRU
import Derived.Test.YtnanlaefehaifaaGreatRH
namespace Go.Proofs.YtnanlaefehaifaaGreat
open Go.RowKit

/-- The slice's records, as far as they are asked: their kinds, their transactions. -/
def EntR (w : World) (B : Nat) (A : Option Addr) (n : Nat) (es : List EntD) : Prop := n = es.length ∧ ∀ k e, es[k]? = some e → ∃ b o, A = some ⟨b, o, none⟩ ∧ b < B ∧ w.cell? ⟨b, o + k * 15, none⟩ = some (.int .i64 e.kind) ∧ w.cell? ⟨b, o + k * 15 + 1, none⟩ = some (.int .i64 e.txn)
theorem EntR.below {w w' : World} {B C n : Nat} {A : Option Addr} {es : List EntD} (h : EntR w B A n es) (hb : Below C w w') (hC : B ≤ C) : EntR w' B A n es := ⟨h.1, fun k e he => by
  obtain ⟨b, o, h1, h2, h3, h4⟩ := h.2 k e he
  exact ⟨b, o, h1, h2, (hb.cell (p := ⟨b, o + k * 15, none⟩) (Nat.lt_of_lt_of_le h2 hC)).trans h3, (hb.cell (p := ⟨b, o + k * 15 + 1, none⟩) (Nat.lt_of_lt_of_le h2 hC)).trans h4⟩⟩
theorem EntR.more {w : World} {B B' n : Nat} {A : Option Addr} {es : List EntD} (h : EntR w B A n es) (hB : B ≤ B') : EntR w B' A n es := ⟨h.1, fun k e he => by
  obtain ⟨b, o, h1, h2, h3⟩ := h.2 k e he
  exact ⟨b, o, h1, by omega, h3⟩⟩
theorem EntR.at_ {w : World} {B n k : Nat} {A : Option Addr} {es : List EntD} (h : EntR w B A n es) (hk : k < n) : ∃ b o e, A = some ⟨b, o, none⟩ ∧ b < B ∧ es[k]? = some e ∧ w.cell? ⟨b, o + k * 15, none⟩ = some (.int .i64 e.kind) ∧ w.cell? ⟨b, o + k * 15 + 1, none⟩ = some (.int .i64 e.txn) := by
  have hk' : k < es.length := by rw [← h.1]; exact hk
  obtain ⟨b, o, h1, h2, h3, h4⟩ := h.2 k _ (List.getElem?_eq_getElem hk')
  exact ⟨b, o, _, h1, h2, List.getElem?_eq_getElem hk', h3, h4⟩
def numsEq (a b : List Int) : Bool := a == b
theorem numsEq_len {a b : List Int} (h : a.length ≠ b.length) : numsEq a b = false := by
  unfold numsEq
  rw [beq_eq_false_iff_ne]
  rintro rfl
  exact h rfl
set_option maxHeartbeats 1600000 in
theorem SameList_any (A A' : Option Addr) (n c n' c' : Nat) (xs ys : List Int) (B : Nat) (w : World) (hn : n ≤ 1000000) (hn' : n' ≤ 1000000) (h : Ints w B A n xs) (h' : Ints w B A' n' ys) :
    Calls Tryz.prog 15 #[.slice A n c, .slice A' n' c'] w fun e w' => e = .returned (.bool (numsEq xs ys)) ∧ Below w.heap.size w w' := by
  by_cases hl : n = n'
  · subst hl
    have b0 : ((n : Int) != n) = false := by simp
    have HL := hide (And.intro h.1 h'.1)
    go_enter Tryz.func15, Tryz.ntmps15
    go_wp2
    go_loopw [5] (fun i wr => ∃ k : Nat, k ≤ n ∧ i = .int .i64 k ∧ xs.take k = ys.take k ∧ ∃ dd, wr = w.drewN dd) (fun i _ => n - (intOf i).toNat)
    case atStart => exact ⟨0, Nat.zero_le _, rfl, rfl, 0, rfl⟩
    case round =>
      obtain ⟨k, hk, rfl, hq, dd, rfl⟩ := hrel
      have HQ := hide hq
      clear hq
      by_cases hlt : k < n
      · obtain ⟨b, o, x, rfl, hb, hkx, c0⟩ := h.at_ (k := k) hlt
        obtain ⟨b', o', y, rfl, hb', hky, c1⟩ := h'.at_ (k := k) hlt
        have HX := hide (And.intro hkx hky)
        have s1 : (k : Int) < n := by omega
        have s0 : (0 : Int) ≤ k := by omega
        clear hkx hky
        cases hxy : (x != y)
        · have HE := hide (show x = y by simpa using hxy)
          go_wp2
          go_quiet (fail)
          go_wp2
          go_roundw
          case rel =>
            refine ⟨k + 1, by omega, by go_num, ?_, by first | exact ⟨_, rfl⟩ | exact ⟨_, World.drewN_drewN _ _ _⟩⟩
            obtain ⟨h1, h2⟩ := HX.out
            obtain ⟨l1, e1⟩ := List.getElem?_eq_some_iff.1 h1
            obtain ⟨l2, e2⟩ := List.getElem?_eq_some_iff.1 h2
            rw [List.take_succ_eq_append_getElem l1, List.take_succ_eq_append_getElem l2, HQ.out, e1, e2, HE.out]
          case measure => simp [intOf]; omega
        · have HE := hide (show x ≠ y by simpa using hxy)
          go_wp2
          go_quiet (fail)
          go_wp2
          go_ret
          refine ⟨ret_bool ?_, by first | exact below_drewN (Below.refl _ _) _ | exact below_drewN (below_drewN (Below.refl _ _) _) _⟩
          symm
          unfold numsEq
          rw [beq_eq_false_iff_ne]
          rintro rfl
          obtain ⟨h1, h2⟩ := HX.out
          rw [h1] at h2
          injection h2 with h2
          exact HE.out h2
      · go_wp2
        go_ret
        refine ⟨ret_bool ?_, below_drewN (Below.refl _ _) _⟩
        obtain ⟨l1, l2⟩ := HL.out
        have hq := HQ.out
        rw [List.take_of_length_le (by omega), List.take_of_length_le (by omega)] at hq
        rw [hq]
        simp [numsEq]
  · have b0 : ((n : Int) != n') = true := by simp; omega
    have HE := hide (numsEq_len (a := xs) (b := ys) (by rw [← h.1, ← h'.1]; exact hl))
    clear hl
    go_enter Tryz.func15, Tryz.ntmps15
    go_wp2
    go_ret
    exact ⟨ret_bool HE.out.symm, Below.refl _ _⟩
theorem overR_take {es : List EntD} {k : Nat} {e : EntD} (t : Int) (h : es[k]? = some e) : overR (es.take (k + 1)) t = (overR (es.take k) t || (decide (e.txn = t) && decide (2 < e.kind))) := by
  obtain ⟨hk, rfl⟩ := List.getElem?_eq_some_iff.1 h
  rw [List.take_succ_eq_append_getElem hk]
  unfold overR
  rw [List.any_append]
  simp
set_option maxHeartbeats 1600000 in
theorem over_any (A : Option Addr) (n c : Nat) (es : List EntD) (t : Int) (B : Nat) (w : World) (hn : n ≤ 1000000) (h : EntR w B A n es) :
    Calls Tryz.prog 58 #[.slice A n c, .int .i64 t] w fun e w' => e = .returned (.bool (overR es t)) ∧ w' = w := by
  have HL := hide h.1
  go_enter Tryz.func58, Tryz.ntmps58
  go_wp2
  go_loopw [5] (fun i wr => ∃ k : Nat, k ≤ n ∧ i = .int .i64 k ∧ Hid (overR (es.take k) t = false) ∧ wr = w) (fun i _ => n - (intOf i).toNat)
  case atStart => exact ⟨0, Nat.zero_le _, rfl, hide (by simp [overR]), rfl⟩
  case round =>
    obtain ⟨k, hk, rfl, HV, rfl⟩ := hrel
    by_cases hlt : k < n
    · obtain ⟨b, o, x, rfl, hb, hkx, c0, c1⟩ := h.at_ (k := k) hlt
      have HX := hide hkx
      have s1 : (k : Int) < n := by omega
      have s0 : (0 : Int) ≤ k := by omega
      clear hkx
      cases hx : (x.txn == t)
      · have HN := hide (show overR (es.take (k + 1)) t = false by rw [overR_take t HX.out, HV.out]; simp only [beq_eq_false_iff_ne] at hx; simp [hx])
        go_wp2
        go_roundw
        case rel => exact ⟨k + 1, by omega, by go_num, HN, by trivial⟩
        case measure => simp [intOf]; omega
      · by_cases h2 : 2 < x.kind
        · have HN := hide (show overR es t = true from overR_iff.2 ⟨x, List.mem_of_getElem? HX.out, by simpa using hx, h2⟩)
          go_wp2
          go_ret
          exact ⟨ret_bool HN.out.symm, rfl⟩
        · have HN := hide (show overR (es.take (k + 1)) t = false by rw [overR_take t HX.out, HV.out]; simp [h2])
          go_wp2
          go_roundw
          case rel => exact ⟨k + 1, by omega, by go_num, HN, by trivial⟩
          case measure => simp [intOf]; omega
    · have HN := hide (show overR es t = false by rw [← HV.out, List.take_of_length_le (by have := HL.out; omega)])
      go_wp2
      go_ret
      exact ⟨ret_bool HN.out.symm, rfl⟩
theorem commitsD_take {es : List EntD} {k : Nat} {e : EntD} (h : es[k]? = some e) : commitsD (es.take (k + 1)) = commitsD (es.take k) ++ (if e.kind = 3 then [e.txn] else []) := by
  obtain ⟨hk, rfl⟩ := List.getElem?_eq_some_iff.1 h
  rw [List.take_succ_eq_append_getElem hk, commitsD_snoc]
def RcRel (w : World) (n : Nat) (es : List EntD) (v i : Value) (wr : World) : Prop :=
  ∃ k : Nat, k ≤ n ∧ i = .int .i64 k ∧ wr.ownsRow w.heap.size 3 1 v (commitsD (es.take k)).length ((commitsD (es.take k)).map (Value.int .i64)) ∧ Below w.heap.size w wr
set_option maxHeartbeats 3200000 in
theorem rCommits_any (A : Option Addr) (n c : Nat) (es : List EntD) (B : Nat) (w : World) (hB : B ≤ w.heap.size) (hn : n ≤ 1000000) (h : EntR w B A n es) :
    Calls Tryz.prog 17 #[.slice A n c] w fun e w' => (∃ A2 c2, e = .returned (.slice A2 (commitsD es).length c2) ∧ w'.ownsRow w.heap.size 3 1 (.slice A2 (commitsD es).length c2) (commitsD es).length ((commitsD es).map (Value.int .i64))) ∧ Below w.heap.size w w' := by
  have HL := hide h.1
  obtain ⟨i0, hi, hz0, hz1, hz2⟩ := info_parts info_intR
  go_enter Tryz.func17, Tryz.ntmps17
  go_wp2
  go_loopw [3, 4] (RcRel w n es) (fun _ i _ => n - (intOf i).toNat)
  case atStart => exact ⟨0, Nat.zero_le _, rfl, by simpa [commitsD] using World.ownsRow_nil w w.heap.size 3 1, Below.refl _ _⟩
  case round =>
    obtain ⟨k, hk, rfl, hown, hbw⟩ := hrel
    have hz := hbw.size
    by_cases hlt : k < n
    · obtain ⟨b, o, e, rfl, hb, hkx, c0, c1⟩ := (h.below hbw hB).at_ (k := k) hlt
      have HT := hide (commitsD_take hkx)
      have hwl : (commitsD (es.take k)).length ≤ k := Nat.le_trans (commitsD_length _) (by rw [List.length_take]; omega)
      have s1 : (k : Int) < n := by omega
      have s0 : (0 : Int) ≤ k := by omega
      obtain ⟨ls, kd, tx⟩ := e
      dsimp only at *
      clear hkx
      cases h1 : (kd == 3)
      · have HT : Hid (commitsD (es.take (k + 1)) = commitsD (es.take k)) := hide (by rw [HT.out, if_neg (by simpa using h1), List.append_nil])
        have HO := hide hown
        clear hown
        go_wp2
        go_roundw
        case rel => exact ⟨k + 1, by omega, by go_num, by rw [HT.out]; exact HO.out, hbw⟩
        case measure => simp [intOf]; omega
      · have HT : Hid (commitsD (es.take (k + 1)) = commitsD (es.take k) ++ [tx]) := hide (by rw [HT.out, if_pos (by simpa using h1)])
        obtain ⟨A1, c1', rfl, hnc1, junk⟩ := own_slice hown
        have HO := hide hown
        generalize hm : (commitsD (es.take k)).length = m at HO hnc1 hwl ⊢
        have HM := hide hm
        clear hown junk hm
        go_wp2_with (at_builtin; refine heldG ?_)
        refine unheldG ?_
        at_builtin
        refine wpList_append_any _ rfl _ _ _ rfl w.heap.size 3 i0 _ 1 8 Tryz.underlying30 hi hz0 hz1 hz2 rfl (by omega) (.slice A1 m c1') m _ rfl (HO.out.alloc _) (wr.heap.size + 1) (some ⟨wr.heap.size, 0, none⟩) 1 1 [.int .i64 tx] rfl (Reads.of_blk (n := 1) (size := 1) (Blk.new _ _ _) rfl) (fun u hu => by rw [List.mem_singleton] at hu; subst hu; rfl) (by unfold maxLen; omega) (by omega) (by simp; omega) ?_
        intro v' w4 hown4 hg4 _
        go_wp2
        go_roundw
        case rel =>
          refine ⟨k + 1, by omega, by go_num, ?_, (hbw.alloc hz _).grown hg4 (by simp; omega) (fun q hq => (HO.out.lt q hq).1)⟩
          rw [HT.out, List.length_append, HM.out, List.map_append]
          simpa using hown4
        case measure => simp [intOf]; omega
    · have HK := hide (show es.take k = es from List.take_of_length_le (by have := HL.out; omega))
      have HO := hide hown
      clear hown
      go_wp2
      go_ret
      have h1 := HO.out
      rw [HK.out] at h1
      obtain ⟨A1, c1, e1, _⟩ := own_slice h1
      subst e1
      exact ⟨⟨A1, c1, rfl, h1⟩, hbw⟩
end Go.Proofs.YtnanlaefehaifaaGreat
