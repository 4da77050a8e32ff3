/-
  WALKS: moneyerref34.place, wrong, Turned.
-/
import Derived.Test.YtkhpkclkjklccaaGreatDoorProg
import Derived.Test.YtkhpkclkjklccaaGreatDoorMem
import Derived.Test.YtkhpkclkjklccaaGreatDoorOrd
import Derived.Deep.QuietTactic
import Derived.BigQuiet
namespace Go.Proofs.YtkhpkclkjklccaaGreatDoor
open Go.RowKit

set_option maxHeartbeats 400000 in
theorem place_any (A : Option Addr) (n c : Nat) (zs : List Int) (x : Int) (B : Nat) (w : World) (hn : n ≤ 9223372036854775807) (h : Ints w B A n zs) :
    Calls Tryz.prog 37 #[.slice A n c, .int .i64 x] w fun e w' => e = .returned (.int .i64 (plc zs x)) ∧ w' = w := by
  have hnl : n = zs.length := h.1
  have HL := hide hnl
  clear hnl
  go_enter Tryz.func37, Tryz.ntmps37
  go_wp2
  go_loop [5] (fun i => ∃ k : Nat, k ≤ n ∧ i = .int .i64 k ∧ ∀ j, j < k → zs[j]? ≠ some x) (fun i => n - (intOf i).toNat)
  case atStart => exact ⟨0, Nat.zero_le _, rfl, fun j hj => absurd hj (by omega)⟩
  case round =>
    obtain ⟨k, hk, rfl, hno⟩ := hrel
    have HNO := hide hno
    clear hno
    by_cases hlt : k < n
    · obtain ⟨b, o, y, rfl, hb, hy, hcell⟩ := h.at_ hlt
      have HY := hide hy
      clear hy
      go_wp2
      · go_ret
        have hyx : y = x := by have h : (y == x) = true := by assumption
                               simpa using h
        exact ⟨ret_int (plc_some (by rw [HY.out, hyx]) HNO.out).symm, rfl⟩
      · have hyx : ¬ y = x := by have h : (y == x) = false := by assumption
                                 simpa using h
        go_round
        case rel =>
          refine ⟨k + 1, by omega, by go_num, fun j hj => ?_⟩
          by_cases hjk : j = k
          · subst hjk; rw [HY.out]; simpa using hyx
          · exact HNO.out j (by omega)
        case measure => simp [intOf]; omega
    · go_wp2
      go_ret
      exact ⟨ret_int (plc_none (fun j hj => HNO.out j (by have := HL.out; omega))).symm, rfl⟩

/-- The rank of a Did by an order. -/
def rank (zs : List Int) (x : DidV) : Int := plc zs x.d.txn
def wrgI (l : List Int) : Int := match wrg l with | some i => (i : Int) | none => -1

set_option maxHeartbeats 400000 in
theorem wrong_any (A O : Option Addr) (n c m d : Nat) (xs : List DidV) (zs : List Int) (B : Nat) (w : World) (hn : n ≤ 1000000) (hm : m ≤ 1000000) (h : Dids w B A n xs) (ho : Ints w B O m zs) :
    Calls Tryz.prog 38 #[.slice A n c, .slice O m d] w fun e w' => e = .returned (.int .i64 (wrgI (xs.map (rank zs)))) ∧ ∃ q, w' = w.drewN q := by
  have hnl : n = xs.length := h.1
  have HL := hide hnl
  clear hnl
  go_enter Tryz.func38, Tryz.ntmps38
  go_wp2
  go_loopw [5] (fun i wr => ∃ k : Nat, (k ≤ n) ∧ i = .int .i64 k ∧ (∃ q, wr = w.drewN q) ∧ ∀ j (h : j + 1 < xs.length), j < k → rank zs xs[j] ≤ rank zs xs[j + 1]) (fun i _ => n - (intOf i).toNat)
  case atStart => exact ⟨0, Nat.zero_le _, rfl, ⟨0, rfl⟩, fun j _ hj => absurd hj (by omega)⟩
  case round =>
    obtain ⟨k, hk, rfl, hq, hno⟩ := hrel
    have hD : Dids wr B A n xs := by obtain ⟨q, rfl⟩ := hq; exact h.drewN q
    have hI : Ints wr B O m zs := by obtain ⟨q, rfl⟩ := hq; exact ho.drewN q
    have HNO := hide hno
    have HQ := hide hq
    clear hno hq
    by_cases hlt : k + 1 < n
    · obtain ⟨b, o, x, rfl, hb, hx, hok, hcx⟩ := hD.at_ (show k < n by omega)
      obtain ⟨b', o', y, he, hb', hy, hok', hcy⟩ := hD.at_ hlt
      have c0 := (hD.row hx).1
      have c1 := (hD.row hy).1
      clear hcx hcy hok hok' he
      have HX := hide hx
      have HY := hide hy
      clear hx hy
      have hlt1 : (k : Int) + 1 < n := by omega
      go_wp2
      have s1 : IntKind.i64.wrap ((k : Int) + 1) = (k : Int) + 1 := IntWalk.i64_in _ (by omega)
      have s2 : (0 : Int) ≤ (k : Int) + 1 := by omega
      have s3 : ((k : Int) + 1).toNat = k + 1 := by omega
      have s4 : (k : Int) < n := by omega
      go_quiet ((go_at_call 37; exact Calls.quiet_of_same (place_any _ _ _ _ _ B _ (by omega) (hI.drewN _))))
      clear s1 s2 s3
      go_wp2
      · go_ret
        have hlt2 : plc zs y.d.txn < plc zs x.d.txn := by assumption
        obtain ⟨q, rfl⟩ := HQ.out
        refine ⟨ret_int ?_, q + nq, by rw [World.drewN_drewN]⟩
        have hl := HL.out
        obtain ⟨kx, ex⟩ := List.getElem?_eq_some_iff.1 HX.out
        obtain ⟨ky, ey⟩ := List.getElem?_eq_some_iff.1 HY.out
        have hw : wrg (xs.map (rank zs)) = some k := wrg_first (by simpa using ky) (by simp only [List.getElem_map, ex, ey]; exact hlt2) (fun j hj hjk => by
          simp only [List.getElem_map]
          exact HNO.out j (by simpa using hj) hjk)
        simp [wrgI, hw]
      · have hge : plc zs x.d.txn ≤ plc zs y.d.txn := by assumption
        go_roundw
        case rel =>
          obtain ⟨q, rfl⟩ := HQ.out
          refine ⟨k + 1, by omega, by go_num, ⟨q + nq, by rw [World.drewN_drewN]⟩, fun j hj hjk => ?_⟩
          by_cases hjk' : j = k
          · subst hjk'
            obtain ⟨kx, ex⟩ := List.getElem?_eq_some_iff.1 HX.out
            obtain ⟨ky, ey⟩ := List.getElem?_eq_some_iff.1 HY.out
            rw [ex, ey]
            unfold rank
            omega
          · exact HNO.out j hj (by omega)
        case measure => simp [intOf]; omega
    · go_wp2
      go_ret
      obtain ⟨q, rfl⟩ := HQ.out
      refine ⟨ret_int ?_, q, rfl⟩
      have hw : wrg (xs.map (rank zs)) = none := wrg_all (fun j hj => by
        simp only [List.getElem_map]
        have hl := HL.out
        have hj' : j + 1 < xs.length := by simpa using hj
        exact HNO.out j hj' (by omega))
      simp [wrgI, hw]

theorem take_map_snoc {α β : Type} (f : α → β) {l : List α} {k : Nat} {x : α} (h : l[k]? = some x) : (l.map f).take (k + 1) = (l.map f).take k ++ [f x] := by
  obtain ⟨hk, e⟩ := List.getElem?_eq_some_iff.1 h
  rw [List.take_succ_eq_append_getElem (by simpa using hk)]
  simp [e]
theorem count_step {zs : List Int} {xs : List DidV} {k : Nat} {x y : DidV} (h : xs[k]? = some y) :
    ((xs.map (rank zs)).take (k + 1)).countP (fun b => decide (rank zs x < b)) = ((xs.map (rank zs)).take k).countP (fun b => decide (rank zs x < b)) + if rank zs x < rank zs y then 1 else 0 := by
  rw [take_map_snoc _ h, List.countP_append]
  by_cases hr : rank zs x < rank zs y <;> simp [hr]
theorem val_int {a b : Int} (h : a = b) : Value.int .i64 a = Value.int .i64 b := by rw [h]

end Go.Proofs.YtkhpkclkjklccaaGreatDoor
