/-
  WALK: moneyerref09.Right: if it answers true, the list is a state.
-/
import Derived.Test.YteidmdnhkgcnoaaGreatMA
import Derived.Test.YteidmdnhkgcnoaaGreatMem
import Derived.Test.YteidmdnhkgcnoaaGreatQin
import Derived.Deep.LoopGhost
namespace Go.Proofs.YteidmdnhkgcnoaaGreat
open Go.RowKit BigFrame

def RightPost (w : World) (xs : List PairV) (e : Ending) (w' : World) : Prop := ∃ b, e = .returned (.bool b) ∧ (b = true → RightS (xs.map PairV.d)) ∧ Below w.heap.size w w'
theorem take_map_snoc2 {α β : Type} (f : α → β) {xs : List α} {k : Nat} {x : α} (hx : xs[k]? = some x) : (xs.take (k + 1)).map f = (xs.take k).map f ++ [f x] := by
  obtain ⟨hk, e⟩ := List.getElem?_eq_some_iff.1 hx
  rw [List.take_succ_eq_append_getElem hk, List.map_append, e]
  rfl

set_option maxHeartbeats 3200000 in
set_option maxRecDepth 100000 in
theorem mRight_any (A : Option Addr) (n c : Nat) (xs : List PairV) (B : Nat) (w : World) (hB : B ≤ w.heap.size) (hn : n ≤ 1000000) (h : Pairs w B A n xs) (hks : ∀ x ∈ xs, x.d.key.size ≤ 9223372036854775807) :
    Calls Tryz.prog 5 #[.slice A n c] w (RightPost w xs) := by
  have HL := hide h.1
  have HKS := hide hks
  clear hks
  go_enter Tryz.func5, Tryz.ntmps5
  go_wp2
  go_loopw [3] (fun i wr => ∃ k : Nat, k ≤ n ∧ i = .int .i64 k ∧ RightS ((xs.take k).map PairV.d) ∧ Below w.heap.size w wr) (fun i _ => n - (intOf i).toNat)
  case atStart => exact ⟨0, Nat.zero_le _, rfl, by simpa using RightS.nil, Below.refl _ _⟩
  case round =>
    obtain ⟨k, hk, rfl, hrs, hbw⟩ := hrel
    have HRS := hide hrs
    clear hrs
    have hwz := hbw.size
    by_cases hlt : k < n
    · have hD := h.below hbw hB
      obtain ⟨b, o, x, rfl, hb, hkx, hok, hc⟩ := hD.at_ hlt
      have hks := HKS.out x (List.mem_of_getElem? hkx)
      obtain ⟨⟨ky, cd⟩, cv⟩ := x
      obtain ⟨A2, n2, m2, rfl, _, _, hl2, _, hr2⟩ := hok
      dsimp only at *
      have hcr := fun (b : Bool) (hb : rightC cd = b) (W : World) => hb ▸ cellRight_any cd A2 n2 m2 W hl2
      have HX := hide hkx
      have HKR := hide (fun (b : Bool) (hb : goodKey ky = b) (W : World) => hb ▸ keyRight_any ky W hks)
      have HCR := hide hcr
      have cA : ∀ t : In (Below wr.heap.size wr), t.w.cell? ⟨b, o + k * 6, none⟩ = some (.string ky) := fun t => ((hD.below t.h (Nat.le_trans hB hwz)).row hkx).1
      have c0 : ∀ t : In (Below wr.heap.size wr), t.w.cell? ⟨b, o + k * 6 + 1, none⟩ = some (.int .i64 cd.kind) := fun t => ((hD.below t.h (Nat.le_trans hB hwz)).row hkx).2.1
      have c1 : ∀ t : In (Below wr.heap.size wr), t.w.cell? ⟨b, o + k * 6 + 1 + 1, none⟩ = some (.slice A2 n2 m2) := fun t => ((hD.below t.h (Nat.le_trans hB hwz)).row hkx).2.2.1
      have c2 : ∀ t : In (Below wr.heap.size wr), t.w.cell? ⟨b, o + k * 6 + 1 + 2, none⟩ = some (.int .i64 cd.lo) := fun t => ((hD.below t.h (Nat.le_trans hB hwz)).row hkx).2.2.2.1
      have c3 : ∀ t : In (Below wr.heap.size wr), t.w.cell? ⟨b, o + k * 6 + 1 + 3, none⟩ = some (.int .i64 cd.hi) := fun t => ((hD.below t.h (Nat.le_trans hB hwz)).row hkx).2.2.2.2.1
      have c4 : ∀ t : In (Below wr.heap.size wr), t.w.cell? ⟨b, o + k * 6 + 1 + 4, none⟩ = some (.int .i64 cd.val) := fun t => ((hD.below t.h (Nat.le_trans hB hwz)).row hkx).2.2.2.2.2
      have HD := hide hD
      clear hkx hcr hr2 hl2 hc h hD
      have s4 : (k : Int) < n := by omega
      have hbz : wr.heap.size ≤ wr.heap.size := Nat.le_refl _
      go_wp2
      cases hgk : goodKey ky
      · refine wp_region_in (C := (Below wr.heap.size wr)) (by kernel_rfl) (by kernel_rfl) (Below.refl _ _).drew ?_
        repeat (first | go_big_quiet_step (first | (go_at_call 20; exact calls_in_same (HKR.out _ hgk _))) | quiet_step (first | (go_at_call 20; exact calls_in_same (HKR.out _ hgk _))))
        refine wpQuiet_nil ?_
        intro _ hw'
        obtain ⟨t, hw''⟩ := hw'
        subst hw''
        go_wp2
        go_ret
        exact ⟨false, rfl, fun hf => Bool.noConfusion hf, below_via hbw t.h hwz⟩
      · cases hrc : rightC cd
        · refine wp_region_in (C := (Below wr.heap.size wr)) (by kernel_rfl) (by kernel_rfl) (Below.refl _ _).drew ?_
          repeat (first | go_big_quiet_step (first | (go_at_call 20; exact calls_in_same (HKR.out _ hgk _)) | (go_at_call 21; exact calls_in (Nat.le_refl _) (HCR.out _ hrc _))) | quiet_step (first | (go_at_call 20; exact calls_in_same (HKR.out _ hgk _)) | (go_at_call 21; exact calls_in (Nat.le_refl _) (HCR.out _ hrc _))))
          refine wpQuiet_nil ?_
          intro _ hw'
          obtain ⟨t, hw''⟩ := hw'
          subst hw''
          go_wp2
          go_ret
          exact ⟨false, rfl, fun hf => Bool.noConfusion hf, below_via hbw t.h hwz⟩
        · by_cases hk0 : 0 < k
          rotate_left
          · refine wp_region_in (C := (Below wr.heap.size wr)) (by kernel_rfl) (by kernel_rfl) (Below.refl _ _).drew ?_
            repeat (first | go_big_quiet_step (first | (go_at_call 20; exact calls_in_same (HKR.out _ hgk _)) | (go_at_call 21; exact calls_in (Nat.le_refl _) (HCR.out _ hrc _))) | quiet_step (first | (go_at_call 20; exact calls_in_same (HKR.out _ hgk _)) | (go_at_call 21; exact calls_in (Nat.le_refl _) (HCR.out _ hrc _))))
            refine wpQuiet_nil ?_
            intro _ hw'
            obtain ⟨t, hw''⟩ := hw'
            subst hw''
            go_wp2
            go_round
            case rel =>
              refine ⟨k + 1, by omega, by go_num, ?_, below_via hbw t.h hwz⟩
              rw [take_map_snoc2 _ HX.out]
              refine HRS.out.snoc ⟨hgk, hrc⟩ (fun y hy => ?_)
              obtain rfl : k = 0 := by omega
              simp at hy
            case measure => simp [intOf]; omega
          · obtain ⟨j, rfl⟩ : ∃ j, k = j + 1 := ⟨k - 1, by omega⟩
            have hD := HD.out
            obtain ⟨b', o', y, e, _, hjy, _, _⟩ := hD.at_ (show j < n by omega)
            have cJ : ∀ t : In (Below wr.heap.size wr), t.w.cell? ⟨b, o + j * 6, none⟩ = some (.string y.d.key) := fun t => ((hD.below t.h (Nat.le_trans hB hwz)).row hjy).1
            have HJ := hide hjy
            clear hjy hD e
            have q1 : IntKind.i64.wrap (((j + 1 : Nat) : Int) - 1) = (j : Int) := by
              have : ((j + 1 : Nat) : Int) - 1 = (j : Int) := by omega
              rw [this]
              exact IntWalk.i64_in _ (by omega)
            have q2 : (0 : Int) ≤ j := by omega
            have q3 : ((j : Int)).toNat = j := by omega
            have q4 : j < n := by omega
            refine wp_region_in (C := (Below wr.heap.size wr)) (by kernel_rfl) (by kernel_rfl) (Below.refl _ _).drew ?_
            repeat (first | go_big_quiet_step (first | (go_at_call 20; exact calls_in_same (HKR.out _ hgk _)) | (go_at_call 21; exact calls_in (Nat.le_refl _) (HCR.out _ hrc _))) | quiet_step (first | (go_at_call 20; exact calls_in_same (HKR.out _ hgk _)) | (go_at_call 21; exact calls_in (Nat.le_refl _) (HCR.out _ hrc _))))
            refine wpQuiet_nil ?_
            intro _ hw'
            obtain ⟨t, hw''⟩ := hw'
            subst hw''
            clear q1 q2 q3
            go_wp2
            · go_ret
              exact ⟨false, rfl, fun hf => Bool.noConfusion hf, below_via hbw t.h hwz⟩
            · have hle : Op.bytesLess ky.toList y.d.key.toList = false ∧ (ky.toList == y.d.key.toList) = false := by assumption
              have HLE := hide hle
              clear hle
              rename_i hle
              clear hle
              go_round
              case rel =>
                refine ⟨j + 1 + 1, by omega, by go_num, ?_, below_via hbw t.h hwz⟩
                rw [take_map_snoc2 _ HX.out]
                refine HRS.out.snoc ⟨hgk, hrc⟩ (fun z hz => ?_)
                rw [take_map_snoc2 _ HJ.out, List.getLast?_append] at hz
                simp at hz
                subst hz
                rcases kless_tri y.d.key ky with h | h | h
                · exact h
                · have := HLE.out.2; simp [h] at this
                · have := HLE.out.1; unfold kless at h; rw [this] at h; cases h
              case measure => simp [intOf]; omega
    · go_wp2
      go_ret
      refine ⟨true, rfl, fun _ => ?_, hbw⟩
      have := HRS.out
      rwa [List.take_of_length_le (by have := HL.out; omega)] at this
end Go.Proofs.YteidmdnhkgcnoaaGreat
