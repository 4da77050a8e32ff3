/-
  WALKS: moneyerlaw34.code, live.
-/
import Derived.Test.YtkhpkclkjklccaaGreatDoorWI
namespace Go.Proofs.YtkhpkclkjklccaaGreatDoor
open Go.RowKit

theorem code_any (x : Int) (w : World) : Calls Tryz.prog 10 #[.int .i64 x] w fun e w' => e = .returned (.int .i64 x) ∧ w' = w := by
  go_enter Tryz.func10, Tryz.ntmps10
  go_wp2
  go_ret
  exact ⟨rfl, rfl⟩

/-- The page's example. -/
def incA : OpD := ⟨4, ⟨#[97]⟩, [], 0, 0, 1⟩
def did0 (t : Int) : DidV := ⟨⟨t, incA, 0, ⟨0, [], 0, 0, 0⟩⟩, .slice none 0 0, .slice none 0 0⟩
theorem bytes_nil (w : World) (B : Nat) : BytesAt w B (.slice none 0 0) [] := ⟨none, 0, 0, rfl, Nat.le_refl _, Nat.zero_le _, rfl, fun _ => rfl, Reads.none_⟩
theorem live_invs : invs ([did0 2, did0 1].map (rank [1, 2])) = 1 := by rfl
theorem live_com : comV (did0 2) (did0 1) = true := by
  have h : compat (modeOf incA.act) (modeOf incA.act) = true := by decide
  have h2 : inRange incA.act = true := by decide
  unfold comV commute
  show (inRange incA.act && inRange incA.act && (!(incA.key.toList == incA.key.toList) || compat (modeOf incA.act) (modeOf incA.act))) = true
  rw [h, h2]
  simp
theorem live_ord : ord comV (rank [1, 2]) (invs ([did0 2, did0 1].map (rank [1, 2]))) [did0 2, did0 1] = some [did0 1, did0 2] := by
  rw [live_invs, ord_step comV (rank [1, 2]) (i := 0) (a := did0 2) (b := did0 1) (by rfl) rfl rfl live_com]
  rfl
set_option maxHeartbeats 1600000 in
set_option maxRecDepth 100000 in
theorem live_true (w : World) (ht : Tab w) (hg : 0 < w.heap.size) : Calls Tryz.prog 6 #[] w fun e w' => e = .returned (.bool true) ∧ Below w.heap.size w w' := by
  go_enter Tryz.func6, Tryz.ntmps6
  go_wp2_with fail
  refine gen3 (R := fun W => Calls Tryz.prog 16 _ W _) ?_
  intro W k1 k2 hb hz
  have hD : Dids W W.heap.size (some ⟨w.heap.size + 1, 0, none⟩) 2 [did0 2, did0 1] := ⟨rfl, (Reads.of_blk (n := 2) (size := 13) k1 rfl).more (by omega), fun x hx => by
    simp only [List.mem_cons, List.not_mem_nil, or_false] at hx
    rcases hx with rfl | rfl <;> exact ⟨bytes_nil _ _, bytes_nil _ _⟩⟩
  have hI : Ints W W.heap.size (some ⟨w.heap.size + 2, 0, none⟩) 2 [1, 2] := ⟨rfl, (Reads.of_blk (n := 2) (size := 1) k2 rfl).more (by omega)⟩
  refine (sOrder_any _ _ 2 2 2 2 [did0 2, did0 1] [1, 2] W.heap.size W (Nat.le_refl _) (by omega) (by omega) (by omega) hD hI ?_ ?_ ?_ (ht.below hb hg) (by omega)).mono ?_
  · intro x hx
    simp only [List.mem_cons, List.not_mem_nil, or_false] at hx
    rcases hx with rfl | rfl <;> exact WalkArith.wf_i64 (by decide)
  · intro x hx
    simp only [List.mem_cons, List.not_mem_nil, or_false] at hx
    rcases hx with rfl | rfl <;> exact WalkArith.wf_i64 (by decide)
  · intro x hx
    simp only [List.mem_cons, List.not_mem_nil, or_false] at hx
    rcases hx with rfl | rfl <;> exact ⟨by decide, by decide⟩
  rintro e w1 ⟨hb1, ⟨⟨x, hx, hneg⟩, rfl⟩ | ⟨_, ⟨h0, rfl⟩ | ⟨ys, ys', A, c, hys, hyd, hinv, rfl, hDy⟩⟩⟩
  · simp only [List.mem_cons, List.not_mem_nil, or_false] at hx
    rcases hx with rfl | rfl <;> exact absurd hneg (by decide)
  · rw [live_ord] at h0
    cases h0
  · rw [live_ord] at hys
    injection hys with hys
    subst hys
    obtain ⟨b, o, y, rfl, hby, hy0, _, hcy⟩ := hDy.at_ (k := 0) (by omega)
    have hyt : y.d.txn = 1 := by
      have := congrArg (fun l => l[0]?) hyd
      simp only [List.getElem?_map, hy0] at this
      have h2 : y.d = (did0 1).d := by simpa using this
      rw [h2]
      rfl
    have c0 : w1.cell? ⟨b, o, none⟩ = some (.int .i64 1) := by have := hcy 0 _ rfl; rw [hyt] at this; simpa using this
    rw [live_invs]
    clear hcy hy0 hyd hyt hDy hinv k1 k2 hD hI
    go_wp2_with (go_at_call 10; refine (code_any _ _).mono ?_; rintro e w' ⟨rfl, rfl⟩)
    go_ret
    exact ⟨rfl, below_via hb hb1 (by omega)⟩
end Go.Proofs.YtkhpkclkjklccaaGreatDoor
