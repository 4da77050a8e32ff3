/-
  WALK: moneyerref33.SameDid, of two lists that read alike.
-/
import Derived.Test.YteidmdnhkgcnoaaGreatWC
namespace Go.Proofs.YteidmdnhkgcnoaaGreat
open Go.RowKit

set_option maxHeartbeats 3200000 in
set_option maxRecDepth 100000 in
/-- SameDid, of two lists that read alike. -/
theorem SameDid_true (A A' : Option Addr) (n c c' : Nat) (xs ys : List DidV) (B : Nat) (w : World) (hB : B ≤ w.heap.size) (hn : n ≤ 1000000) (hx : Dids w B A n xs) (hy : Dids w B A' n ys) (hxy : xs.map DidV.d = ys.map DidV.d) :
    Calls Tryz.prog 17 #[.slice A n c, .slice A' n c'] w fun e w' => e = .returned (.bool true) ∧ Below w.heap.size w w' := by
  have HL := hide hx.1
  have HXY := hide hxy
  clear hxy
  go_enter Tryz.func17, Tryz.ntmps17
  go_wp2
  go_loopw [5] (fun i wr => ∃ k : Nat, k ≤ n ∧ i = .int .i64 k ∧ Below w.heap.size w wr) (fun i _ => n - (intOf i).toNat)
  case atStart => exact ⟨0, Nat.zero_le _, rfl, Below.refl _ _⟩
  case round =>
    obtain ⟨k, hk, rfl, hbw⟩ := hrel
    have hD := hx.below hbw hB
    have hE := hy.below hbw hB
    by_cases hlt : k < n
    · obtain ⟨b, o, x, rfl, hb, hkx, hok, hc1⟩ := hD.at_ hlt
      obtain ⟨b', o', y, rfl, hb', hky, hok', hc2⟩ := hE.at_ hlt
      have hd : y.d = x.d := by
        have h1 := congrArg (fun l => l[k]?) HXY.out
        simp only [List.getElem?_map, hkx, hky, Option.map_some, Option.some.injEq] at h1
        exact h1.symm
      have R1 := fun (W : World) (h : Dids W B (some ⟨b, o, none⟩) n xs) => h.row hkx
      have R2 := fun (W : World) (h : Dids W B (some ⟨b', o', none⟩) n ys) => h.row hky
      rw [hd] at R2
      have hok2 : BytesAt wr B y.dv x.d.op.data ∧ BytesAt wr B y.cv x.d.cell.data := by rw [← hd]; exact hok'
      obtain ⟨dx, dv, cv⟩ := x
      obtain ⟨dy, ev, fv⟩ := y
      dsimp only at *
      clear hd hok' hky hkx hc1 hc2
      have HR1 := hide R1
      have HR2 := hide R2
      clear R1 R2
      have hwz := hbw.size
      go_wp2
      have s4 : (k : Int) < n := by omega
      have jD : Dids wr.drew B (some ⟨b, o, none⟩) n xs := hD.drewN 1
      have jE : Dids wr.drew B (some ⟨b', o', none⟩) n ys := hE.drewN 1
      have jb : Below w.heap.size w wr.drew := hbw.drew
      have jz : B ≤ wr.drew.heap.size := Nat.le_trans hB hwz
      have jv1 : BytesAt wr.drew B dv dx.op.data := hok.1.below (below_of_drewN (B := B) wr 1) (Nat.le_refl _)
      have jv2 : BytesAt wr.drew B ev dx.op.data := hok2.1.below (below_of_drewN (B := B) wr 1) (Nat.le_refl _)
      have jv3 : BytesAt wr.drew B cv dx.cell.data := hok.2.below (below_of_drewN (B := B) wr 1) (Nat.le_refl _)
      have jv4 : BytesAt wr.drew B fv dx.cell.data := hok2.2.below (below_of_drewN (B := B) wr 1) (Nat.le_refl _)
      have jw : w.heap.size ≤ wr.drew.heap.size := hwz
      have eq1 : (dx.err == dx.err && cellEq dx.cell dx.cell) = true := by simp [cellEq]
      clear hD hE hok hok2 hx hy
      go_region_held3 (fun w' => (w'.cell? ⟨b, o + k * 13, none⟩ = some (.int .i64 dx.txn) ∧ w'.cell? ⟨b, o + k * 13 + 1, none⟩ = some (.int .i64 dx.op.act) ∧ w'.cell? ⟨b, o + k * 13 + 1 + 1, none⟩ = some (.string dx.op.key) ∧ w'.cell? ⟨b, o + k * 13 + 1 + 2, none⟩ = some (dv) ∧ w'.cell? ⟨b, o + k * 13 + 1 + 3, none⟩ = some (.int .i64 dx.op.lo) ∧ w'.cell? ⟨b, o + k * 13 + 1 + 4, none⟩ = some (.int .i64 dx.op.hi) ∧ w'.cell? ⟨b, o + k * 13 + 1 + 5, none⟩ = some (.int .i64 dx.op.n) ∧ w'.cell? ⟨b, o + k * 13 + 7, none⟩ = some (.int .i64 dx.err) ∧ w'.cell? ⟨b, o + k * 13 + 7 + 1, none⟩ = some (.int .i64 dx.cell.kind) ∧ w'.cell? ⟨b, o + k * 13 + 7 + 2, none⟩ = some (cv) ∧ w'.cell? ⟨b, o + k * 13 + 7 + 3, none⟩ = some (.int .i64 dx.cell.lo) ∧ w'.cell? ⟨b, o + k * 13 + 7 + 4, none⟩ = some (.int .i64 dx.cell.hi) ∧ w'.cell? ⟨b, o + k * 13 + 7 + 5, none⟩ = some (.int .i64 dx.cell.val)) ∧ (w'.cell? ⟨b', o' + k * 13, none⟩ = some (.int .i64 dx.txn) ∧ w'.cell? ⟨b', o' + k * 13 + 1, none⟩ = some (.int .i64 dx.op.act) ∧ w'.cell? ⟨b', o' + k * 13 + 1 + 1, none⟩ = some (.string dx.op.key) ∧ w'.cell? ⟨b', o' + k * 13 + 1 + 2, none⟩ = some (ev) ∧ w'.cell? ⟨b', o' + k * 13 + 1 + 3, none⟩ = some (.int .i64 dx.op.lo) ∧ w'.cell? ⟨b', o' + k * 13 + 1 + 4, none⟩ = some (.int .i64 dx.op.hi) ∧ w'.cell? ⟨b', o' + k * 13 + 1 + 5, none⟩ = some (.int .i64 dx.op.n) ∧ w'.cell? ⟨b', o' + k * 13 + 7, none⟩ = some (.int .i64 dx.err) ∧ w'.cell? ⟨b', o' + k * 13 + 7 + 1, none⟩ = some (.int .i64 dx.cell.kind) ∧ w'.cell? ⟨b', o' + k * 13 + 7 + 2, none⟩ = some (fv) ∧ w'.cell? ⟨b', o' + k * 13 + 7 + 3, none⟩ = some (.int .i64 dx.cell.lo) ∧ w'.cell? ⟨b', o' + k * 13 + 7 + 4, none⟩ = some (.int .i64 dx.cell.hi) ∧ w'.cell? ⟨b', o' + k * 13 + 7 + 5, none⟩ = some (.int .i64 dx.cell.val)))
        (first | exact ⟨HR1.out _ jD', HR2.out _ jE'⟩ | exact ⟨HR1.out _ jD, HR2.out _ jE⟩)
        (first
          | (go_at_call 32; refine (Exact_true dx.op dv ev B _ jz jv1 jv2).mono ?_; rintro e w1 ⟨rfl, hb1⟩; have jD' := jD.below hb1 jz; have jE' := jE.below hb1 jz; have jb' := below_via jb hb1 jw; have jw' := Nat.le_trans jw hb1.size; have jz' := Nat.le_trans jz hb1.size; have jv3' := jv3.below hb1 jz; have jv4' := jv4.below hb1 jz)
          | (go_at_call 33; refine (rSameAnswer_any dx.err dx.err dx.cell dx.cell cv fv B _ jz' jv3' jv4').mono ?_; rw [eq1]; rintro e w2 ⟨rfl, hb2⟩; have jD' := jD'.below hb2 jz'; have jE' := jE'.below hb2 jz'; have jb' := below_via jb' hb2 jw'))
      all_goals go_wp2
      all_goals
        go_roundw
        case rel => exact ⟨k + 1, by omega, by go_num, by assumption⟩
        case measure => simp [intOf]; omega
    · go_wp2
      go_ret
      exact ⟨rfl, hbw⟩
end Go.Proofs.YteidmdnhkgcnoaaGreat
