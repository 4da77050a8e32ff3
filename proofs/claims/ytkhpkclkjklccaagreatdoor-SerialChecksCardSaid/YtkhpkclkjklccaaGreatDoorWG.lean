/-
  WALK: moneyerref34.Order: P34.1 by its definition.
-/
import Derived.Test.YtkhpkclkjklccaaGreatDoorWA
import Derived.Test.YtkhpkclkjklccaaGreatDoorWB
import Derived.Test.YtkhpkclkjklccaaGreatDoorWC
import Derived.Deep.LoopGhost
import Derived.Deep.RegionHeld3
namespace Go.Proofs.YtkhpkclkjklccaaGreatDoor
open Go.RowKit

theorem info_did : (Tryz.prog.info? 38).map (fun i => (i.zero, i.size, i.bytes)) = some (some (.agg didZ), 13, 144) := by kernel_rfl

def comV (x y : DidV) : Bool := commute x.d.op y.d.op

/-- What Order tells, be it the program's or the reference's. -/
def OrdPost (w : World) (n : Nat) (xs : List DidV) (zs : List Int) (e : Ending) (w' : World) : Prop :=
  Below w.heap.size w w' ∧
  (((∃ x ∈ xs, rank zs x < 0) ∧ e = .returned (.tuple #[.slice none 0 0, .int .i64 0, .int .i64 1])) ∨
   ((∀ x ∈ xs, 0 ≤ rank zs x) ∧
    ((ord comV (rank zs) (invs (xs.map (rank zs))) xs = none ∧ e = .returned (.tuple #[.slice none 0 0, .int .i64 0, .int .i64 15])) ∨
     ∃ (ys ys' : List DidV) (A : Option Addr) (c : Nat), ord comV (rank zs) (invs (xs.map (rank zs))) xs = some ys ∧ ys'.map DidV.d = ys.map DidV.d ∧ invs (ys.map (rank zs)) = 0 ∧
       e = .returned (.tuple #[.slice A n c, .int .i64 (invs (xs.map (rank zs)) : Nat), .int .i64 0]) ∧ Dids w' w'.heap.size A n ys')))

theorem take_snoc1 {α : Type} {l : List α} {k : Nat} {x : α} (h : l[k]? = some x) : l.take (k + 1) = l.take k ++ [x] := by
  obtain ⟨hk, e⟩ := List.getElem?_eq_some_iff.1 h
  rw [List.take_succ_eq_append_getElem hk, e]
theorem Dids.perm {w : World} {B n : Nat} {A A' : Option Addr} {xs ys : List DidV} (h : Dids w B A n xs) (hp : ys.Perm xs) (hr : Reads w B 13 A' n (ys.flatMap DidV.cells)) : Dids w B A' n ys :=
  ⟨by rw [h.1, hp.length_eq], hr, fun x hx => h.2.2 x (hp.mem_iff.1 hx)⟩
theorem Dids.keep_ {w w' : World} {B n : Nat} {A : Option Addr} {xs : List DidV} {row : Option Nat} (h : Dids w B A n xs) (hg : w.grownBy w' row) (hB : B ≤ w.heap.size) (hr : ∀ q, q < B → some q ≠ row) : Dids w' B A n xs := by
  have hb : Below B w w' := ⟨hg.os, hg.tape, hg.output, hg.size, fun k hk => hg.block k (by omega) (hr k hk)⟩
  exact h.below hb (Nat.le_refl _)
theorem wrgI_pos {l : List Int} (h : 0 ≤ wrgI l) : ∃ i, wrg l = some i ∧ wrgI l = (i : Int) := by
  unfold wrgI at h ⊢
  cases hw : wrg l with
  | none => rw [hw] at h; simp at h
  | some i => exact ⟨i, rfl, rfl⟩
theorem wrgI_neg {l : List Int} (h : ¬ 0 ≤ wrgI l) : wrg l = none := by
  unfold wrgI at h
  cases hw : wrg l with
  | none => rfl
  | some i => rw [hw] at h; exact absurd (Int.natCast_nonneg i) h

set_option maxHeartbeats 3200000 in
set_option maxRecDepth 100000 in
theorem rOrder_any (A O : Option Addr) (n c m d : Nat) (xs : List DidV) (zs : List Int) (B : Nat) (w : World) (hB : B ≤ w.heap.size) (hn : n ≤ 10000) (hm : m ≤ 10000) (hnc : n ≤ c) (h : Dids w B A n xs) (ho : Ints w B O m zs) :
    Calls Tryz.prog 24 #[.slice A n c, .slice O m d] w (OrdPost w n xs zs) := by
  have HL := hide h.1
  go_enter Tryz.func24, Tryz.ntmps24
  go_wp2
  go_loop [7] (fun i => ∃ k : Nat, k ≤ n ∧ i = .int .i64 k ∧ ∀ x ∈ xs.take k, 0 ≤ rank zs x) (fun i => n - (intOf i).toNat)
  case atStart => exact ⟨0, Nat.zero_le _, rfl, by simp⟩
  case round =>
    obtain ⟨k, hk, rfl, hall⟩ := hrel
    have HALL := hide hall
    clear hall
    by_cases hlt : k < n
    · obtain ⟨b, o, x, rfl, hb, hkx, hok, hcx⟩ := h.at_ hlt
      have c0 := (h.row hkx).1
      have HK := hide hkx
      clear hkx hok hcx
      by_cases hr : plc zs x.d.txn < 0
      · go_wp2_with (go_at_call 37; refine (place_any _ _ _ _ _ B _ (by omega) ho).mono ?_; rintro e w' ⟨rfl, rfl⟩)
        refine bodyPost_ret (results_tmp3 rfl _ _ _) rfl ?_
        exact ⟨Below.refl _ _, .inl ⟨⟨x, List.mem_of_getElem? HK.out, hr⟩, rfl⟩⟩
      · go_wp2_with (go_at_call 37; refine (place_any _ _ _ _ _ B _ (by omega) ho).mono ?_; rintro e w' ⟨rfl, rfl⟩)
        go_round
        case rel =>
          refine ⟨k + 1, by omega, by go_num, fun y hy => ?_⟩
          rw [take_snoc1 HK.out, List.mem_append, List.mem_singleton] at hy
          rcases hy with hy | rfl
          · exact HALL.out y hy
          · unfold rank; omega
        case measure => simp [intOf]; omega
    · have hall : ∀ x ∈ xs, 0 ≤ rank zs x := fun x hx => HALL.out x (by rw [List.take_of_length_le (by have := HL.out; omega)]; exact hx)
      have HA := hide hall
      clear hall
      go_wp2_with (go_at_call 38; refine (wrong_any _ _ _ _ _ _ _ _ B _ (by omega) (by omega) h ho).mono ?_; rintro e w' ⟨rfl, hq⟩)
      have hb0 : Below w.heap.size w w' := by obtain ⟨q, rfl⟩ := hq; exact below_of_drewN w q
      clear hq
      have hsz0 := hb0.size
      go_loopg [0, 8, 9] (invs (xs.map (rank zs))) (fun g l s i wr => ∃ (cur : List DidV) (sw c' : Nat) (A' : Option Addr), l = .slice A' n c' ∧ n ≤ c' ∧ Dids wr wr.heap.size A' n cur ∧ Mid comV (rank zs) xs cur sw ∧ s = .int .i64 (sw : Int) ∧ i = .int .i64 (wrgI (cur.map (rank zs))) ∧ Below w.heap.size w wr ∧ g = invs (cur.map (rank zs)))
      case atStart => exact ⟨xs, 0, c, A, rfl, hnc, (h.below hb0 hB).more (by omega), Mid.start _ _ _, rfl, rfl, hb0, rfl⟩
      case round =>
        obtain ⟨cur, sw, c', A', rfl, hnc', hD, hmid, rfl, rfl, hbw, hg⟩ := hrel
        have HG := hide hg
        have HMID := hide hmid
        have hsw : sw ≤ 100000000 := by
          have h1 := hmid.le
          have h2 := invs_le (xs.map (rank zs))
          have h3 : (xs.map (rank zs)).length ≤ 10000 := by simp; have := HL.out; omega
          have h4 := Nat.mul_le_mul h3 h3
          omega
        clear hg hmid
        have hwz := hbw.size
        have hO := ho.below hbw hB
        by_cases hpos : 0 ≤ wrgI (cur.map (rank zs))
        · obtain ⟨i, hwi, hi⟩ := wrgI_pos hpos
          rw [hi]
          have hcl : cur.length = n := hD.1.symm
          have hin : i + 1 < n := by
            obtain ⟨h1, _⟩ := wrg_some hwi
            rw [← hcl]
            simpa using h1
          have HWI := hide hwi
          clear hwi hi hpos
          obtain ⟨b, o, x, rfl, hb, hkx, hok, hc1⟩ := hD.at_ (show i < n by omega)
          obtain ⟨b', o', y, he, hb', hky, hok', hc2⟩ := hD.at_ hin
          clear he hc1 hc2 hb' b' o'
          have HCL := hide hcl
          clear hcl
          have R1 := fun (W : World) (hh : Dids W wr.heap.size (some ⟨b, o, none⟩) n cur) => hh.row hkx
          have R2 := fun (W : World) (hh : Dids W wr.heap.size (some ⟨b, o, none⟩) n cur) => hh.row hky
          obtain ⟨dx, dv, cv⟩ := x
          obtain ⟨dy, ev, fv⟩ := y
          dsimp only at *
          have HR1 := hide R1
          have HR2 := hide R2
          have HX := hide hkx
          have HY := hide hky
          have HOK := hide hok
          have HOK' := hide hok'
          clear R1 R2 hkx hky hok hok'
          have jD : Dids wr.drew wr.heap.size (some ⟨b, o, none⟩) n cur := hD.drewN 1
          go_wp2
          have s1 : IntKind.i64.wrap ((i : Int) + 1) = (i : Int) + 1 := IntWalk.i64_in _ (by omega)
          have s2 : (0 : Int) ≤ (i : Int) + 1 := by omega
          have s3 : ((i : Int) + 1).toNat = i + 1 := by omega
          have s4 : (i : Int) < n := by omega
          have s5 : (i : Int) + 1 < n := by omega
          cases hcom : commute dx.op dy.op
          · have hcc := fun W => rCommute_any dx.op dy.op dv ev W
            rw [hcom] at hcc
            have HCC := hide hcc
            clear hcc
            go_region_held3 (fun w' => (w'.cell? ⟨b, o + i * 13, none⟩ = some (.int .i64 dx.txn) ∧ w'.cell? ⟨b, o + i * 13 + 1, none⟩ = some (.int .i64 dx.op.act) ∧ w'.cell? ⟨b, o + i * 13 + 1 + 1, none⟩ = some (.string dx.op.key) ∧ w'.cell? ⟨b, o + i * 13 + 1 + 2, none⟩ = some (dv) ∧ w'.cell? ⟨b, o + i * 13 + 1 + 3, none⟩ = some (.int .i64 dx.op.lo) ∧ w'.cell? ⟨b, o + i * 13 + 1 + 4, none⟩ = some (.int .i64 dx.op.hi) ∧ w'.cell? ⟨b, o + i * 13 + 1 + 5, none⟩ = some (.int .i64 dx.op.n) ∧ w'.cell? ⟨b, o + i * 13 + 7, none⟩ = some (.int .i64 dx.err) ∧ w'.cell? ⟨b, o + i * 13 + 7 + 1, none⟩ = some (.int .i64 dx.cell.kind) ∧ w'.cell? ⟨b, o + i * 13 + 7 + 2, none⟩ = some (cv) ∧ w'.cell? ⟨b, o + i * 13 + 7 + 3, none⟩ = some (.int .i64 dx.cell.lo) ∧ w'.cell? ⟨b, o + i * 13 + 7 + 4, none⟩ = some (.int .i64 dx.cell.hi) ∧ w'.cell? ⟨b, o + i * 13 + 7 + 5, none⟩ = some (.int .i64 dx.cell.val)) ∧ (w'.cell? ⟨b, o + (i + 1) * 13, none⟩ = some (.int .i64 dy.txn) ∧ w'.cell? ⟨b, o + (i + 1) * 13 + 1, none⟩ = some (.int .i64 dy.op.act) ∧ w'.cell? ⟨b, o + (i + 1) * 13 + 1 + 1, none⟩ = some (.string dy.op.key) ∧ w'.cell? ⟨b, o + (i + 1) * 13 + 1 + 2, none⟩ = some (ev) ∧ w'.cell? ⟨b, o + (i + 1) * 13 + 1 + 3, none⟩ = some (.int .i64 dy.op.lo) ∧ w'.cell? ⟨b, o + (i + 1) * 13 + 1 + 4, none⟩ = some (.int .i64 dy.op.hi) ∧ w'.cell? ⟨b, o + (i + 1) * 13 + 1 + 5, none⟩ = some (.int .i64 dy.op.n) ∧ w'.cell? ⟨b, o + (i + 1) * 13 + 7, none⟩ = some (.int .i64 dy.err) ∧ w'.cell? ⟨b, o + (i + 1) * 13 + 7 + 1, none⟩ = some (.int .i64 dy.cell.kind) ∧ w'.cell? ⟨b, o + (i + 1) * 13 + 7 + 2, none⟩ = some (fv) ∧ w'.cell? ⟨b, o + (i + 1) * 13 + 7 + 3, none⟩ = some (.int .i64 dy.cell.lo) ∧ w'.cell? ⟨b, o + (i + 1) * 13 + 7 + 4, none⟩ = some (.int .i64 dy.cell.hi) ∧ w'.cell? ⟨b, o + (i + 1) * 13 + 7 + 5, none⟩ = some (.int .i64 dy.cell.val)))
              (first | exact ⟨HR1.out _ jD', HR2.out _ jD'⟩ | exact ⟨HR1.out _ jD, HR2.out _ jD⟩)
              (first | (go_at_call 39; refine (HCC.out _).mono ?_; rintro e w1 ⟨rfl, hb1⟩; have jD' := jD.below hb1 (Nat.le_refl _)))
            all_goals go_wp2
            refine bodyPost_ret (results_tmp3 rfl _ _ _) rfl ?_
            refine ⟨below_via hbw.drew hb1 hwz, .inr ⟨HA.out, .inl ⟨HMID.out.stop HWI.out HX.out HY.out hcom, rfl⟩⟩⟩
          · have hcc := fun W => rCommute_any dx.op dy.op dv ev W
            rw [hcom] at hcc
            have HCC := hide hcc
            clear hcc
            go_region_held3 (fun w' => (w'.cell? ⟨b, o + i * 13, none⟩ = some (.int .i64 dx.txn) ∧ w'.cell? ⟨b, o + i * 13 + 1, none⟩ = some (.int .i64 dx.op.act) ∧ w'.cell? ⟨b, o + i * 13 + 1 + 1, none⟩ = some (.string dx.op.key) ∧ w'.cell? ⟨b, o + i * 13 + 1 + 2, none⟩ = some (dv) ∧ w'.cell? ⟨b, o + i * 13 + 1 + 3, none⟩ = some (.int .i64 dx.op.lo) ∧ w'.cell? ⟨b, o + i * 13 + 1 + 4, none⟩ = some (.int .i64 dx.op.hi) ∧ w'.cell? ⟨b, o + i * 13 + 1 + 5, none⟩ = some (.int .i64 dx.op.n) ∧ w'.cell? ⟨b, o + i * 13 + 7, none⟩ = some (.int .i64 dx.err) ∧ w'.cell? ⟨b, o + i * 13 + 7 + 1, none⟩ = some (.int .i64 dx.cell.kind) ∧ w'.cell? ⟨b, o + i * 13 + 7 + 2, none⟩ = some (cv) ∧ w'.cell? ⟨b, o + i * 13 + 7 + 3, none⟩ = some (.int .i64 dx.cell.lo) ∧ w'.cell? ⟨b, o + i * 13 + 7 + 4, none⟩ = some (.int .i64 dx.cell.hi) ∧ w'.cell? ⟨b, o + i * 13 + 7 + 5, none⟩ = some (.int .i64 dx.cell.val)) ∧ (w'.cell? ⟨b, o + (i + 1) * 13, none⟩ = some (.int .i64 dy.txn) ∧ w'.cell? ⟨b, o + (i + 1) * 13 + 1, none⟩ = some (.int .i64 dy.op.act) ∧ w'.cell? ⟨b, o + (i + 1) * 13 + 1 + 1, none⟩ = some (.string dy.op.key) ∧ w'.cell? ⟨b, o + (i + 1) * 13 + 1 + 2, none⟩ = some (ev) ∧ w'.cell? ⟨b, o + (i + 1) * 13 + 1 + 3, none⟩ = some (.int .i64 dy.op.lo) ∧ w'.cell? ⟨b, o + (i + 1) * 13 + 1 + 4, none⟩ = some (.int .i64 dy.op.hi) ∧ w'.cell? ⟨b, o + (i + 1) * 13 + 1 + 5, none⟩ = some (.int .i64 dy.op.n) ∧ w'.cell? ⟨b, o + (i + 1) * 13 + 7, none⟩ = some (.int .i64 dy.err) ∧ w'.cell? ⟨b, o + (i + 1) * 13 + 7 + 1, none⟩ = some (.int .i64 dy.cell.kind) ∧ w'.cell? ⟨b, o + (i + 1) * 13 + 7 + 2, none⟩ = some (fv) ∧ w'.cell? ⟨b, o + (i + 1) * 13 + 7 + 3, none⟩ = some (.int .i64 dy.cell.lo) ∧ w'.cell? ⟨b, o + (i + 1) * 13 + 7 + 4, none⟩ = some (.int .i64 dy.cell.hi) ∧ w'.cell? ⟨b, o + (i + 1) * 13 + 7 + 5, none⟩ = some (.int .i64 dy.cell.val)))
              (first | exact ⟨HR1.out _ jD', HR2.out _ jD'⟩ | exact ⟨HR1.out _ jD, HR2.out _ jD⟩)
              (first | (go_at_call 39; refine (HCC.out _).mono ?_; rintro e w1 ⟨rfl, hb1⟩; have jD' := jD.below hb1 (Nat.le_refl _)))
            have hb01 : Below w.heap.size w w1 := below_via hbw.drew hb1 hwz
            have hz01 : wr.heap.size ≤ w1.heap.size := hb1.size
            have D1 : Dids w1 wr.heap.size (some ⟨b, o, none⟩) n cur := jD'
            clear jD' jD
            obtain ⟨i0, hi, hz0, hz1, hz2⟩ := info_parts info_did
            have r1 := (D1.2.1.take (k := i) (by omega)).alloc hz01 (.cells #[] 38)
            rw [flat_take _ 13 DidV.cells_length] at r1
            have o1 := D1.one (ys := cur.take i) (fun y hy => List.mem_of_mem_take hy)
            go_wp2_with (at_builtin; refine wpList_append_any _ rfl (.tmp 43) (.tmp 46) _ rfl w1.heap.size 38 i0 _ 13 144 Tryz.underlying39 hi hz0 hz1 hz2 rfl (by omega) _ 0 [] rfl (World.ownsRow_made w1 #[] 0 (Nat.le_refl _) (Nat.zero_le _) rfl) wr.heap.size (some ⟨b, o, none⟩) i c' _ rfl r1 o1 (by unfold maxLen; omega) (by omega) (by simp) ?_; intro v2 w2 hown2 hg2 hat2)
            simp only [Nat.zero_add, List.nil_append] at hown2
            have hb12 : Below w1.heap.size w1 w2 := ((Below.refl _ _).alloc (Nat.le_refl _) _).grown hg2 (by simp) (fun q hq => by cases hq; exact Nat.le_refl _)
            have hz12 := hb12.size
            have D2 := D1.below hb12 hz01
            have j2 : Dids w2.drew wr.heap.size (some ⟨b, o, none⟩) n cur := D2.drewN 1
            have j3 : ∀ o, Dids (w2.alloc o).drew wr.heap.size (some ⟨b, _, none⟩) n cur := fun o => (D2.below (w' := w2.alloc o) ((Below.refl wr.heap.size w2).alloc (by omega) o) (Nat.le_refl _)).drewN 1
            have hcell2 : ∀ u ∈ (DidV.cells ⟨dy, ev, fv⟩ ++ DidV.cells ⟨dx, dv, cv⟩), u.oneCell' = true := fun u hu => by
              rcases List.mem_append.1 hu with hu | hu
              · exact HOK'.out.one u hu
              · exact HOK.out.one u hu
            clear r1 o1
            have hv2 : ∀ q, v2.ownBlock = some q → w1.heap.size ≤ q ∧ q < w2.heap.size := hown2.lt
            have hfar : ∀ (q : Nat), q < wr.heap.size → some q ≠ v2.ownBlock := fun q hq e => by have := (hv2 q e.symm).1; omega
            have HFAR := hide hfar
            have HV2 := hide hv2
            have HC2 := hide hcell2
            have HJ3 := hide j3
            clear hfar hv2 hcell2 j3
            go_region_held3 (fun w' => (w'.cell? ⟨b, o + i * 13, none⟩ = some (.int .i64 dx.txn) ∧ w'.cell? ⟨b, o + i * 13 + 1, none⟩ = some (.int .i64 dx.op.act) ∧ w'.cell? ⟨b, o + i * 13 + 2, none⟩ = some (.string dx.op.key) ∧ w'.cell? ⟨b, o + i * 13 + 3, none⟩ = some (dv) ∧ w'.cell? ⟨b, o + i * 13 + 4, none⟩ = some (.int .i64 dx.op.lo) ∧ w'.cell? ⟨b, o + i * 13 + 5, none⟩ = some (.int .i64 dx.op.hi) ∧ w'.cell? ⟨b, o + i * 13 + 6, none⟩ = some (.int .i64 dx.op.n) ∧ w'.cell? ⟨b, o + i * 13 + 7, none⟩ = some (.int .i64 dx.err) ∧ w'.cell? ⟨b, o + i * 13 + 8, none⟩ = some (.int .i64 dx.cell.kind) ∧ w'.cell? ⟨b, o + i * 13 + 9, none⟩ = some (cv) ∧ w'.cell? ⟨b, o + i * 13 + 10, none⟩ = some (.int .i64 dx.cell.lo) ∧ w'.cell? ⟨b, o + i * 13 + 11, none⟩ = some (.int .i64 dx.cell.hi) ∧ w'.cell? ⟨b, o + i * 13 + 12, none⟩ = some (.int .i64 dx.cell.val)) ∧ (w'.cell? ⟨b, o + (i + 1) * 13, none⟩ = some (.int .i64 dy.txn) ∧ w'.cell? ⟨b, o + (i + 1) * 13 + 1, none⟩ = some (.int .i64 dy.op.act) ∧ w'.cell? ⟨b, o + (i + 1) * 13 + 2, none⟩ = some (.string dy.op.key) ∧ w'.cell? ⟨b, o + (i + 1) * 13 + 3, none⟩ = some (ev) ∧ w'.cell? ⟨b, o + (i + 1) * 13 + 4, none⟩ = some (.int .i64 dy.op.lo) ∧ w'.cell? ⟨b, o + (i + 1) * 13 + 5, none⟩ = some (.int .i64 dy.op.hi) ∧ w'.cell? ⟨b, o + (i + 1) * 13 + 6, none⟩ = some (.int .i64 dy.op.n) ∧ w'.cell? ⟨b, o + (i + 1) * 13 + 7, none⟩ = some (.int .i64 dy.err) ∧ w'.cell? ⟨b, o + (i + 1) * 13 + 8, none⟩ = some (.int .i64 dy.cell.kind) ∧ w'.cell? ⟨b, o + (i + 1) * 13 + 9, none⟩ = some (fv) ∧ w'.cell? ⟨b, o + (i + 1) * 13 + 10, none⟩ = some (.int .i64 dy.cell.lo) ∧ w'.cell? ⟨b, o + (i + 1) * 13 + 11, none⟩ = some (.int .i64 dy.cell.hi) ∧ w'.cell? ⟨b, o + (i + 1) * 13 + 12, none⟩ = some (.int .i64 dy.cell.val)))
              (first
                | exact ⟨HR1.out _ j4, HR2.out _ j4⟩
                | exact ⟨HR1.out _ (HJ3.out _), HR2.out _ (HJ3.out _)⟩
                | exact ⟨HR1.out _ j2, HR2.out _ j2⟩)
              ((refine step_append_any _ (by rfl) (.tmp 48) (.tmp 58) _ (by rfl) w1.heap.size 38 i0 _ 13 144 Tryz.underlying39 hi hz0 hz1 hz2 rfl (by omega) v2 i _ (by rfl) (hown2.alloc _).drew (w2.heap.size + 1) (some ⟨w2.heap.size, 0, none⟩) 2 2 (DidV.cells ⟨dy, ev, fv⟩ ++ DidV.cells ⟨dx, dv, cv⟩) (by rfl) (Reads.of_blk (Blk.new w2 38 _).drew rfl) HC2.out (by unfold maxLen; omega) (by omega) (by simp; omega) ?_; intro v3 w3 hown3 hg3 hat3; have j4 : Dids w3 wr.heap.size (some ⟨b, o, none⟩) n cur := (HJ3.out _).keep_ hg3 (by simp; omega) HFAR.out))
            clear s1 s2 s3
            have hz23 := hg3.size
            have hz23' : w2.heap.size + 1 ≤ w3.heap.size := by simpa using hz23
            have hv3 := hown3.lt
            have hin2 : (i : Int) + 2 ≤ n := by omega
            have r4b : Reads w3 wr.heap.size 13 (some ⟨b, o + (i + 2) * 13, none⟩) (n - (i + 2)) ((cur.drop (i + 2)).flatMap DidV.cells) := by
              have h1 := j4.2.1.cut (k := i + 2) (cap := i + 3 + n) (by omega) (by omega)
              rw [if_neg (by omega), flat_drop _ 13 DidV.cells_length] at h1
              simpa [add_plain] using h1
            have r4a : c' = i + 2 → Reads w3 wr.heap.size 13 (some ⟨b, o, none⟩) (n - (i + 2)) ((cur.drop (i + 2)).flatMap DidV.cells) := fun hce => ⟨r4b.1, fun hpos => by omega⟩
            have o4 := j4.one (ys := cur.drop (i + 2)) (fun y hy => List.mem_of_mem_drop hy)
            have R4A := hide r4a
            have R4B := hide r4b
            have hbf : ∀ (v4 : Value) (w4 : World), w4.ownsRow w1.heap.size 38 13 v4 n ((swp cur i).flatMap DidV.cells) → w3.grownBy w4 v3.ownBlock → ∃ (A4 : Option Addr) (c4 : Nat), v4 = .slice A4 n c4 ∧ n ≤ c4 ∧ Dids w4 w4.heap.size A4 n (swp cur i) ∧ Below w.heap.size w w4 := by
              intro v4 w4 hown4 hg4
              have hfar3 : ∀ q, q < wr.heap.size → some q ≠ v3.ownBlock := fun q hq e => by have := (hv3 q e.symm).1; omega
              have j5 : Dids w4 wr.heap.size (some ⟨b, o, none⟩) n cur := j4.keep_ hg4 (by omega) hfar3
              obtain ⟨A4, c4, rfl, hnc4, _, _, hr4, _⟩ := own_slice hown4
              have hz4 := hg4.size
              refine ⟨A4, c4, rfl, hnc4, (j5.more (B' := w4.heap.size) (by omega)).perm (swp_perm cur i) hr4, ?_⟩
              have k2 : Below w.heap.size w w2 := hb01.trans (hb12.mono (by omega))
              have k3 : Below w.heap.size w w3 := ((k2.alloc k2.size _).drew).grown hg3 (by have := k2.size; simp; omega) (fun q hq => by have := HV2.out q hq; omega)
              exact k3.grown hg4 (by omega) (fun q hq => by have := hv3 q hq; omega)
            have HBF := hide hbf
            have hlist : (cur.take i).flatMap DidV.cells ++ (DidV.cells ⟨dy, ev, fv⟩ ++ DidV.cells ⟨dx, dv, cv⟩) ++ (cur.drop (i + 2)).flatMap DidV.cells = (swp cur i).flatMap DidV.cells := by
              obtain ⟨h1, e1⟩ := List.getElem?_eq_some_iff.1 HX.out
              obtain ⟨h2, e2⟩ := List.getElem?_eq_some_iff.1 HY.out
              rw [swp_parts cur i h2, e1, e2]
              simp
            have HLIST := hide hlist
            have hle : i + 2 + (n - (i + 2)) = n := by omega
            have HLE := hide hle
            clear r4a r4b hbf hlist hle
            by_cases hce : c' = i + 2
            · have r4 := R4A.out hce
              subst hce
              have R4 := hide r4
              clear r4
              go_wp2_with (first
                | (at_builtin; refine wpList_append_any _ rfl (.tmp 60) (.tmp 64) _ rfl w1.heap.size 38 i0 _ 13 144 Tryz.underlying39 hi hz0 hz1 hz2 rfl (by omega) v3 (i + 2) _ rfl hown3 wr.heap.size _ _ _ ((cur.drop (i + 2)).flatMap DidV.cells) rfl R4.out o4 (by unfold maxLen; omega) (by omega) (by omega) ?_; intro v4 w4 hown4 hg4 hat4; rw [HLE.out, HLIST.out] at hown4; obtain ⟨A4, c4, hv4, hnc4, hD4, hb4⟩ := HBF.out v4 w4 hown4 hg4; clear hown4 hg4 hat4; subst hv4)
                | (go_at_call 38; refine (wrong_any _ _ _ _ _ _ _ _ w4.heap.size _ (by omega) (by omega) hD4 ((ho.below hb4 hB).more (by have := hb4.size; omega))).mono ?_; rintro e w5 ⟨rfl, hq5⟩))
              have hb5 : Below w.heap.size w w5 := by obtain ⟨q, rfl⟩ := hq5; exact below_drewN hb4 q
              have hD5 : Dids w5 w5.heap.size A4 n (swp cur i) := by obtain ⟨q, rfl⟩ := hq5; exact hD4.drewN q
              obtain ⟨hm5, hi5⟩ := HMID.out.step HWI.out HX.out HY.out hcom
              go_roundg (invs ((swp cur i).map (rank zs)))
              case measure => have := HG.out; omega
              case rel => exact ⟨swp cur i, sw + 1, c4, A4, rfl, hnc4, hD5, hm5, by go_num, rfl, hb5, rfl⟩
            · have r4 := R4B.out
              have R4 := hide r4
              clear r4
              go_wp2_with (first
                | (at_builtin; refine wpList_append_any _ rfl (.tmp 60) (.tmp 64) _ rfl w1.heap.size 38 i0 _ 13 144 Tryz.underlying39 hi hz0 hz1 hz2 rfl (by omega) v3 (i + 2) _ rfl hown3 wr.heap.size _ _ _ ((cur.drop (i + 2)).flatMap DidV.cells) rfl R4.out o4 (by unfold maxLen; omega) (by omega) (by omega) ?_; intro v4 w4 hown4 hg4 hat4; rw [HLE.out, HLIST.out] at hown4; obtain ⟨A4, c4, hv4, hnc4, hD4, hb4⟩ := HBF.out v4 w4 hown4 hg4; clear hown4 hg4 hat4; subst hv4)
                | (go_at_call 38; refine (wrong_any _ _ _ _ _ _ _ _ w4.heap.size _ (by omega) (by omega) hD4 ((ho.below hb4 hB).more (by have := hb4.size; omega))).mono ?_; rintro e w5 ⟨rfl, hq5⟩))
              have hb5 : Below w.heap.size w w5 := by obtain ⟨q, rfl⟩ := hq5; exact below_drewN hb4 q
              have hD5 : Dids w5 w5.heap.size A4 n (swp cur i) := by obtain ⟨q, rfl⟩ := hq5; exact hD4.drewN q
              obtain ⟨hm5, hi5⟩ := HMID.out.step HWI.out HX.out HY.out hcom
              go_roundg (invs ((swp cur i).map (rank zs)))
              case measure => have := HG.out; omega
              case rel => exact ⟨swp cur i, sw + 1, c4, A4, rfl, hnc4, hD5, hm5, by go_num, rfl, hb5, rfl⟩
        · have hwn := wrgI_neg hpos
          obtain ⟨h1, h2, h3⟩ := HMID.out.done hwn
          have H123 := hide (And.intro h1 (And.intro h2 h3))
          clear h1 h2 h3 hwn
          go_wp2
          refine bodyPost_ret (results_tmp3 rfl _ _ _) rfl ?_
          obtain ⟨h1, h2, h3⟩ := H123.out
          exact ⟨hbw, .inr ⟨HA.out, .inr ⟨cur, cur, A', c', h1, rfl, h3, by rw [h2]; rfl, hD⟩⟩⟩
end Go.Proofs.YtkhpkclkjklccaaGreatDoor
