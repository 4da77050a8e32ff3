/-
  WALK: moneyerref09.move.
-/
import Derived.Test.YteidmdnhkgcnoaaGreatMF
import Derived.Test.YteidmdnhkgcnoaaGreatMB
import Derived.Deep.DeepCutAuto
import Derived.Deep.DrawnRows
namespace Go.Proofs.YteidmdnhkgcnoaaGreat
open Go.RowKit BigFrame
attribute [local go_sem ↓] Go.wp_at_zero Go.wp_at_succ

/-- What a counter's move gives. -/
def moveV (x : OpD) (c : CellD) : Int := if x.act = 5 then c.val - x.n else c.val + x.n
def moveR (x : OpD) (c : CellD) : CellD × Int :=
  if c.kind ≠ 2 then (c, 6) else if moveV x c < c.lo ∨ c.hi < moveV x c then (c, 8) else ({ c with val := moveV x c }, 0)

/-- What lies in memory while move goes: the operation, the cell, the result. -/
structure MvSt (w : World) (x : OpD) (c : CellD) (v1 v2 : Value) (W : World) : Prop where
  k0 : Blk W w.heap.size 31 #[.int .i64 x.act, .string x.key, v1, .int .i64 x.lo, .int .i64 x.hi, .int .i64 x.n]
  k1 : Blk W (w.heap.size + 1) 34 #[.int .i64 c.kind, v2, .int .i64 c.lo, .int .i64 c.hi, .int .i64 c.val]
  k2 : Blk W (w.heap.size + 2) 34 #[.int .i64 0, .slice none 0 0, .int .i64 0, .int .i64 0, .int .i64 0]
  b : Below w.heap.size w W
section
variable {w W W' : World} {x : OpD} {c : CellD} {v1 v2 : Value}
theorem MvSt.lt (h : MvSt w x c v1 v2 W) : w.heap.size + 3 ≤ W.heap.size := h.k2.lt
theorem MvSt.drew (h : MvSt w x c v1 v2 W) : MvSt w x c v1 v2 W.drew := ⟨h.k0, h.k1, h.k2, h.b.drew⟩
theorem MvSt.alloc (h : MvSt w x c v1 v2 W) (o : Obj) : MvSt w x c v1 v2 (W.alloc o) := ⟨h.k0.alloc _, h.k1.alloc _, h.k2.alloc _, h.b.alloc (by have := h.lt; omega) _⟩
theorem MvSt.via (h : MvSt w x c v1 v2 W) (hb : Below W.heap.size W W') : MvSt w x c v1 v2 W' := ⟨Blk.via hb h.k0, Blk.via hb h.k1, Blk.via hb h.k2, below_via h.b hb (by have := h.lt; omega)⟩
theorem MvSt.set (h : MvSt w x c v1 v2 W) {g i : Nat} (hg : w.heap.size + 3 ≤ g) (u : Value) : MvSt w x c v1 v2 (W.setCell ⟨g, i, none⟩ u) :=
  ⟨h.k0.far (by simp; omega) _, h.k1.far (by simp; omega) _, h.k2.far (by simp; omega) _, h.b.setCell (by simp; omega) _⟩
theorem MvSt.two (h : MvSt w x c v1 v2 W) : W.cell? ⟨w.heap.size, 5, none⟩ = some (.int .i64 x.n) ∧ W.cell? ⟨w.heap.size + 1, 4, none⟩ = some (.int .i64 c.val) := ⟨h.k0.cell 5, h.k1.cell 4⟩
theorem MvSt.start (w : World) (x : OpD) (c : CellD) (v1 v2 : Value) : MvSt w x c v1 v2 (((w.alloc (.cells #[.int .i64 x.act, .string x.key, v1, .int .i64 x.lo, .int .i64 x.hi, .int .i64 x.n] 31)).alloc (.cells #[.int .i64 c.kind, v2, .int .i64 c.lo, .int .i64 c.hi, .int .i64 c.val] 34)).alloc (.cells #[.int .i64 0, .slice none 0 0, .int .i64 0, .int .i64 0, .int .i64 0] 34)) :=
  ⟨((Blk.new w _ _).alloc _).alloc _, (show Blk ((w.alloc (.cells #[.int .i64 x.act, .string x.key, v1, .int .i64 x.lo, .int .i64 x.hi, .int .i64 x.n] 31)).alloc (.cells #[.int .i64 c.kind, v2, .int .i64 c.lo, .int .i64 c.hi, .int .i64 c.val] 34)) (w.heap.size + 1) 34 _ by simpa using Blk.new (w.alloc (.cells #[.int .i64 x.act, .string x.key, v1, .int .i64 x.lo, .int .i64 x.hi, .int .i64 x.n] 31)) 34 #[.int .i64 c.kind, v2, .int .i64 c.lo, .int .i64 c.hi, .int .i64 c.val]).alloc _,
   by simpa using Blk.new ((w.alloc (.cells #[.int .i64 x.act, .string x.key, v1, .int .i64 x.lo, .int .i64 x.hi, .int .i64 x.n] 31)).alloc (.cells #[.int .i64 c.kind, v2, .int .i64 c.lo, .int .i64 c.hi, .int .i64 c.val] 34)) 34 #[.int .i64 0, .slice none 0 0, .int .i64 0, .int .i64 0, .int .i64 0],
   (below2 _ _ _).alloc (by simp; omega) _⟩
theorem genM {R : World → Prop} (h : MvSt w x c v1 v2 W) (k : ∀ W, MvSt w x c v1 v2 W → R W) : R W := k W h
end
/-- Behind the sum: it lies in a block of its own. -/
def MvN (w : World) (x : OpD) (c : CellD) (v1 v2 : Value) (v : Int) (s : Value) (W : World) : Prop :=
  ∃ g : Nat, s = .pointer (some ⟨g, 0, none⟩) ∧ w.heap.size + 3 ≤ g ∧ Blk W g 132 #[.int .i64 (v / 4294967296), .int .i64 (v % 4294967296)] ∧ MvSt w x c v1 v2 W
theorem MvN.new {w : World} {x : OpD} {c : CellD} {v1 v2 : Value} {v : Int} {W : World} (h : MvSt w x c v1 v2 W) : MvN w x c v1 v2 v (.pointer (some ⟨W.heap.size, 0, none⟩)) (W.alloc (.cells #[.int .i64 (v / 4294967296), .int .i64 (v % 4294967296)] 132)) :=
  ⟨_, rfl, h.lt, Blk.new _ _ _, h.alloc _⟩
theorem MvN.set {w : World} {x : OpD} {c : CellD} {v1 v2 : Value} {v : Int} {W : World} {g : Nat} {a b : Value} (h : MvSt w x c v1 v2 W) (k : Blk W g 132 #[a, b]) (hg : w.heap.size + 3 ≤ g) :
    MvN w x c v1 v2 v (.pointer (some ⟨g, 0, none⟩)) ((W.setCell ⟨g, 0, none⟩ (.int .i64 (v / 4294967296))).setCell ⟨g, 1, none⟩ (.int .i64 (v % 4294967296))) :=
  ⟨_, rfl, hg, (k.set_ 0 _).set_ 1 _, (h.set hg _).set hg _⟩


set_option maxHeartbeats 2000000 in
set_option maxRecDepth 100000 in
theorem mMove_any (x : OpD) (c : CellD) (A1 : Option Addr) (n1 c1 : Nat) (A2 : Option Addr) (n2 c2 : Nat) (w : World)
    (h1 : -9223372036854775808 ≤ x.n ∧ x.n ≤ 9223372036854775807) (h2 : -9223372036854775808 ≤ c.val ∧ c.val ≤ 9223372036854775807) (h3 : -9223372036854775808 ≤ c.lo ∧ c.lo ≤ 9223372036854775807) (h4 : -9223372036854775808 ≤ c.hi ∧ c.hi ≤ 9223372036854775807) :
    Calls Tryz.prog 69 #[.agg #[.int .i64 x.act, .string x.key, .slice A1 n1 c1, .int .i64 x.lo, .int .i64 x.hi, .int .i64 x.n], mkCell c (.slice A2 n2 c2)] w fun e w' => e = .returned (.tuple #[mkCell (moveR x c).1 (.slice A2 n2 c2), .int .i64 (moveR x c).2]) ∧ Below w.heap.size w w' := by
  unfold mkCell
  by_cases hk : c.kind = 2
  · have hkb : (c.kind != 2) = false := by simp [hk]
    have HK := hide hk
    clear hk
    go_enter Tryz.func69, Tryz.ntmps69
    go_wp2
    refine genM (MvSt.start w x c (.slice A1 n1 c1) (.slice A2 n2 c2)) (fun W jS => ?_)
    go_cut [6] (fun s6 wx => MvN w x c (.slice A1 n1 c1) (.slice A2 n2 c2) (c.val + x.n) s6 wx)
    case first =>
      have jS0 := jS.drew
      go_region_held3 (fun w' => w'.cell? ⟨w.heap.size, 5, none⟩ = some (.int .i64 x.n) ∧ w'.cell? ⟨w.heap.size + 1, 4, none⟩ = some (.int .i64 c.val))
        (first | exact MvSt.two (by assumption) | exact MvSt.two (MvSt.alloc (by assumption) _) | exact MvSt.two (MvSt.set (MvSt.set (by assumption) (MvSt.lt (by assumption)) _) (MvSt.lt (by assumption)) _))
        (first
          | (go_at_call 89; refine (wOf_any _ _ (by omega) (by omega)).mono ?_; rintro e w' ⟨rfl, hbx⟩; have jS' := MvSt.via (w := w) (x := x) (c := c) (by first | assumption | exact MvSt.alloc (by assumption) _) hbx; (try (have jN' := Blk.via (t := 132) hbx (by first | exact Blk.new _ _ _ | assumption); have jN0 := jN'.cell; have jN1 := jN'.frozen)))
          | (go_at_call 88; refine (wJoin_any c.val x.n _ (by omega) (by omega) (by omega) (by omega)).mono ?_; rintro e w' ⟨rfl, hbx⟩; have jS' := MvSt.via (w := w) (x := x) (c := c) (by first | assumption | exact MvSt.alloc (by assumption) _) hbx; (try (have jN' := Blk.via (t := 132) hbx (by first | exact Blk.new _ _ _ | assumption); have jN0 := jN'.cell; have jN1 := jN'.frozen))))
      all_goals (go_wp2_with fail; go_meet)
      all_goals (first | exact MvN.new (by assumption) | exact MvN.set (by assumption) (by assumption) (MvSt.lt (by assumption)))
    case rest =>
      obtain ⟨g, rfl, hg, kN, jS2⟩ := hcut
      clear jS
      have q0 := jS2.k0.cell
      go_upto_if 22 with fail
      clear q0
      go_cut [6] (fun s6 wx => MvN w x c (.slice A1 n1 c1) (.slice A2 n2 c2) (moveV x c) s6 wx)
      case first =>
        by_cases h5 : x.act = 5
        · have HV : Hid (moveV x c = c.val - x.n) := hide (by unfold moveV; rw [if_pos h5])
          have h5b : (x.act == 5) = true := by simp [h5]
          clear h5
          go_wp2
          clear h5b
          have jS0 := jS2.drew
          have kN0 := kN.drew
          go_region_held3 (fun w' => w'.cell? ⟨w.heap.size, 5, none⟩ = some (.int .i64 x.n) ∧ w'.cell? ⟨w.heap.size + 1, 4, none⟩ = some (.int .i64 c.val))
            (first | exact MvSt.two (by assumption) | exact MvSt.two (MvSt.set (MvSt.set (by assumption) (by assumption) _) (by assumption) _))
            (first
              | (go_at_call 89; refine (wOf_any _ _ (by omega) (by omega)).mono ?_; rintro e w' ⟨rfl, hbx⟩; have jS' := MvSt.via (w := w) (x := x) (c := c) (by first | assumption | exact MvSt.alloc (by assumption) _) hbx; (try (have jN' := Blk.via (t := 132) hbx (by first | exact Blk.new _ _ _ | assumption); have jN0 := jN'.cell; have jN1 := jN'.frozen)))
              | (go_at_call 90; refine (wTake_any c.val x.n _ (by omega) (by omega) (by omega) (by omega)).mono ?_; rintro e w' ⟨rfl, hbx⟩; have jS' := MvSt.via (w := w) (x := x) (c := c) (by first | assumption | exact MvSt.alloc (by assumption) _) hbx; (try (have jN' := Blk.via (t := 132) hbx (by first | exact Blk.new _ _ _ | assumption); have jN0 := jN'.cell; have jN1 := jN'.frozen))))
          all_goals (go_wp2_with fail; go_meet; rw [HV.out]; exact MvN.set (by assumption) (by assumption) (by assumption))
        · have HV : Hid (moveV x c = c.val + x.n) := hide (by unfold moveV; rw [if_neg h5])
          have h5b : (x.act == 5) = false := by simp [h5]
          clear h5
          go_wp2
          go_meet
          rw [HV.out]
          exact ⟨g, rfl, hg, kN, jS2⟩
      case rest =>
        obtain ⟨g', rfl, hg', kN', jS3⟩ := hcut
        clear kN jS2 hg
        rename World => wq
        have hv : -100000000000000000000 ≤ moveV x c ∧ moveV x c ≤ 100000000000000000000 := by unfold moveV; split <;> omega
        have HR : Hid (moveR x c = if moveV x c < c.lo ∨ c.hi < moveV x c then (c, 8) else ({ c with val := moveV x c }, 0)) := hide (by unfold moveR; rw [if_neg (by simp [HK.out])])
        generalize moveV x c = v at *
        go_wp2_with fail
        have d0 : ∀ t : In (Below wq.heap.size wq), t.w.cell? ⟨g', 0, none⟩ = some (.int .i64 (v / 4294967296)) := fun t => (Blk.via t.h kN').cell 0
        have d1 : ∀ t : In (Below wq.heap.size wq), t.w.cell? ⟨g', 1, none⟩ = some (.int .i64 (v % 4294967296)) := fun t => (Blk.via t.h kN').cell 1
        have d2 : ∀ t : In (Below wq.heap.size wq), t.w.cell? ⟨w.heap.size + 1, 2, none⟩ = some (.int .i64 c.lo) := fun t => (Blk.via t.h jS3.k1).cell 2
        have d3 : ∀ t : In (Below wq.heap.size wq), t.w.cell? ⟨w.heap.size + 1, 3, none⟩ = some (.int .i64 c.hi) := fun t => (Blk.via t.h jS3.k1).cell 3
        have HL := hide (fun (b : Bool) (hb : decide (v < c.lo) = b) (W : World) => hb ▸ wLess_any v c.lo W)
        have HH := hide (fun (b : Bool) (hb : decide (c.hi < v) = b) (W : World) => hb ▸ wLess_any c.hi v W)
        have HOl := hide (fun W => wOf_any c.lo W h3.1 h3.2)
        have HOh := hide (fun W => wOf_any c.hi W h4.1 h4.2)
        have HI := hide (fun (hlo : c.lo ≤ v) (hhi : v ≤ c.hi) W => wInt_any v W (by omega) (by omega))
        generalize v / 4294967296 = vh at *
        generalize v % 4294967296 = vl at *
        generalize c.lo / 4294967296 = lh at *
        generalize c.lo % 4294967296 = ll at *
        generalize c.hi / 4294967296 = hh at *
        generalize c.hi % 4294967296 = hl at *
        cases hlo : decide (v < c.lo)
        · cases hhi : decide (c.hi < v)
          · have hlo' : c.lo ≤ v := by simpa using hlo
            have hhi' : v ≤ c.hi := by simpa using hhi
            have HR' : Hid (moveR x c = ({ c with val := v }, 0)) := hide (by rw [HR.out, if_neg (by omega)])
            have HL' := hide (HL.out _ hlo)
            have HH' := hide (HH.out _ hhi)
            have HI' := hide (HI.out hlo' hhi')
            clear HL HH hlo hhi HI HR
            refine wp_region_in (C := (Below wq.heap.size wq)) (by kernel_rfl) (by kernel_rfl) (Below.refl _ _).drew ?_
            repeat (first | go_big_quiet_step (first | (go_at_call 89; with_reducible exact calls_in (Nat.le_refl _) (HOl.out _)) | (go_at_call 89; with_reducible exact calls_in (Nat.le_refl _) (HOh.out _)) | (go_at_call 91; with_reducible exact calls_in (Nat.le_refl _) (HL'.out _)) | (go_at_call 91; with_reducible exact calls_in (Nat.le_refl _) (HH'.out _))) | quiet_step (first | (go_at_call 89; with_reducible exact calls_in (Nat.le_refl _) (HOl.out _)) | (go_at_call 89; with_reducible exact calls_in (Nat.le_refl _) (HOh.out _)) | (go_at_call 91; with_reducible exact calls_in (Nat.le_refl _) (HL'.out _)) | (go_at_call 91; with_reducible exact calls_in (Nat.le_refl _) (HH'.out _))))
            refine wpQuiet_nil ?_
            intro _ hw'
            obtain ⟨t, hw''⟩ := hw'
            subst hw''
            have jS4 := jS3.via t.h
            have d0' := d0 t
            have d1' := d1 t
            clear d0 d1 d2 d3
            go_wp2_with (go_at_call 92; refine (HI'.out _).mono ?_; rintro e w' ⟨rfl, hbx⟩; have jS5 := jS4.via hbx; have q1 := jS5.k1.cell; have q2 := jS5.k1.frozen; have q3 := jS5.k2.cell; have q4 := jS5.k2.frozen; have q6 := jS5.lt; have q5 : w.heap.size + 2 < w'.heap.size := (by omega); have q7 : w.heap.size + 1 < w'.heap.size := (by omega))
            refine bodyPost_ret (v := .tuple #[.agg #[.int .i64 c.kind, .slice A2 n2 c2, .int .i64 c.lo, .int .i64 c.hi, .int .i64 v], .int .i64 0]) (by simp [results, Tryz.results69, go_sem, q3]) rfl ⟨by rw [HR'.out], ?_⟩
            refine Touch.below (L := w.heap.size) (H := w.heap.size + 3) (w := w') ?_ jS5.b (Nat.le_refl _)
            (repeat refine Touch.set ?_ (by refine ⟨?_, ?_⟩ <;> dsimp only <;> omega) _); exact Touch.refl _
          · have hhi' : c.hi < v := by simpa using hhi
            have HR' : Hid (moveR x c = (c, 8)) := hide (by rw [HR.out, if_pos (.inr hhi')])
            have HL' := hide (HL.out _ hlo)
            have HH' := hide (HH.out _ hhi)
            clear HL HH hlo hhi HI HR
            refine wp_region_in (C := (Below wq.heap.size wq)) (by kernel_rfl) (by kernel_rfl) (Below.refl _ _).drew ?_
            repeat (first | go_big_quiet_step (first | (go_at_call 89; with_reducible exact calls_in (Nat.le_refl _) (HOl.out _)) | (go_at_call 89; with_reducible exact calls_in (Nat.le_refl _) (HOh.out _)) | (go_at_call 91; with_reducible exact calls_in (Nat.le_refl _) (HL'.out _)) | (go_at_call 91; with_reducible exact calls_in (Nat.le_refl _) (HH'.out _))) | quiet_step (first | (go_at_call 89; with_reducible exact calls_in (Nat.le_refl _) (HOl.out _)) | (go_at_call 89; with_reducible exact calls_in (Nat.le_refl _) (HOh.out _)) | (go_at_call 91; with_reducible exact calls_in (Nat.le_refl _) (HL'.out _)) | (go_at_call 91; with_reducible exact calls_in (Nat.le_refl _) (HH'.out _))))
            refine wpQuiet_nil ?_
            intro _ hw'
            obtain ⟨t, hw''⟩ := hw'
            subst hw''
            have jS4 := jS3.via t.h
            clear d0 d1 d2 d3
            have q1 := jS4.k1.cell
            have q3 := jS4.k2.cell
            have q4 := jS4.k2.frozen
            have q6 := jS4.lt
            have q5 : w.heap.size + 2 < t.w.heap.size := by omega
            have q7 : w.heap.size + 1 < t.w.heap.size := by omega
            go_wp2
            refine bodyPost_ret (v := .tuple #[.agg #[.int .i64 c.kind, .slice A2 n2 c2, .int .i64 c.lo, .int .i64 c.hi, .int .i64 c.val], .int .i64 8]) (by simp [results, Tryz.results69, go_sem, q3]) rfl ⟨by rw [HR'.out], ?_⟩
            refine Touch.below (L := w.heap.size) (H := w.heap.size + 3) (w := t.w) ?_ jS4.b (Nat.le_refl _)
            (repeat refine Touch.set ?_ (by refine ⟨?_, ?_⟩ <;> dsimp only <;> omega) _); exact Touch.refl _
        · have hlo' : v < c.lo := by simpa using hlo
          have HR' : Hid (moveR x c = (c, 8)) := hide (by rw [HR.out, if_pos (.inl hlo')])
          have HL' := hide (HL.out _ hlo)
          have HH' := HL'
          clear HL HH hlo HI HR
          refine wp_region_in (C := (Below wq.heap.size wq)) (by kernel_rfl) (by kernel_rfl) (Below.refl _ _).drew ?_
          repeat (first | go_big_quiet_step (first | (go_at_call 89; with_reducible exact calls_in (Nat.le_refl _) (HOl.out _)) | (go_at_call 89; with_reducible exact calls_in (Nat.le_refl _) (HOh.out _)) | (go_at_call 91; with_reducible exact calls_in (Nat.le_refl _) (HL'.out _)) | (go_at_call 91; with_reducible exact calls_in (Nat.le_refl _) (HH'.out _))) | quiet_step (first | (go_at_call 89; with_reducible exact calls_in (Nat.le_refl _) (HOl.out _)) | (go_at_call 89; with_reducible exact calls_in (Nat.le_refl _) (HOh.out _)) | (go_at_call 91; with_reducible exact calls_in (Nat.le_refl _) (HL'.out _)) | (go_at_call 91; with_reducible exact calls_in (Nat.le_refl _) (HH'.out _))))
          refine wpQuiet_nil ?_
          intro _ hw'
          obtain ⟨t, hw''⟩ := hw'
          subst hw''
          have jS4 := jS3.via t.h
          clear d0 d1 d2 d3
          have q1 := jS4.k1.cell
          have q3 := jS4.k2.cell
          have q4 := jS4.k2.frozen
          have q6 := jS4.lt
          have q5 : w.heap.size + 2 < t.w.heap.size := by omega
          have q7 : w.heap.size + 1 < t.w.heap.size := by omega
          go_wp2
          refine bodyPost_ret (v := .tuple #[.agg #[.int .i64 c.kind, .slice A2 n2 c2, .int .i64 c.lo, .int .i64 c.hi, .int .i64 c.val], .int .i64 8]) (by simp [results, Tryz.results69, go_sem, q3]) rfl ⟨by rw [HR'.out], ?_⟩
          refine Touch.below (L := w.heap.size) (H := w.heap.size + 3) (w := t.w) ?_ jS4.b (Nat.le_refl _)
          (repeat refine Touch.set ?_ (by refine ⟨?_, ?_⟩ <;> dsimp only <;> omega) _); exact Touch.refl _
  · have hkb : (c.kind != 2) = true := by simp [hk]
    have HR' : Hid (moveR x c = (c, 6)) := hide (by unfold moveR; rw [if_pos hk])
    clear hk
    go_enter Tryz.func69, Tryz.ntmps69
    go_wp2
    refine bodyPost_ret (v := .tuple #[.agg #[.int .i64 c.kind, .slice A2 n2 c2, .int .i64 c.lo, .int .i64 c.hi, .int .i64 c.val], .int .i64 6]) (by simp [results, Tryz.results69, go_sem]) rfl ⟨by rw [HR'.out], ?_⟩
    exact ((below2 _ _ _).alloc (by simp; omega) _)
end Go.Proofs.YteidmdnhkgcnoaaGreat
