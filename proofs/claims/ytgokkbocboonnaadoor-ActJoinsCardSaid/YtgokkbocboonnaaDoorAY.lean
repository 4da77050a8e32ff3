/-
  WALK: the law moneyerlaw31.ActLines.
-/
import Derived.Test.YtgokkbocboonnaaDoorAX
import Derived.Test.YtgokkbocboonnaaDoorAV
namespace Go.Proofs.YtgokkbocboonnaaDoor
open Go.RowKit Go.Lib

theorem ok_lens {w : World} {B : Nat} {x : ActD} {A F : Option Addr} {n c f f' : Nat} (h : ActOk w B ⟨x, .slice A n c, .slice F f f'⟩) : n = x.op.data.length ∧ f = x.pages.length := by
  obtain ⟨⟨_, _, _, e, _, _, h1, _⟩, _, _, e2, _⟩ := h
  injection e with _ e
  injection e2 with _ e2
  exact ⟨by rw [e, h1], e2⟩
set_option maxHeartbeats 3200000 in
theorem ActLines_big (x y : ActD) (A F A' F' : Option Addr) (n c f f' n' c' g g' : Nat) (w : World) (hE : Env w) (hx : ActOk w w.heap.size ⟨x, .slice A n c, .slice F f f'⟩) (hy : ActOk w w.heap.size ⟨y, .slice A' n' c', .slice F' g g'⟩) (hf : f ≤ 9223372036854775807) (hg : g ≤ 9223372036854775807) (hb : (bigA x || bigA y) = true) :
    Calls Tryd.prog 4 #[.agg #[.int .i64 x.act, .int .i64 x.client, .int .i64 x.op.act, .string x.op.key, .slice A n c, .int .i64 x.op.lo, .int .i64 x.op.hi, .int .i64 x.op.n, .int .i64 x.n, .slice F f f', .int .i64 x.log], .agg #[.int .i64 y.act, .int .i64 y.client, .int .i64 y.op.act, .string y.op.key, .slice A' n' c', .int .i64 y.op.lo, .int .i64 y.op.hi, .int .i64 y.op.n, .int .i64 y.n, .slice F' g g', .int .i64 y.log]] w fun e w' => e = .returned (.bool true) ∧ Below w.heap.size w w' := by
  have HLV := hide (fun W (hW : Below w.heap.size w W) => live_any W (hE.below hW))
  obtain ⟨hx1, hx2⟩ := ok_lens hx
  obtain ⟨hy1, hy2⟩ := ok_lens hy
  have HBx := hide (fun (b : Bool) (h : bigA x = b) W => h ▸ Big_any x.act x.client x.n x.log x.op x.pages A F n c f f' W hx1 hx2 hf)
  have HBy := hide (fun (b : Bool) (h : bigA y = b) W => h ▸ Big_any y.act y.client y.n y.log y.op y.pages A' F' n' c' g g' W hy1 hy2 hg)
  have hb0 := below2 w (.cells #[.int .i64 x.act, .int .i64 x.client, .int .i64 x.op.act, .string x.op.key, .slice A n c, .int .i64 x.op.lo, .int .i64 x.op.hi, .int .i64 x.op.n, .int .i64 x.n, .slice F f f', .int .i64 x.log] 30) (.cells #[.int .i64 y.act, .int .i64 y.client, .int .i64 y.op.act, .string y.op.key, .slice A' n' c', .int .i64 y.op.lo, .int .i64 y.op.hi, .int .i64 y.op.n, .int .i64 y.n, .slice F' g g', .int .i64 y.log] 30)
  cases hbx : bigA x
  · have hby : bigA y = true := by rw [hbx] at hb; simpa using hb
    have HBx := hide (HBx.out _ hbx)
    have HBy := hide (HBy.out _ hby)
    clear hb hbx hby hx1 hx2 hy1 hy2 hx hy hE
    go_enter Tryd.func4, Tryd.ntmps4
    go_wp2_with fail
    refine (HBx.out _).mono ?_
    rintro e w1 ⟨rfl, hb1⟩
    have k11 := Blk.via hb1 (Blk.new2 w _ _ _)
    have q1 := k11.cell
    have l1 := k11.lt
    have hbw1 := below_via hb0 hb1 hb0.size
    go_wp2_with fail
    refine (HBy.out _).mono ?_
    rintro e w2 ⟨rfl, hb2⟩
    have hbw2 := below_via hbw1 hb2 hbw1.size
    go_wp2_with (go_at_call 7; refine (HLV.out _ hbw2).mono ?_; rintro e w3 ⟨rfl, hb3⟩)
    go_ret
    exact ⟨rfl, below_via hbw2 hb3 hbw2.size⟩
  · have HBx := hide (HBx.out _ hbx)
    clear hb hbx hx1 hx2 hy1 hy2 hx hy hE
    go_enter Tryd.func4, Tryd.ntmps4
    go_wp2_with fail
    refine (HBx.out _).mono ?_
    rintro e w1 ⟨rfl, hb1⟩
    have hbw1 := below_via hb0 hb1 hb0.size
    go_wp2_with (go_at_call 7; refine (HLV.out _ hbw1).mono ?_; rintro e w3 ⟨rfl, hb3⟩)
    go_ret
    exact ⟨rfl, below_via hbw1 hb3 hbw1.size⟩
theorem actT_len {a : ActD} (hs : OpSm a.op) (hi : ActIn a) (hp : a.pages.length ≤ 1000) : (actT a).length ≤ 100000 := by
  have h1 := callT_len hs
  have h2 := num_len hi.2.1
  have h3 := num_len hi.2.2.2.1
  have h4 := numsT_len (a.log :: a.pages) (fun n hn => (List.mem_cons.1 hn).elim (fun e => e ▸ hi.2.2.2.2.1) (hi.2.2.2.2.2 n))
  simp only [List.length_cons] at h4
  unfold actT
  repeat' split
  all_goals
    simp only [List.length_append, List.length_cons, List.length_nil]
    omega
/-- What both sides tell of a line. -/
def lineS (x : ActD) : List UInt8 := if isActB x = true then actT x else []
def lineE (x : ActD) : Int := if isActB x = true then 0 else 1
set_option maxHeartbeats 12800000 in
theorem ActLines_no (x y : ActD) (A F A' F' : Option Addr) (n c f f' n' c' g g' : Nat) (w : World) (hE : Env w) (hx : ActOk w w.heap.size ⟨x, .slice A n c, .slice F f f'⟩) (hy : ActOk w w.heap.size ⟨y, .slice A' n' c', .slice F' g g'⟩) (hf : f ≤ 9223372036854775807) (hg : g ≤ 9223372036854775807) (hix : ActIn x) (hb : (bigA x || bigA y) = false) (hB : isActB x = false) :
    Calls Tryd.prog 4 #[.agg #[.int .i64 x.act, .int .i64 x.client, .int .i64 x.op.act, .string x.op.key, .slice A n c, .int .i64 x.op.lo, .int .i64 x.op.hi, .int .i64 x.op.n, .int .i64 x.n, .slice F f f', .int .i64 x.log], .agg #[.int .i64 y.act, .int .i64 y.client, .int .i64 y.op.act, .string y.op.key, .slice A' n' c', .int .i64 y.op.lo, .int .i64 y.op.hi, .int .i64 y.op.n, .int .i64 y.n, .slice F' g g', .int .i64 y.log]] w fun e w' => e = .returned (.bool true) ∧ Below w.heap.size w w' := by
  obtain ⟨hx1, hx2⟩ := ok_lens hx
  obtain ⟨hy1, hy2⟩ := ok_lens hy
  obtain ⟨hbx, hby⟩ : bigA x = false ∧ bigA y = false := by simpa using hb
  obtain ⟨x1, x2, x3⟩ := bigA_no hbx
  obtain ⟨y1, y2, y3⟩ := bigA_no hby
  have hsm : OpSm x.op := ⟨by omega, by omega, hix.2.2.1.1, hix.2.2.1.2.1, hix.2.2.1.2.2.1, hix.2.2.1.2.2.2⟩
  have HLV := hide (fun W (hW : Below w.heap.size w W) => live_any W (hE.below hW))
  have HBx := hide (fun W => hbx ▸ Big_any x.act x.client x.n x.log x.op x.pages A F n c f f' W hx1 hx2 hf)
  have HBy := hide (fun W => hby ▸ Big_any y.act y.client y.n y.log y.op y.pages A' F' n' c' g g' W hy1 hy2 hg)
  obtain ⟨sT, HT1, HT2, hTs⟩ := letter (lineS x)
  have HL := hide (fun W (hW : Below w.heap.size w W) => (actLine_any ⟨x, .slice A n c, .slice F f f'⟩ w.heap.size W hW.size hsm hix (hx.below hW (Nat.le_refl _)) (by show x.pages.length ≤ _; omega) (hE.pt.below hW)).mono fun e w' h => (show e = .returned (.tuple #[.string sT, .int .i64 1]) ∧ Below W.heap.size W w' from ⟨by
    obtain ⟨_, ⟨h1, h2⟩ | ⟨h1, h2⟩⟩ := h
    · (rw [h2, show sT = ⟨#[]⟩ by rw [← HT1.out, lineS, if_neg (by rw [hB]; decide)]; rfl])
    · (rw [hB] at h1; cases h1), h.1⟩))
  have HR := hide (fun W (hW : Below w.heap.size w W) => (rLine_any ⟨x, .slice A n c, .slice F f f'⟩ w.heap.size W hW.size hsm hix (hx.below hW (Nat.le_refl _)) (by show x.pages.length ≤ _; omega)).mono fun e w' h => (show e = .returned (.tuple #[.string sT, .bool false]) ∧ Below W.heap.size W w' from ⟨by
    obtain ⟨_, ⟨h1, h2⟩ | ⟨h1, h2⟩⟩ := h
    · (rw [h2, show sT = ⟨#[]⟩ by rw [← HT1.out, lineS, if_neg (by rw [hB]; decide)]; rfl])
    · (rw [hB] at h1; cases h1), h.1⟩))
  have HC := hide (fun W => (actCheck_any x.act x.client x.n x.log x.op x.pages A F n c f f' W hx1 hx2 hf (by omega)).mono fun e w' h => (show e = .returned (.int .i64 1) ∧ Below W.heap.size W w' from ⟨by rw [h.1, show isActB ⟨x.act, x.client, x.op, x.n, x.pages, x.log⟩ = false from hB]; rfl, h.2⟩))
  have HS1 := hide (fun (v : Bool) (hv : actEq x y = v) W (hW : Below w.heap.size w W) => hv ▸ aSame_any ⟨x, .slice A n c, .slice F f f'⟩ ⟨y, .slice A' n' c', .slice F' g g'⟩ w.heap.size W hW.size (hx.below hW (Nat.le_refl _)) (hy.below hW (Nat.le_refl _)) (by show x.pages.length ≤ _; omega) (by show y.pages.length ≤ _; omega))
  have HS2 := hide (fun (v : Bool) (hv : actEq x y = v) W (hW : Below w.heap.size w W) => hv ▸ rSameAct_any ⟨x, .slice A n c, .slice F f f'⟩ ⟨y, .slice A' n' c', .slice F' g g'⟩ w.heap.size W hW.size (hx.below hW (Nat.le_refl _)) (hy.below hW (Nat.le_refl _)) (by show x.pages.length ≤ _; omega) (by show y.pages.length ≤ _; omega))
  unfold actV at HS1 HS2
  dsimp only at HS1 HS2
  clear hTs hix hsm x1 x2 x3 y1 y2 y3 hbx hby hb hx1 hx2 hy1 hy2 hx hy hE hf hg hB
  cases hv : actEq x y
  all_goals
    have HS1 := hide (HS1.out _ hv)
    have HS2 := hide (HS2.out _ hv)
    clear hv
    go_enter Tryd.func4, Tryd.ntmps4
    go_wp2_with fail
    refine gen2 (R := fun W => Calls Tryd.prog 13 _ W _) (fun W k0 k1 hb0 hz => ?_)
    refine (HBx.out _).mono ?_
    rintro e w1 ⟨rfl, hb1⟩
    have k0 := Blk.via hb1 k0
    have k1 := Blk.via hb1 k1
    have q0 := k0.cell
    have l0 := k0.lt
    have q1 := k1.cell
    have l1 := k1.lt
    have hbw1 := below_via hb0 hb1 hb0.size
    go_wp2_with fail
    refine (HBy.out _).mono ?_
    rintro e w2 ⟨rfl, hb2⟩
    have k0 := Blk.via hb2 k0
    have k1 := Blk.via hb2 k1
    clear q0 l0 q1 l1
    have q0 := k0.cell
    have l0 := k0.lt
    have hbw2 := below_via hbw1 hb2 hbw1.size
    go_wp2_with fail
    refine (HL.out _ hbw2).mono ?_
    rintro e w3 ⟨rfl, hb3⟩
    have k0 := Blk.via hb3 k0
    have k1 := Blk.via hb3 k1
    clear q0 l0
    have q0 := k0.cell
    have l0 := k0.lt
    have hbw3 := below_via hbw2 hb3 hbw2.size
    go_wp2_with fail
    refine (HR.out _ hbw3).mono ?_
    rintro e w4 ⟨rfl, hb4⟩
    have k0 := Blk.via hb4 k0
    have k1 := Blk.via hb4 k1
    clear q0 l0
    have hbw4 := below_via hbw3 hb4 hbw3.size
    have q0 : ∀ (t : In (Below w4.heap.size w4)) (i : Nat), t.w.cell? ⟨w.heap.size, i, none⟩ = _ := fun t => (Blk.via t.h k0).cell
    have q1 : ∀ (t : In (Below w4.heap.size w4)) (i : Nat), t.w.cell? ⟨w.heap.size + 1, i, none⟩ = _ := fun t => (Blk.via t.h k1).cell
    have HCt := hide (fun t : In (Below w4.heap.size w4) => HC.out t.w)
    have HS1t := hide (fun t : In (Below w4.heap.size w4) => HS1.out t.w (below_via hbw4 t.h hbw4.size))
    have HS2t := hide (fun t : In (Below w4.heap.size w4) => HS2.out t.w (below_via hbw4 t.h hbw4.size))
    go_wp2
    refine wp_region_in (C := (Below w4.heap.size w4)) (by kernel_rfl) (by kernel_rfl) (Below.refl _ _).drew ?_
    repeat (first | go_big_quiet_step (first | (go_at_call 9; with_reducible exact calls_in_same (code_any _ _)) | (go_at_call 15; with_reducible exact calls_in (Nat.le_refl _) (HCt.out _)) | (go_at_call 16; with_reducible exact calls_in (Nat.le_refl _) (HS1t.out _)) | (go_at_call 10; with_reducible exact calls_in (Nat.le_refl _) (HS2t.out _))) | quiet_step (first | (go_at_call 9; with_reducible exact calls_in_same (code_any _ _)) | (go_at_call 15; with_reducible exact calls_in (Nat.le_refl _) (HCt.out _)) | (go_at_call 16; with_reducible exact calls_in (Nat.le_refl _) (HS1t.out _)) | (go_at_call 10; with_reducible exact calls_in (Nat.le_refl _) (HS2t.out _))))
    refine wpQuiet_nil ?_
    intro _ hw'
    obtain ⟨t, hw''⟩ := hw'
    subst hw''
    have hbt := t.h
    have k0 := Blk.via hbt k0
    clear q0 q1 HCt HS1t HS2t
    generalize t.w = wt at hbt k0 ⊢
    clear t
    have hbwt := below_via hbw4 hbt hbw4.size
    go_wp2_with (go_at_call 7; refine (HLV.out _ hbwt).mono ?_; rintro e w5 ⟨rfl, hb5⟩)
    go_ret
    exact ⟨rfl, below_via hbwt hb5 hbwt.size⟩
set_option maxHeartbeats 25600000 in
theorem ActLines_yes (x y : ActD) (A F A' F' : Option Addr) (n c f f' n' c' g g' : Nat) (w : World) (hE : Env w) (hx : ActOk w w.heap.size ⟨x, .slice A n c, .slice F f f'⟩) (hy : ActOk w w.heap.size ⟨y, .slice A' n' c', .slice F' g g'⟩) (hf : f ≤ 9223372036854775807) (hg : g ≤ 9223372036854775807) (hix : ActIn x) (hb : (bigA x || bigA y) = false) (hB : isActB x = true) :
    Calls Tryd.prog 4 #[.agg #[.int .i64 x.act, .int .i64 x.client, .int .i64 x.op.act, .string x.op.key, .slice A n c, .int .i64 x.op.lo, .int .i64 x.op.hi, .int .i64 x.op.n, .int .i64 x.n, .slice F f f', .int .i64 x.log], .agg #[.int .i64 y.act, .int .i64 y.client, .int .i64 y.op.act, .string y.op.key, .slice A' n' c', .int .i64 y.op.lo, .int .i64 y.op.hi, .int .i64 y.op.n, .int .i64 y.n, .slice F' g g', .int .i64 y.log]] w fun e w' => e = .returned (.bool true) ∧ Below w.heap.size w w' := by
  obtain ⟨hx1, hx2⟩ := ok_lens hx
  obtain ⟨hy1, hy2⟩ := ok_lens hy
  obtain ⟨hbx, hby⟩ : bigA x = false ∧ bigA y = false := by simpa using hb
  obtain ⟨x1, x2, x3⟩ := bigA_no hbx
  obtain ⟨y1, y2, y3⟩ := bigA_no hby
  have hsm : OpSm x.op := ⟨by omega, by omega, hix.2.2.1.1, hix.2.2.1.2.1, hix.2.2.1.2.2.1, hix.2.2.1.2.2.2⟩
  have HLV := hide (fun W (hW : Below w.heap.size w W) => live_any W (hE.below hW))
  have HBx := hide (fun W => hbx ▸ Big_any x.act x.client x.n x.log x.op x.pages A F n c f f' W hx1 hx2 hf)
  have HBy := hide (fun W => hby ▸ Big_any y.act y.client y.n y.log y.op y.pages A' F' n' c' g g' W hy1 hy2 hg)
  obtain ⟨sT, HT1, HT2, hTs⟩ := letter (lineS x)
  have HL := hide (fun W (hW : Below w.heap.size w W) => (actLine_any ⟨x, .slice A n c, .slice F f f'⟩ w.heap.size W hW.size hsm hix (hx.below hW (Nat.le_refl _)) (by show x.pages.length ≤ _; omega) (hE.pt.below hW)).mono fun e w' h => (show e = .returned (.tuple #[.string sT, .int .i64 0]) ∧ Below W.heap.size W w' from ⟨by
    obtain ⟨_, ⟨h1, h2⟩ | ⟨h1, h2⟩⟩ := h
    · (rw [hB] at h1; cases h1)
    · (rw [h2, lineV, show tx (actT x) = sT by rw [← HT1.out, lineS, if_pos hB]]), h.1⟩))
  have HR := hide (fun W (hW : Below w.heap.size w W) => (rLine_any ⟨x, .slice A n c, .slice F f f'⟩ w.heap.size W hW.size hsm hix (hx.below hW (Nat.le_refl _)) (by show x.pages.length ≤ _; omega)).mono fun e w' h => (show e = .returned (.tuple #[.string sT, .bool true]) ∧ Below W.heap.size W w' from ⟨by
    obtain ⟨_, ⟨h1, h2⟩ | ⟨h1, h2⟩⟩ := h
    · (rw [hB] at h1; cases h1)
    · (rw [h2, rlineV, show tx (actT x) = sT by rw [← HT1.out, lineS, if_pos hB]]), h.1⟩))
  have HC := hide (fun W => (actCheck_any x.act x.client x.n x.log x.op x.pages A F n c f f' W hx1 hx2 hf (by omega)).mono fun e w' h => (show e = .returned (.int .i64 0) ∧ Below W.heap.size W w' from ⟨by rw [h.1, show isActB ⟨x.act, x.client, x.op, x.n, x.pages, x.log⟩ = true from hB]; rfl, h.2⟩))
  have HS1 := hide (fun (v : Bool) (hv : actEq x y = v) W (hW : Below w.heap.size w W) => hv ▸ aSame_any ⟨x, .slice A n c, .slice F f f'⟩ ⟨y, .slice A' n' c', .slice F' g g'⟩ w.heap.size W hW.size (hx.below hW (Nat.le_refl _)) (hy.below hW (Nat.le_refl _)) (by show x.pages.length ≤ _; omega) (by show y.pages.length ≤ _; omega))
  have HS2 := hide (fun (v : Bool) (hv : actEq x y = v) W (hW : Below w.heap.size w W) => hv ▸ rSameAct_any ⟨x, .slice A n c, .slice F f f'⟩ ⟨y, .slice A' n' c', .slice F' g g'⟩ w.heap.size W hW.size (hx.below hW (Nat.le_refl _)) (hy.below hW (Nat.le_refl _)) (by show x.pages.length ≤ _; omega) (by show y.pages.length ≤ _; omega))
  unfold actV at HS1 HS2
  dsimp only at HS1 HS2
  have hsT : sT.data.toList = actT x := by rw [HT2.out, lineS, if_pos hB]
  have hlT : sT.size ≤ 1000000 := by
    have h1 := actT_len hsm hix (by omega : x.pages.length ≤ 1000)
    rw [hTs, lineS, if_pos hB]
    omega
  have HP := hide (fun W (hW : Below w.heap.size w W) => (parse_env (hE.below hW) sT hlT).mono fun e w' h => (show ∃ z A2 n2 c2 F2 f2 g2, e = .returned (.tuple #[.agg #[.int .i64 z.act, .int .i64 z.client, .int .i64 z.op.act, .string z.op.key, .slice A2 n2 c2, .int .i64 z.op.lo, .int .i64 z.op.hi, .int .i64 z.op.n, .int .i64 z.n, .slice F2 f2 g2, .int .i64 z.log], .int .i64 0]) ∧ Below W.heap.size W w' ∧ Hid (z = plainAct x ∧ ActOk w' w'.heap.size ⟨z, .slice A2 n2 c2, .slice F2 f2 g2⟩) from by
    obtain ⟨hb', ⟨h1, _⟩ | ⟨⟨z, dv, pv⟩, h1, h2, h3⟩⟩ := h
    · rw [hsT, parseD_act hB hix] at h1
      cases h1
    · rw [hsT, parseD_act hB hix] at h1
      have hz := (Option.some.inj h1).symm
      obtain ⟨A2, n2, c2, e1⟩ := h3.1.form
      obtain ⟨F2, f2, e2⟩ := h3.2.form
      dsimp only at e1 e2 hz
      subst e1 e2
      exact ⟨z, A2, n2, c2, F2, _, f2, h2, hb', hz, h3.ok⟩))
  obtain ⟨Y, HY⟩ : ∃ Y, Hid (actV (plainY ⟨x, .slice A n c, .slice F f f'⟩) = Y) := ⟨_, rfl⟩
  have HPl := hide (fun W => (rPlain_any ⟨x, .slice A n c, .slice F f f'⟩ W ⟨_, _, _, rfl⟩ ⟨_, _, _, rfl⟩ hB).mono fun e w' h => (show e = .returned Y ∧ Below W.heap.size W w' from ⟨by rw [h.2, HY.out], h.1⟩))
  have hpl : (plainAct x).pages.length ≤ 1000000 := by
    unfold plainAct
    dsimp only
    split
    · omega
    · simp
  have HSz := hide (fun (z : ActD) (hz : z = plainAct x) (A2 F2 : Option Addr) (n2 c2 f2 g2 B : Nat) W (hBW : B ≤ W.heap.size) (hok : ActOk W B ⟨z, .slice A2 n2 c2, .slice F2 f2 g2⟩) (hok2 : ActOk W B ⟨x, .slice A n c, .slice F f f'⟩) => (rSameAct_any ⟨z, .slice A2 n2 c2, .slice F2 f2 g2⟩ (plainY ⟨x, .slice A n c, .slice F f f'⟩) B W hBW hok (plainY_ok hok2) (by subst hz; exact hpl) hpl).mono fun e w' h => (show e = .returned (.bool true) ∧ Below W.heap.size W w' from ⟨by rw [h.1]; exact ret_bool (show actEq z (plainAct x) = true by rw [hz]; exact actEq_refl _), h.2⟩))
  have HX := hide hx
  simp only [HY.out] at HSz
  unfold actV at HPl HSz
  dsimp only at HPl HSz
  clear hTs hix hsm x1 x2 x3 y1 y2 y3 hbx hby hb hx1 hx2 hy1 hy2 hx hy hE hf hg hB hsT hlT hpl
  cases hv : actEq x y
  all_goals
    have HS1 := hide (HS1.out _ hv)
    have HS2 := hide (HS2.out _ hv)
    clear hv
    go_enter Tryd.func4, Tryd.ntmps4
    go_wp2_with fail
    refine gen2 (R := fun W => Calls Tryd.prog 13 _ W _) (fun W k0 k1 hb0 hz => ?_)
    refine (HBx.out _).mono ?_
    rintro e w1 ⟨rfl, hb1⟩
    have k0 := Blk.via hb1 k0
    have k1 := Blk.via hb1 k1
    have q0 := k0.cell
    have l0 := k0.lt
    have q1 := k1.cell
    have l1 := k1.lt
    have hbw1 := below_via hb0 hb1 hb0.size
    go_wp2_with fail
    refine (HBy.out _).mono ?_
    rintro e w2 ⟨rfl, hb2⟩
    have k0 := Blk.via hb2 k0
    have k1 := Blk.via hb2 k1
    clear q0 l0 q1 l1
    have q0 := k0.cell
    have l0 := k0.lt
    have hbw2 := below_via hbw1 hb2 hbw1.size
    go_wp2_with fail
    refine (HL.out _ hbw2).mono ?_
    rintro e w3 ⟨rfl, hb3⟩
    have k0 := Blk.via hb3 k0
    have k1 := Blk.via hb3 k1
    clear q0 l0
    have q0 := k0.cell
    have l0 := k0.lt
    have hbw3 := below_via hbw2 hb3 hbw2.size
    go_wp2_with fail
    refine (HR.out _ hbw3).mono ?_
    rintro e w4 ⟨rfl, hb4⟩
    have k0 := Blk.via hb4 k0
    have k1 := Blk.via hb4 k1
    clear q0 l0
    have hbw4 := below_via hbw3 hb4 hbw3.size
    have q0 : ∀ (t : In (Below w4.heap.size w4)) (i : Nat), t.w.cell? ⟨w.heap.size, i, none⟩ = _ := fun t => (Blk.via t.h k0).cell
    have q1 : ∀ (t : In (Below w4.heap.size w4)) (i : Nat), t.w.cell? ⟨w.heap.size + 1, i, none⟩ = _ := fun t => (Blk.via t.h k1).cell
    have HCt := hide (fun t : In (Below w4.heap.size w4) => HC.out t.w)
    have HS1t := hide (fun t : In (Below w4.heap.size w4) => HS1.out t.w (below_via hbw4 t.h hbw4.size))
    have HS2t := hide (fun t : In (Below w4.heap.size w4) => HS2.out t.w (below_via hbw4 t.h hbw4.size))
    go_wp2
    refine wp_region_in (C := (Below w4.heap.size w4)) (by kernel_rfl) (by kernel_rfl) (Below.refl _ _).drew ?_
    repeat (first | go_big_quiet_step (first | (go_at_call 9; with_reducible exact calls_in_same (code_any _ _)) | (go_at_call 15; with_reducible exact calls_in (Nat.le_refl _) (HCt.out _)) | (go_at_call 16; with_reducible exact calls_in (Nat.le_refl _) (HS1t.out _)) | (go_at_call 10; with_reducible exact calls_in (Nat.le_refl _) (HS2t.out _))) | quiet_step (first | (go_at_call 9; with_reducible exact calls_in_same (code_any _ _)) | (go_at_call 15; with_reducible exact calls_in (Nat.le_refl _) (HCt.out _)) | (go_at_call 16; with_reducible exact calls_in (Nat.le_refl _) (HS1t.out _)) | (go_at_call 10; with_reducible exact calls_in (Nat.le_refl _) (HS2t.out _))))
    refine wpQuiet_nil ?_
    intro _ hw'
    obtain ⟨t, hw''⟩ := hw'
    subst hw''
    have hbt := t.h
    have k0 := Blk.via hbt k0
    clear q0 q1 HCt HS1t HS2t
    generalize t.w = wt at hbt k0 ⊢
    clear t
    have hbwt := below_via hbw4 hbt hbw4.size
    go_wp2_with fail
    refine (HP.out _ hbwt).mono ?_
    rintro e w5 ⟨z, A2, n2, c2, F2, f2, g2, rfl, hb5, HZ⟩
    have k0 := Blk.via hb5 k0
    have hbw5 := below_via hbwt hb5 hbwt.size
    go_wp2
    refine gen1 (fun W kz hbz hzz => ?_)
    have k0 := Blk.via hbz k0
    have hbwW := below_via hbw5 hbz hbw5.size
    have q0 : ∀ (t : In (Below W.heap.size W)) (i : Nat), t.w.cell? ⟨w.heap.size, i, none⟩ = _ := fun t => (Blk.via t.h k0).cell
    have q1 : ∀ (t : In (Below W.heap.size W)) (i : Nat), t.w.cell? ⟨w5.heap.size, i, none⟩ = _ := fun t => (Blk.via t.h kz).cell
    have HPlt := hide (fun t : In (Below W.heap.size W) => HPl.out t.w)
    have HSzt := hide (fun t : In (Below W.heap.size W) => HSz.out z HZ.out.1 A2 F2 n2 c2 f2 g2 w5.heap.size t.w (Nat.le_trans hbz.size t.h.size) ((HZ.out.2.below hbz (Nat.le_refl _)).below t.h hbz.size) (((HX.out.below hbwW (Nat.le_refl _)).below t.h hbwW.size).more hbw5.size))
    have HLVt := hide (fun t : In (Below W.heap.size W) => HLV.out t.w (below_via hbwW t.h hbwW.size))
    refine wp_region_in (C := (Below W.heap.size W)) (by kernel_rfl) (by kernel_rfl) (Below.refl _ _).drew ?_
    repeat (first | go_big_quiet_step (first | (go_at_call 9; with_reducible exact calls_in_same (code_any _ _)) | (go_at_call 12; with_reducible exact calls_in (Nat.le_refl _) (HPlt.out _)) | (go_at_call 10; with_reducible exact calls_in (Nat.le_refl _) (HSzt.out _)) | (go_at_call 7; with_reducible exact calls_in (Nat.le_refl _) (HLVt.out _))) | quiet_step (first | (go_at_call 9; with_reducible exact calls_in_same (code_any _ _)) | (go_at_call 12; with_reducible exact calls_in (Nat.le_refl _) (HPlt.out _)) | (go_at_call 10; with_reducible exact calls_in (Nat.le_refl _) (HSzt.out _)) | (go_at_call 7; with_reducible exact calls_in (Nat.le_refl _) (HLVt.out _))))
    refine wpQuiet_nil ?_
    intro _ hw'
    obtain ⟨t, hw''⟩ := hw'
    subst hw''
    have hbu := t.h
    generalize t.w = wu at hbu ⊢
    clear t q0 q1 HPlt HSzt HLVt
    go_wp2
    go_ret
    exact ⟨rfl, below_via hbwW hbu hbwW.size⟩
theorem ActLines_true (a b : ActV) (w : World) (hE : Env w) (ha : ActOk w w.heap.size a) (hb : ActOk w w.heap.size b) (hia : ActIn a.d) (hpa : a.d.pages.length ≤ 9223372036854775807) (hpb : b.d.pages.length ≤ 9223372036854775807) :
    Calls Tryd.prog 4 #[actV a, actV b] w fun e w' => e = .returned (.bool true) ∧ Below w.heap.size w w' := by
  obtain ⟨x, xv, xp⟩ := a
  obtain ⟨y, yv, yp⟩ := b
  have ha' := ha
  have hb' := hb
  obtain ⟨⟨A, n, c, e1, _⟩, F, f', e2, _⟩ := ha'
  obtain ⟨⟨A', n', c', e3, _⟩, F', g', e4, _⟩ := hb'
  dsimp only at *
  subst e1 e2 e3 e4
  unfold actV
  dsimp only
  cases hbig : (bigA x || bigA y)
  · cases hB : isActB x
    · exact ActLines_no x y A F A' F' n c _ f' n' c' _ g' w hE ha hb hpa hpb hia hbig hB
    · exact ActLines_yes x y A F A' F' n c _ f' n' c' _ g' w hE ha hb hpa hpb hia hbig hB
  · exact ActLines_big x y A F A' F' n c _ f' n' c' _ g' w hE ha hb hpa hpb hbig
end Go.Proofs.YtgokkbocboonnaaDoor
