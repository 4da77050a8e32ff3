/-
  Texts of this claim, joined: LR, LS, LT, DA, LC, DB, DC.
-/
import Derived.Laws.Externs
import Derived.LaidEql
import Derived.Test.YtnanlaefehaifaaGreatAu12
set_option maxHeartbeats 6400000
set_option maxRecDepth 100000
namespace Go.Proofs.YtnanlaefehaifaaGreat
open Go.RowKit Go.Shelf Go.Maps
attribute [local go_sem] Oper.semAt_some
theorem all1_empty (n : Nat) (hn : 1 ≤ n) (lp Bl l d m : Nat) (limit : Int) (w : World) (hBl : Blk w Bl 24 #[.pointer (some ⟨l, 0, none⟩)]) (kl : Blk w l 97 (logC d limit 0 0 m (.slice none 0 0))) :
    CallsIn Fence.wide n Tryz.prog 123 #[.func (.yield lp) #[] #[], .pointer (some ⟨Bl, 0, none⟩)] w fun e W' => (∃ v, e = .returned v) ∧ Below w.heap.size w W' := by
  have b0 : w.cell? ⟨Bl, 0, none⟩ = some (.pointer (some ⟨l, 0, none⟩)) := hBl.cell 0
  have l5 : w.cell? ⟨l, 5, none⟩ = some (.slice none 0 0) := kl.cell 5
  have HC := hide (cloneI_any none 0 0 [] w.heap.size w (Nat.le_refl _) (by omega) ⟨rfl, fun h => absurd h (by omega)⟩ (fun _ => rfl) (fun u hu => by cases hu))
  refine callsIn_of_wp Tryz.func123 rfl trivial ?_ rfl
  simp only [Tryz.ntmps123, List.size_toArray, List.length_cons, List.length_nil, Nat.reduceAdd, Nat.reduceSub, Array.replicate_succ, Array.replicate_zero, List.push_toArray, List.append_toArray, List.nil_append, List.cons_append]
  gi_wp2_with fail
  refine ⟨trivial, ?_⟩
  gi_at_call 124
  refine (callsIn_wide.2 HC.out).mono ?_
  rintro e wc ⟨A2, c2, rfl, ho, hbc⟩
  clear ho b0 l5
  gi_wp2
  refine wpIn_loop_rounds 1 ?_
  rw [roundsIn_succ]
  gi_wp2
  go_end0
  exact ⟨⟨_, rfl⟩, hbc⟩
structure PartsS (w : World) (b d : Nat) (x : ConfD) (l ml p t : Nat) : Prop where
  kb : ∃ k1 k2 k3 : Nat, Blk w b 92 #[.pointer (some ⟨d, 0, none⟩), .int .i64 x.b, .int .i64 x.p, .int .i64 x.f, .int .i64 x.c, .int .i64 x.l, .pointer (some ⟨l, 0, none⟩), .pointer (some ⟨p, 0, none⟩), .pointer (some ⟨k1, 0, none⟩), .pointer (some ⟨k2, 0, none⟩), .pointer (some ⟨k3, 0, none⟩), .pointer (some ⟨t, 0, none⟩)]
  kl : Blk w l 97 (logC d (1024 * x.l) 0 0 ml (.slice none 0 0))
  hm : MapF w ml 0 (fun _ => none)
  kp : Blk w p 209 (poolC d l x.f (.slice none 0 0))
  kt : ∃ mt, Blk w t 226 #[.int .i64 1, .map (some mt)]
theorem blk_ne_mark {w : World} {q D : Nat} {t : TypeId} {c : Array Value} {o} (k : Blk w q t c) (h : w.heap[D]? = some (.deferred o)) : q ≠ D := by
  rintro rfl
  rw [show w.heap[q]? = _ from k] at h
  cases h
def PartsV (N d l : Nat) (x : ConfD) (v : Value) (W : World) : Prop := ∃ p k1 k2 k3 t mt : Nat, v = .agg #[.pointer (some ⟨d, 0, none⟩), .int .i64 x.b, .int .i64 x.p, .int .i64 x.f, .int .i64 x.c, .int .i64 x.l, .pointer (some ⟨l, 0, none⟩), .pointer (some ⟨p, 0, none⟩), .pointer (some ⟨k1, 0, none⟩), .pointer (some ⟨k2, 0, none⟩), .pointer (some ⟨k3, 0, none⟩), .pointer (some ⟨t, 0, none⟩)] ∧ Blk W p 209 (poolC d l x.f (.slice none 0 0)) ∧ Blk W t 226 #[.int .i64 1, .map (some mt)] ∧ N ≤ p
def BaseV (N d l : Nat) (x : ConfD) (v : Value) (W : World) : Prop := ∃ b p k1 k2 k3 t mt : Nat, v = .pointer (some ⟨b, 0, none⟩) ∧ Blk W b 92 #[.pointer (some ⟨d, 0, none⟩), .int .i64 x.b, .int .i64 x.p, .int .i64 x.f, .int .i64 x.c, .int .i64 x.l, .pointer (some ⟨l, 0, none⟩), .pointer (some ⟨p, 0, none⟩), .pointer (some ⟨k1, 0, none⟩), .pointer (some ⟨k2, 0, none⟩), .pointer (some ⟨k3, 0, none⟩), .pointer (some ⟨t, 0, none⟩)] ∧ Blk W p 209 (poolC d l x.f (.slice none 0 0)) ∧ Blk W t 226 #[.int .i64 1, .map (some mt)] ∧ N ≤ p
def OpenP (w : World) (d g m n : Nat) (fs : Bool) (fuse stale : Int) (safe : List (List UInt8)) (k : Nat) (mf : Int → Option Value) (wr : Nat → List (List UInt8)) (x : ConfD) (e : Ending) (w' : World) : Prop :=
  ∃ b l ml p t, e = .returned (.tuple #[.pointer (some ⟨b, 0, none⟩), .int .i64 0]) ∧ PartsS w' b d x l ml p t ∧ DevS w' d g m n fs fuse nilS stale 0 0 safe k mf wr ∧ Turn (fun q => q = d) w w' ∧ w.heap.size ≤ p
theorem open_ok (w : World) (d g m n : Nat) (fs : Bool) (fuse : Int) (stale : Int) (safe : List (List UInt8)) (k : Nat) (mf : Int → Option Value) (wr : Nat → List (List UInt8))
    (h : DevS w d g m n fs fuse (.slice none 0 0) stale 0 0 safe k mf wr) (h0 : 0 < n) (hn : n ≤ 1024) (hw : (wr 0).length ≤ 1000000) (hfu : fs = true → 0 < fuse ∧ fuse ≤ 9223372036854775807) (x : ConfD) (u : Int) (hx : metaG (pgOf safe wr 0) = some (x, u)) (hr : rightP (pgOf safe wr 0) 0 = true) (hp : x.p ≤ n) (hfu2 : fs = true → 1 < fuse) (fu2 : Int) (hfe : fu2 = if fs = true then fuse - 2 else fuse) :
    Calls Tryz.prog 26 #[.pointer (some ⟨d, 0, none⟩)] w (OpenP w d g m n fs fu2 stale safe k mf wr x) := by
  obtain ⟨fu1, hf1⟩ : ∃ v, v = (if fs = true then fuse - 1 else fuse) := ⟨_, rfl⟩
  have HF1 := hide hf1
  have HFU1 := hide (show fs = true → 0 < fu1 ∧ fu1 ≤ 9223372036854775807 by intro hh; rw [hf1, if_pos hh]; have := hfu hh; have := hfu2 hh; omega)
  have HFU2 := hide (show (if fs = true then fu1 - 1 else fu1) = fu2 by rw [hf1, hfe]; split <;> first | omega | rfl)
  clear hf1 hfu2 hfe
  have HRD := hide (show Calls Tryz.prog 72 #[.pointer (some ⟨d, 0, none⟩), .int .i64 0] w _ from devRead_any w d g m n fs fuse (.slice none 0 0) stale 0 0 safe k mf wr 0 h h0 hn hw hfu)
  have hl := pgOf_length h h0
  have HS := hide h
  have hd := h.lt d (.inl rfl)
  generalize pgOf safe wr 0 = bs at *
  have HCH := hide (fun W => pCheck_any bs hl 0 W)
  have HMG := hide (fun W => metaGet_any bs hl W)
  rw [hx] at HMG
  have hok := metaG_conf hx
  have hre := rightE_yes hr
  rw [hre] at HCH
  have HDB := hide (fun q hq => h.lt q hq)
  clear h hfu hx hr hre
  obtain ⟨hl1, hl2, hf1, hf2⟩ := confOk_l hok
  clear hok
  have HPX := hide (pg_size bs hl)
  have HPI := hide (show (Tryz.prog.info? 63).map (·.size) = some ((bs.map byteV).toArray).size by rw [HPX.out]; exact info_pg)
  have HPZ := hide (show Tryz.zeroCells63.size = ((bs.map byteV).toArray).size by rw [HPX.out]; exact zeros_page)
  have HP1 := hide (row_one bs)
  unfold pgV at *
  generalize hX : (bs.map byteV).toArray = X at *
  clear hX hl
  refine (callsIn_wide (n := 9)).1 ?_
  refine callsIn_of_wp_marks Tryz.func26 rfl trivial ?_ rfl
  simp only [Tryz.ntmps26, List.size_toArray, List.length_cons, List.length_nil, Nat.reduceAdd, Nat.reduceSub, Array.replicate_succ, Array.replicate_zero, List.push_toArray, List.append_toArray, List.nil_append, List.cons_append]
  refine wpIn_wide.2 ?_
  go_upto_region 3 with (fail)
  go_wp2_with fail
  refine HRD.out.mono ?_
  rintro e W1 ⟨rfl, hs1, ht1⟩
  rw [← HF1.out] at hs1
  have HS1 := hide hs1
  have HT1 := hide ht1
  have hz1 := ht1.size
  clear hs1 ht1
  go_upto_region 4 with (refine wpList_store_row rfl 63 (.tmp 4) (.tmp 17) rfl W1.heap.size X rfl rfl 63 _ (Blk.new W1 _ _) HPI.out HPZ.out HP1.out ?_)
  refine nameW (w := World.setRow _ W1.heap.size X) (R := fun W => Code.wp _ _ _ _ W) (fun W2 hW2 => ?_)
  have kp2 : Blk W2 W1.heap.size 63 X := by
    rw [hW2]
    exact setRow_heap _ W1.heap.size _ _ _ _ (Blk.new W1 _ _)
  have hb2 : Below W1.heap.size W1 W2 := by
    rw [hW2]
    exact (touch_setRow _ W1.heap.size X).below ((Below.refl W1.heap.size W1).alloc (Nat.le_refl _) _) (Nat.le_refl _)
  obtain ⟨gp, hgp⟩ : ∃ g, g = W1.heap.size := ⟨_, rfl⟩
  rw [← hgp] at kp2
  rw [← hgp]
  have KP2 := hide kp2
  have HB2 := hide hb2
  have hz2 := hb2.size
  clear hW2 kp2 hb2 hgp
  go_wp2_with (refine wpList_load_row rfl 63 (.tmp 4) rfl gp rfl 63 X (0, 0) _ KP2.out Tryz.underlying63 rfl HPI.out ?_)
  refine (HMG.out _).mono ?_
  rintro e W3 ⟨hcase, hb3⟩
  have he : e = .returned (.tuple #[confV x, .int .i64 u, .int .i64 0]) := by
    rcases hcase with ⟨h1, _⟩ | ⟨x', u', h1, h2⟩
    · cases h1
    · injection h1 with h1
      injection h1 with h3 h4
      rw [h2, h3, h4]
  clear hcase
  subst he
  unfold confV
  go_upto_region 7 with (fail)
  refine gen1 (R := fun W => Code.wp _ _ _ _ W) (fun W4 kC hb4 hz4 => ?_)
  obtain ⟨gc, hgc⟩ : ∃ g, g = W3.heap.size := ⟨_, rfl⟩
  rw [← hgc] at kC
  rw [← hgc]
  have h34 : Below W2.heap.size W2 W4 := hb3.trans (hb4.mono hb3.size)
  have h14 : Below W1.heap.size W1 W4 := HB2.out.trans (h34.mono hz2)
  have KC := hide kC
  have KP := hide (Blk.via h34 KP2.out)
  have HS4 := hide (HS1.out.via h14)
  have HT4 := hide (HT1.out.trans (Turn.of_below h14))
  have HPG := hide (fun W (hb : Below W4.heap.size W4 W) => (show Calls Tryz.prog 75 #[.pointer (some ⟨d, 0, none⟩)] W (fun e w' => e = .returned (.int .i64 (n : Nat)) ∧ w' = W) by
    obtain ⟨o, kd⟩ := (HS4.out.via hb).kd
    exact devPagesF_any _ d _ n n _ _ _ _ _ _ _ W kd))
  clear kC h34 h14 hb3 hb4 hgc
  have hlt2 : decide ((n : Int) < x.p) = false := decide_eq_false (Int.not_lt.2 hp)
  clear hp
  refine wp_region_inv [fun v _ => v = .int .i64 0, fun v _ => v = .bool false, fun v _ => v = .bool false, fun v _ => v = .agg X, fun v _ => v = .int .i64 0, fun v _ => v = .bool false, fun v _ => v = .bool false, fun v _ => v = .bool false, fun v _ => v = .pointer (some ⟨d, 0, none⟩), fun v _ => v = .int .i64 (n : Nat), fun v _ => v = .pointer (some ⟨gc, 1, none⟩), fun v _ => v = .int .i64 x.p, fun v _ => v = .bool false, fun v _ => v = .bool false] (by kernel_rfl) (by kernel_rfl) (by kernel_rfl) ?st ?steps ?fin
  case st =>
    intro i v W W' hWW h
    match i with
    | 0 | 1 | 2 | 3 | 4 | 5 | 6 | 7 | 8 | 9 | 10 | 11 | 12 | 13 => exact h
    | (i + 14) => exact h
  case steps =>
    simp only [stepsI]
    refine ⟨?_, ?_, ?_, ?_, ?_, ?_, ?_, ?_, ?_, ?_, ?_, ?_, ?_, ?_, trivial⟩
    · intro f W hbW hdp
      simp only [fS, Nat.reduceAdd]
      go_wp2
      exact ⟨rfl, _, rfl, rfl, Below.refl _ _⟩
    · intro f W hbW hdp
      have e0 : f 0 = .int .i64 0 := hdp ⟨0, .data⟩ (mfl (by simp) rfl)
      simp only [fS, Nat.reduceAdd, e0]
      go_wp2
      exact ⟨rfl, _, rfl, rfl, Below.refl _ _⟩
    · intro f W hbW hdp
      have e1 : f 1 = .bool false := hdp ⟨1, .data⟩ (mfl (by simp) rfl)
      simp only [fS, Nat.reduceAdd, e1]
      go_wp2
      exact ⟨rfl, _, rfl, rfl, Below.refl _ _⟩
    · intro f W hbW hdp
      have e2 : f 2 = .bool false := hdp ⟨2, .guard⟩ (mfl (by simp) rfl)
      have kB := hide (Blk.via hbW KP.out)
      simp only [fS, Nat.reduceAdd, e2]
      refine wpList_load_rowG (by simp [Region.wanted, yielded]) 63 (.tmp 4) rfl gp rfl 63 X (0, 0) _ kB.out Tryz.underlying63 rfl HPI.out ?_
      exact ⟨rfl, _, rfl, rfl, Below.refl _ _⟩
    · intro f W hbW hdp
      have e2 : f 2 = .bool false := hdp ⟨2, .guard⟩ (mfl (by simp) rfl)
      have e3 : f 3 = .agg X := hdp ⟨3, .data⟩ (mfl (by simp) rfl)
      simp only [fS, Nat.reduceAdd, e2, e3]
      go_wp2_with (go_at_call 74; refine (HCH.out _).mono ?_; rintro e w' ⟨rfl, hb'⟩)
      exact ⟨rfl, _, rfl, rfl, hb'⟩
    · intro f W hbW hdp
      have e2 : f 2 = .bool false := hdp ⟨2, .guard⟩ (mfl (by simp) rfl)
      have e4 : f 4 = .int .i64 0 := hdp ⟨4, .data⟩ (mfl (by simp) rfl)
      simp only [fS, Nat.reduceAdd, e2, e4]
      go_wp2
      exact ⟨rfl, _, rfl, rfl, Below.refl _ _⟩
    · intro f W hbW hdp
      have e2 : f 2 = .bool false := hdp ⟨2, .data⟩ (mfl (by simp) rfl)
      have e5 : f 5 = .bool false := hdp ⟨5, .data⟩ (mfl (by simp) rfl)
      simp only [fS, Nat.reduceAdd, e2, e5]
      go_wp2
      exact ⟨rfl, _, rfl, rfl, Below.refl _ _⟩
    · intro f W hbW hdp
      have e6 : f 6 = .bool false := hdp ⟨6, .data⟩ (mfl (by simp) rfl)
      simp only [fS, Nat.reduceAdd, e6]
      go_wp2
      exact ⟨rfl, _, rfl, rfl, Below.refl _ _⟩
    · intro f W hbW hdp
      have e7 : f 7 = .bool false := hdp ⟨7, .guard⟩ (mfl (by simp) rfl)
      simp only [fS, Nat.reduceAdd, e7]
      go_wp2
      exact ⟨rfl, _, rfl, rfl, Below.refl _ _⟩
    · intro f W hbW hdp
      have e7 : f 7 = .bool false := hdp ⟨7, .guard⟩ (mfl (by simp) rfl)
      have e8 : f 8 = .pointer (some ⟨d, 0, none⟩) := hdp ⟨8, .data⟩ (mfl (by simp) rfl)
      simp only [fS, Nat.reduceAdd, e7, e8]
      go_wp2_with (go_at_call 75; refine (HPG.out _ hbW).mono ?_; rintro e w' ⟨rfl, hw'⟩; obtain rfl := hw'.symm)
      exact ⟨rfl, _, rfl, rfl, Below.refl _ _⟩
    · intro f W hbW hdp
      have e7 : f 7 = .bool false := hdp ⟨7, .guard⟩ (mfl (by simp) rfl)
      simp only [fS, Nat.reduceAdd, e7]
      go_wp2
      exact ⟨rfl, _, rfl, rfl, Below.refl _ _⟩
    · intro f W hbW hdp
      have e7 : f 7 = .bool false := hdp ⟨7, .guard⟩ (mfl (by simp) rfl)
      have e10 : f 10 = .pointer (some ⟨gc, 1, none⟩) := hdp ⟨10, .data⟩ (mfl (by simp) rfl)
      have z1 := (Blk.via hbW KC.out).cell 1
      simp only [fS, Nat.reduceAdd, e7, e10]
      go_wp2
      exact ⟨rfl, _, rfl, rfl, Below.refl _ _⟩
    · intro f W hbW hdp
      have e7 : f 7 = .bool false := hdp ⟨7, .guard⟩ (mfl (by simp) rfl)
      have e9 : f 9 = .int .i64 (n : Nat) := hdp ⟨9, .data⟩ (mfl (by simp) rfl)
      have e11 : f 11 = .int .i64 x.p := hdp ⟨11, .data⟩ (mfl (by simp) rfl)
      simp only [fS, Nat.reduceAdd, e7, e9, e11]
      go_wp2
      exact ⟨rfl, _, rfl, rfl, Below.refl _ _⟩
    · intro f W hbW hdp
      have e7 : f 7 = .bool false := hdp ⟨7, .data⟩ (mfl (by simp) rfl)
      have e12 : f 12 = .bool false := hdp ⟨12, .data⟩ (mfl (by simp) rfl)
      simp only [fS, Nat.reduceAdd, e7, e12]
      go_wp2
      exact ⟨rfl, _, rfl, rfl, Below.refl _ _⟩
  case fin =>
    intro f W hbW hA
    have e13 : f 13 = .bool false := hA 13 (by simp)
    show wpList Tryz.prog #[] (Exit.then _ _) [] _ _
    simp only [fS, Nat.reduceAdd, e13]
    clear hA e13
    have h5 := HS4.out.via hbW
    have HT5 := hide (HT4.out.trans (Turn.of_below hbW))
    have KC5 := hide (Blk.via hbW KC.out)
    have HS5 := hide h5
    obtain ⟨o5, kd5⟩ := h5.kd
    have hgd := KC5.out.ne_ kd5 (by decide)
    have HWL := hide (walLoadF_any fs d (1024 * x.l) _ _ stale fu1 o5 W (by omega) (by omega) HFU1.out kd5)
    have z4 : W.cell? ⟨gc, 4, none⟩ = some (.int .i64 x.l) := KC5.out.cell 4
    clear hbW h5 kd5
    go_wp2_with fail
    refine HWL.out.mono ?_
    rintro e W6 ⟨l, ml, o6, rfl, kl6, hm6, kd6, hl6, hml6, ht6⟩
    rw [HFU2.out] at kd6
    have hs6 := HS5.out.turnd ht6 ⟨o6, kd6⟩
    have HS6 := hide hs6
    have HT6 := hide (HT5.out.trans ht6)
    have KC6 := hide (ht6.blk KC5.out hgd)
    have KL6 := hide kl6
    have HM6 := hide hm6
    have HDL := hide (fun q hq => hs6.lt q hq)
    have hml := hm6.lt
    have hll := kl6.lt
    clear kl6 hm6 kd6 ht6 hs6 z4 hgd
    go_upto_region 13 with (fail)
    have HAL := hide (fun w => (callsIn_wide (n := 9)).1 (wAll_in Fence.wide 9 trivial rfl (.pointer (some ⟨l, 0, none⟩)) ⟨_, rfl⟩ w))
    go_wp2_with (go_at_call 54; refine (HAL.out _).mono ?_; rintro e w' ⟨rfl, hw'⟩; subst hw')
    refine gen2 (R := fun W => Code.wp _ _ _ _ W) (fun W7 kN kB hb7 hz7 => ?_)
    have HB7 := hide hb7
    have KN7 := hide kN
    have KB7 := hide kB
    clear kN kB hb7
    refine (wpIn_wide (n := 9)).1 ?_
    refine wpIn_rangeFunc_ownH (α := Empty) (encs := fun x => x.elim) (Kp := fun _ _ => True) (S := fun xs => xs = []) (Sp := fun _ => False) (N := 0) (w0 := W7) rfl (by omega) (gf := 123) (lb := #[.pointer (some ⟨W6.heap.size + 1, 0, none⟩)]) rfl trivial (enters_of Tryz.func123 (by kernel_rfl) rfl) ?seq
      (fun _ _ => trivial) (fun _ _ _ _ _ _ _ _ => trivial) (Below.refl _ _) (fun x => x.elim)
      (fun _ W => Below W7.heap.size W7 W) (fun _ _ _ => False) ?own (fun _ _ _ _ _ hs _ _ => hs) ?start (fun x _ _ => x.elim) (fun x _ => x.elim) ?assign ?body ?done ?stop
    case seq =>
      intro lp J Jx W hW hJ _ _ h0
      refine (all1_empty 8 (by omega) lp (W6.heap.size + 1) l d ml _ W (Blk.via hW KB7.out) (Blk.via hW (Blk.via HB7.out KL6.out))).mono ?_
      rintro e W' ⟨hv, hb⟩
      exact ⟨hv, .inl ⟨[], rfl, hJ [] W W' none h0 ⟨hb.os, hb.tape, hb.output, hb.size, fun q hq _ => hb.block q hq⟩ (fun r e => by cases e)⟩⟩
    case own =>
      rintro hs W W' row k1 hg hr
      exact k1.grown hg k1.size (fun q hq => by have := (hr q hq).1; omega)
    case start => exact Below.refl _ _
    case assign => intro _ _ x; exact x.elim
    case body => intro _ _ x; exact x.elim
    case stop => rintro _ _ _ _ _ hF _ _; exact hF.elim
    case done =>
      rintro D xs V hD hS i1 hK
      have hDl : D < V.heap.size := (Array.getElem?_eq_some_iff.1 hK).1
      have hDW : W7.heap.size ≤ D := by omega
      have h7 := HB7.out.trans (i1.mono HB7.out.size)
      have KC8 := hide (Blk.via h7 KC6.out)
      have KL8 := hide (Blk.via h7 KL6.out)
      have HM8 := hide (HM6.out.kept (h7.block _ HM6.out.lt))
      have HS8 := hide (HS6.out.via h7)
      have HT8 := hide (HT6.out.trans (Turn.of_below h7))
      have KN8 := hide (Blk.via i1 KN7.out)
      have HKK := hide hK
      have hlt9 := (Blk.via i1 KN7.out).lt
      have hlt8 := KC8.out.lt
      have HPO := hide (fun W => poolNew_any d l x.f W (by omega) hf2)
      have HTX := hide (fun W => txnsNew_any 1 (by omega) (by omega) W)
      have HLN := hide (fun W => locksNew_any W)
      have HHN := hide (fun W => latchNew_any W)
      have HEN := hide (fun W => escrowNew_any W)
      clear hS i1 hK h7
      dsimp only
      go_upto_region 16 with (fail)
      refine wp_region_inv [fun v _ => v = .pointer (some ⟨d, 0, none⟩), fun v _ => v = .agg #[.int .i64 x.b, .int .i64 x.p, .int .i64 x.f, .int .i64 x.c, .int .i64 x.l], fun v _ => v = .pointer (some ⟨l, 0, none⟩), fun v _ => v = .pointer (some ⟨d, 0, none⟩), fun v _ => v = .pointer (some ⟨l, 0, none⟩), fun v _ => v = .iface 24 (.pointer (some ⟨l, 0, none⟩)), fun v _ => v = .pointer (some ⟨gc, 2, none⟩), fun v _ => v = .int .i64 x.f, fun v W => ∃ p : Nat, v = .pointer (some ⟨p, 0, none⟩) ∧ Blk W p 209 (poolC d l x.f (.slice none 0 0)) ∧ w.heap.size ≤ p, fun v W => ∃ p : Nat, v = .pointer (some ⟨p, 0, none⟩), fun v W => ∃ p : Nat, v = .pointer (some ⟨p, 0, none⟩), fun v W => ∃ p : Nat, v = .pointer (some ⟨p, 0, none⟩), fun v _ => v = .int .i64 0, fun v _ => v = .int .i64 1, fun v W => ∃ p mt : Nat, v = .pointer (some ⟨p, 0, none⟩) ∧ Blk W p 226 #[.int .i64 1, .map (some mt)], fun v W => PartsV w.heap.size d l x v W, fun v W => BaseV w.heap.size d l x v W, fun v W => BaseV w.heap.size d l x v W, fun v _ => v = .int .i64 0] (by kernel_rfl) (by kernel_rfl) (by kernel_rfl) ?st ?steps ?fin
      case st =>
        intro i v W W' hWW h
        match i with
        | 0 | 1 | 2 | 3 | 4 | 5 | 6 | 7 | 12 | 13 | 18 => exact h
        | 8 => obtain ⟨p, h1, h2, h3⟩ := h; exact ⟨p, h1, Blk.via hWW h2, h3⟩
        | 9 => exact h
        | 10 => exact h
        | 11 => exact h
        | 14 => obtain ⟨p, mt, h1, h2⟩ := h; exact ⟨p, mt, h1, Blk.via hWW h2⟩
        | 15 => obtain ⟨p, k1, k2, k3, t, mt, h1, h2, h3, h4⟩ := h; exact ⟨p, k1, k2, k3, t, mt, h1, Blk.via hWW h2, Blk.via hWW h3, h4⟩
        | 16 => obtain ⟨b, p, k1, k2, k3, t, mt, h1, h2, h3, h4, h5⟩ := h; exact ⟨b, p, k1, k2, k3, t, mt, h1, Blk.via hWW h2, Blk.via hWW h3, Blk.via hWW h4, h5⟩
        | 17 => obtain ⟨b, p, k1, k2, k3, t, mt, h1, h2, h3, h4, h5⟩ := h; exact ⟨b, p, k1, k2, k3, t, mt, h1, Blk.via hWW h2, Blk.via hWW h3, Blk.via hWW h4, h5⟩
        | (i + 19) => exact h
      case steps =>
        simp only [stepsI]
        refine ⟨?_, ?_, ?_, ?_, ?_, ?_, ?_, ?_, ?_, ?_, ?_, ?_, ?_, ?_, ?_, ?_, ?_, ?_, ?_, trivial⟩
        · intro f W hbW hdp
          simp only [fS, Nat.reduceAdd]
          go_wp2
          exact ⟨rfl, _, rfl, rfl, Below.refl _ _⟩
        · intro f W hbW hdp
          have kc := Blk.via hbW KC8.out
          have z0 := kc.cell 0
          have z1 := kc.cell 1
          have z2 := kc.cell 2
          have z3 := kc.cell 3
          have z4 := kc.cell 4
          have zl := kc.lt
          simp only [fS, Nat.reduceAdd]
          go_wp2
          exact ⟨rfl, _, rfl, rfl, Below.refl _ _⟩
        · intro f W hbW hdp
          simp only [fS, Nat.reduceAdd]
          go_wp2
          exact ⟨rfl, _, rfl, rfl, Below.refl _ _⟩
        · intro f W hbW hdp
          simp only [fS, Nat.reduceAdd]
          go_wp2
          exact ⟨rfl, _, rfl, rfl, Below.refl _ _⟩
        · intro f W hbW hdp
          simp only [fS, Nat.reduceAdd]
          go_wp2
          exact ⟨rfl, _, rfl, rfl, Below.refl _ _⟩
        · intro f W hbW hdp
          have e4 : f 4 = .pointer (some ⟨l, 0, none⟩) := hdp ⟨4, .data⟩ (mfl (by simp) rfl)
          simp only [fS, Nat.reduceAdd, e4]
          go_wp2
          exact ⟨rfl, _, rfl, rfl, Below.refl _ _⟩
        · intro f W hbW hdp
          simp only [fS, Nat.reduceAdd]
          go_wp2
          exact ⟨rfl, _, rfl, rfl, Below.refl _ _⟩
        · intro f W hbW hdp
          have e6 : f 6 = .pointer (some ⟨gc, 2, none⟩) := hdp ⟨6, .data⟩ (mfl (by simp) rfl)
          have z2 := (Blk.via hbW KC8.out).cell 2
          simp only [fS, Nat.reduceAdd, e6]
          go_wp2
          exact ⟨rfl, _, rfl, rfl, Below.refl _ _⟩
        · intro f W hbW hdp
          have e3 : f 3 = .pointer (some ⟨d, 0, none⟩) := hdp ⟨3, .data⟩ (mfl (by simp) rfl)
          have e5 : f 5 = .iface 24 (.pointer (some ⟨l, 0, none⟩)) := hdp ⟨5, .data⟩ (mfl (by simp) rfl)
          have e7 : f 7 = .int .i64 x.f := hdp ⟨7, .data⟩ (mfl (by simp) rfl)
          simp only [fS, Nat.reduceAdd, e3, e5, e7]
          go_wp2_with (go_at_call 76; refine (HPO.out _).mono ?_; rintro e w' ⟨p, rfl, kp, hlp, hb'⟩)
          exact ⟨rfl, _, rfl, ⟨p, rfl, kp, Nat.le_trans (Nat.le_trans HT8.out.size hbW.size) hlp⟩, hb'⟩
        · intro f W hbW hdp
          simp only [fS, Nat.reduceAdd]
          go_wp2_with (go_at_call 77; refine (HLN.out _).mono ?_; rintro e w' ⟨⟨p, rfl, hlp⟩, hb'⟩)
          exact ⟨rfl, _, rfl, ⟨p, rfl⟩, hb'⟩
        · intro f W hbW hdp
          simp only [fS, Nat.reduceAdd]
          go_wp2_with (go_at_call 78; refine (HHN.out _).mono ?_; rintro e w' ⟨⟨p, rfl, hlp⟩, hb'⟩)
          exact ⟨rfl, _, rfl, ⟨p, rfl⟩, hb'⟩
        · intro f W hbW hdp
          simp only [fS, Nat.reduceAdd]
          go_wp2_with (go_at_call 79; refine (HEN.out _).mono ?_; rintro e w' ⟨⟨p, rfl, hlp⟩, hb'⟩)
          exact ⟨rfl, _, rfl, ⟨p, rfl⟩, hb'⟩
        · intro f W hbW hdp
          have zn := (Blk.via hbW KN8.out).cell 0
          have zl := (Blk.via hbW KN8.out).lt
          simp only [fS, Nat.reduceAdd]
          go_wp2
          exact ⟨rfl, _, rfl, rfl, Below.refl _ _⟩
        · intro f W hbW hdp
          have e12 : f 12 = .int .i64 0 := hdp ⟨12, .data⟩ (mfl (by simp) rfl)
          simp only [fS, Nat.reduceAdd, e12]
          go_wp2
          exact ⟨rfl, _, rfl, rfl, Below.refl _ _⟩
        · intro f W hbW hdp
          have e13 : f 13 = .int .i64 1 := hdp ⟨13, .data⟩ (mfl (by simp) rfl)
          simp only [fS, Nat.reduceAdd, e13]
          go_wp2_with (go_at_call 80; refine (HTX.out _).mono ?_; rintro e w' ⟨p, mt, rfl, kt, hlp, hb'⟩)
          exact ⟨rfl, _, rfl, ⟨p, mt, rfl, kt⟩, hb'⟩
        · intro f W hbW hdp
          have e0 : f 0 = .pointer (some ⟨d, 0, none⟩) := hdp ⟨0, .data⟩ (mfl (by simp) rfl)
          have e1 : f 1 = .agg #[.int .i64 x.b, .int .i64 x.p, .int .i64 x.f, .int .i64 x.c, .int .i64 x.l] := hdp ⟨1, .data⟩ (mfl (by simp) rfl)
          have e2 : f 2 = .pointer (some ⟨l, 0, none⟩) := hdp ⟨2, .data⟩ (mfl (by simp) rfl)
          have e8 : ∃ p : Nat, (f 8) = .pointer (some ⟨p, 0, none⟩) ∧ Blk W p 209 (poolC d l x.f (.slice none 0 0)) ∧ w.heap.size ≤ p := hdp ⟨8, .data⟩ (mfl (by simp) rfl)
          have e9 : ∃ p : Nat, (f 9) = .pointer (some ⟨p, 0, none⟩) := hdp ⟨9, .data⟩ (mfl (by simp) rfl)
          have e10 : ∃ p : Nat, (f 10) = .pointer (some ⟨p, 0, none⟩) := hdp ⟨10, .data⟩ (mfl (by simp) rfl)
          have e11 : ∃ p : Nat, (f 11) = .pointer (some ⟨p, 0, none⟩) := hdp ⟨11, .data⟩ (mfl (by simp) rfl)
          have e14 : ∃ p mt : Nat, (f 14) = .pointer (some ⟨p, 0, none⟩) ∧ Blk W p 226 #[.int .i64 1, .map (some mt)] := hdp ⟨14, .data⟩ (mfl (by simp) rfl)
          obtain ⟨p, h8, kp, hpN⟩ := e8
          obtain ⟨k1, h9⟩ := e9
          obtain ⟨k2, h10⟩ := e10
          obtain ⟨k3, h11⟩ := e11
          obtain ⟨t, mt, h14, kt⟩ := e14
          simp only [fS, Nat.reduceAdd, e0, e1, e2]
          simp only [h8, h9, h10, h11, h14]
          clear h8 h9 h10 h11 h14
          go_wp2
          exact ⟨rfl, _, rfl, Exists.intro p ⟨k1, k2, k3, t, mt, rfl, kp, kt, hpN⟩, Below.refl _ _⟩
        · intro f W hbW hdp
          have e15 : PartsV w.heap.size d l x (f 15) W := hdp ⟨15, .data⟩ (mfl (by simp) rfl)
          obtain ⟨p, k1, k2, k3, t, mt, h15, kp, kt, hpN⟩ := e15
          simp only [fS, Nat.reduceAdd]
          simp only [h15]
          clear h15
          go_wp2
          exact ⟨rfl, _, rfl, Exists.intro _ ⟨p, k1, k2, k3, t, mt, rfl, Blk.new _ _ _, kp.alloc _, kt.alloc _, hpN⟩, (Below.refl _ _).alloc (Nat.le_refl _) _⟩
        · intro f W hbW hdp
          have e16 : BaseV w.heap.size d l x (f 16) W := hdp ⟨16, .data⟩ (mfl (by simp) rfl)
          obtain ⟨b, p, k1, k2, k3, t, mt, h16, kb, kp, kt, hpN⟩ := e16
          simp only [fS, Nat.reduceAdd]
          simp only [h16]
          clear h16
          go_wp2
          exact ⟨rfl, _, rfl, Exists.intro b ⟨p, k1, k2, k3, t, mt, rfl, kb, kp, kt, hpN⟩, Below.refl _ _⟩
        · intro f W hbW hdp
          simp only [fS, Nat.reduceAdd]
          go_wp2
          exact ⟨rfl, _, rfl, rfl, Below.refl _ _⟩
      case fin =>
        intro f W hbW hA
        have a17 : BaseV w.heap.size d l x (f 17) W := hA 17 (by simp)
        have e18 : f 18 = .int .i64 0 := hA 18 (by simp)
        show wpList Tryz.prog #[] (Exit.then _ _) [] _ _
        simp only [fS, Nat.reduceAdd, e18]
        clear hA e18
        obtain ⟨b, p, k1, k2, k3, t, mt, h17, kb, kp, kt, hpN⟩ := a17
        simp only [h17]
        have KB9 := hide kb
        have KP9 := hide kp
        have KT9 := hide kt
        have HB9 := hide hbW
        clear h17 kb kp kt hbW
        go_wp2_with fail
        have hDk : W.heap[D]? = some (.deferred (some [])) := (HB9.out.block D hDl).trans HKK.out
        have hg6 := grownBy_putObj' W D (.deferred none)
        have o1 : ∀ {q : Nat} {t : TypeId} {c : Array Value}, Blk W q t c → Blk (W.putObj D (.deferred none)) q t c := fun k => (World.putObj_heap_other (blk_ne_mark k hDk)).trans k
        have tD : Turn (fun q => q = D) W (W.putObj D (.deferred none)) := ⟨hg6.os, hg6.tape, hg6.output, hg6.size, fun q hq hn => hg6.block q hq (fun e => by injection e with e; exact hn e)⟩
        have hsz7 := HB7.out.size
        refine leave_mark (v := .tuple #[.pointer (some ⟨b, 0, none⟩), .int .i64 0]) hDk (by simp [results, Tryz.results26, go_sem]) ⟨b, l, ml, p, t, rfl, ⟨⟨k1, k2, k3, o1 KB9.out⟩, o1 (Blk.via HB9.out KL8.out), (HM8.out.kept (HB9.out.block _ HM8.out.lt)).kept (World.putObj_heap_other (by omega)), o1 KP9.out, mt, o1 KT9.out⟩, (HS8.out.via HB9.out).keep tD (fun q hq e => by have := HDL.out q hq; omega), ?_, hpN⟩
        have hT := HT8.out.trans (Turn.of_below HB9.out)
        have hlw := HS.out.lt
        exact ⟨tD.os.trans hT.os, tD.tape.trans hT.tape, tD.output.trans hT.output, Nat.le_trans hT.size tD.size, fun q hq hn => (tD.block q (Nat.lt_of_lt_of_le hq hT.size) (fun e => by have := HT6.out.size; omega)).trans (hT.block q hq hn)⟩
end Go.Proofs.YtnanlaefehaifaaGreat
namespace Go.Proofs.YtnanlaefehaifaaGreat
open Go.RowKit Go.Shelf Go.Maps
def zPg : List UInt8 := List.replicate 512 0
theorem zPg_zero : (zPg.map byteV).toArray = Tryz.zeroCells63 := by rfl
end Go.Proofs.YtnanlaefehaifaaGreat
namespace Go.Proofs.YtnanlaefehaifaaGreat
open Go.RowKit Go.Shelf Go.Maps
theorem flat_rep (n : Nat) : (List.replicate n zPg).flatMap (fun p => p.map byteV) = List.replicate (n * 512) (byteV 0) := by
  induction n with
  | zero => simp
  | succ n ih =>
    rw [List.replicate_succ, List.flatMap_cons, ih, zPg, List.map_replicate, List.replicate_append_replicate]
    congr 1
    omega
theorem zPg_length : zPg.length = 512 := List.length_replicate
theorem pagesZ_eq (n : Nat) : pagesZ n = ((List.replicate n zPg).flatMap (fun p => p.map byteV)).toArray := by
  rw [flat_rep]
  have hz : (Value.agg Tryz.zeroCells63).cells = (zPg.map byteV).toArray := zPg_zero.symm
  unfold pagesZ
  rw [hz]
  unfold madeCells
  apply Array.ext'
  rw [Array.toList_map]
  refine List.eq_replicate_iff.2 ⟨by simp, ?_⟩
  intro v hv
  obtain ⟨i, hi, rfl⟩ := List.mem_map.1 hv
  have hs : ((zPg.map byteV).toArray).size = 512 := by rw [List.size_toArray, List.length_map, zPg_length]
  rw [hs]
  have hlt : i % 512 < ((zPg.map byteV).toArray).size := by rw [hs]; exact Nat.mod_lt _ (by omega)
  rw [getElem!_pos (zPg.map byteV).toArray (i % 512) hlt]
  rw [List.getElem_toArray, List.getElem_map]
  congr 1
  exact List.getElem_replicate _
theorem DevS.fresh {w : World} {d g m n : Nat} (kd : Blk w d 107 (devC (.slice (some ⟨g, 0, none⟩) n n) (.map (some m)) (.slice none 0 0) 0 0 0 0 0)) (kg : Blk w g 63 (pagesZ n)) (hm : MapF w m 0 (fun _ => none)) :
    DevS w d g m n false 0 (.slice none 0 0) 0 0 0 (List.replicate n zPg) 0 (fun _ => none) (fun _ => []) :=
  ⟨⟨0, kd⟩, by rw [← pagesZ_eq]; exact kg, by simp, fun p hp => (by rw [List.eq_of_mem_replicate hp]; exact zPg_length), hm, fun _ p hp => (by cases hp),
    fun _ => World.ownsRow_nil _ _ _ _, fun _ h => (by cases h), fun _ _ _ _ h => (by cases h)⟩
end Go.Proofs.YtnanlaefehaifaaGreat
namespace Go.Proofs.YtnanlaefehaifaaGreat
open Go.RowKit Go.Shelf Go.Maps
def FrT (p : Nat) (W : World) (q : Nat) : Prop := p ≤ q ∧ ∃ cs, Blk W q 246 cs
def StB (d p : Nat) (W : World) (q : Nat) : Prop := q = d ∨ q = p ∨ FrT p W q
def StT (d p : Nat) (W W' : World) : Prop := Turn (StB d p W) W W'
theorem StT.refl (d p : Nat) (W : World) : StT d p W W := ⟨rfl, rfl, rfl, Nat.le_refl _, fun _ _ _ => rfl⟩
theorem StT.trans {d p : Nat} {A B C : World} (h : StT d p A B) (k : StT d p B C) : StT d p A C :=
  ⟨k.os.trans h.os, k.tape.trans h.tape, k.output.trans h.output, Nat.le_trans h.size k.size, fun q hq hn =>
    (k.block q (Nat.lt_of_lt_of_le hq h.size) (fun hs => hn (by
      rcases hs with h1 | h1 | ⟨hl, cs, h1⟩
      · exact .inl h1
      · exact .inr (.inl h1)
      · exact .inr (.inr ⟨hl, cs, (h.block q hq hn).symm.trans h1⟩)))).trans (h.block q hq hn)⟩
theorem StT.of_below {d p : Nat} {A B : World} (h : Below A.heap.size A B) : StT d p A B := Turn.of_below h
theorem StT.block {d p : Nat} {A B : World} (h : StT d p A B) (q : Nat) (hq : q < A.heap.size) (h1 : q ≠ d) (h2 : q ≠ p) (h3 : ¬ FrT p A q) : B.heap[q]? = A.heap[q]? :=
  Turn.block h q hq (by rintro (e | e | e); exact h1 e; exact h2 e; exact h3 e)
theorem StT.blk {d p : Nat} {A B : World} (h : StT d p A B) {q : Nat} {t : TypeId} {cs : Array Value} (k : Blk A q t cs) (h1 : q ≠ d) (h2 : q ≠ p) (ht : t ≠ 246) : Blk B q t cs :=
  (h.block q k.lt h1 h2 (fun ⟨_, _, e⟩ => k.ne_ e ht rfl)).trans k
theorem StT.other {d p : Nat} {A B : World} (h : StT d p A B) {q : Nat} {o : Obj} (k : A.heap[q]? = some o) (hc : o.isCells = false) (hd : ∃ t cs, Blk A d t cs) (hp : ∃ t cs, Blk A p t cs) : B.heap[q]? = some o := by
  have hne : ∀ r, (∃ t cs, Blk A r t cs) → q ≠ r := by
    rintro r ⟨t, cs, kr⟩ rfl
    rw [show A.heap[q]? = _ from kr] at k
    injection k with k
    subst k
    cases hc
  refine (h.block q (Array.getElem?_eq_some_iff.1 k).1 (hne d hd) (hne p hp) ?_).trans k
  exact fun ⟨_, cs, e⟩ => hne q ⟨_, cs, e⟩ rfl
section law
variable {F : Fence} {n : Nat} {P : Program}
def SeqW {α : Type} (F : Fence) (n : Nat) (P : Program) (g : Nat) (lb : Array Value) (encs : α → Array Value) (R : World → World → Prop) (Inv : World → Prop) (Bs : Nat → Prop) (T : List α → α → Prop) (S Sp : List α → Prop) (w : World) : Prop :=
  ∀ (l : Nat) (J Jx : List α → World → Prop) (W : World), Below w.heap.size w W → (∀ pre A, J pre A → Inv A) → (∀ pre A B, J pre A → R A B → J pre B) →
    (∀ pre x W1, J pre W1 → T pre x → YieldAt F (n - 1) P l (encs x) W1 fun e W' =>
      (e = .returned (.bool true) ∧ J (pre ++ [x]) W' ∧ Turn Bs W1 W') ∨ (e = .returned (.bool false) ∧ Jx (pre ++ [x]) W')) →
    J [] W →
    CallsIn F n P g (#[.func (.yield l) #[] #[]] ++ lb) W fun e W' => (∃ v, e = .returned v) ∧ ((∃ xs, S xs ∧ J xs W') ∨ (∃ pre, Sp pre ∧ Jx pre W'))
def stPost {α : Type} (Bs : Nat → Prop) (I : List α → World → Prop) (Ix : Code → List α → World → Prop) (xs : List α) (W : World) : Exit → Act → World → Prop
  | .normal, _, W' => Turn Bs W W' ∧ I xs W'
  | .ret, _, W' => Turn Bs W W' ∧ Ix .ret xs W'
  | .exit id, _, W' => Turn Bs W W' ∧ Ix (.exit id) xs W'
  | .goto t, _, W' => Turn Bs W W' ∧ Ix (.goto t) xs W'
  | .panic _, _, _ => False
  | .outgrown, _, _ => False
def OwnO {β : Type} (B : Nat) (I : β → World → Prop) : Prop := ∀ (s : β) (W : World) (q : Nat) (o o' : Obj), I s W → B ≤ q → W.heap[q]? = some o → o.isCells = false → I s (W.putObj q o')
theorem wpIn_rangeFunc_st {α : Type} {g : Operand} {ps : Array Tmp} {assign body : Code} {Q : Exit → Act → World → Prop} {a : Act} {w : World}
    (hro : F.round = none) (h1 : 1 ≤ n) {gf : Nat} {lb : Array Value} (hg : a.eval g = .func (.func gf) #[] lb) (hFg : F.fn gf) (eg : ∀ args w, (callFunc gf args).run P w = .ok (.enter gf args) w)
    {encs : α → Array Value} {R : World → World → Prop} {Inv : World → Prop} {Bs : Nat → Prop} {T : List α → α → Prop} {S Sp : List α → Prop} (hseq : SeqW F (n - 1) P gf lb encs R Inv Bs T S Sp w)
    (hBs : ∀ q, Bs q → q < w.heap.size) (hps : ∀ x, (encs x).size = ps.size)
    (I : List α → World → Prop) (Ix : Code → List α → World → Prop) (hInv : ∀ pre A, I pre A → Inv A) (hIR : ∀ pre A B, I pre A → R A B → I pre B) (hRk : ∀ pre A B, I pre A → R A B → ∀ (q : Nat) (o : Obj), A.heap[q]? = some o → o.isCells = false → B.heap[q]? = some o)
    (hI : OwnO w.heap.size I) (hIa : ∀ pre A o, I pre A → I pre (A.alloc o)) (hIx : ∀ c, OwnO w.heap.size (Ix c)) (h0 : I [] w)
    (Ax : List α → α → Act → World → Prop) (hAx : ∀ pre x a', OwnO w.heap.size (fun (_ : Unit) W => Ax pre x a' W))
    (hassign : ∀ (l : Nat) (pre : List α) (x : α) (W : World) (K : Act → World → Prop), I pre W → T pre x → (∀ a' W', Turn Bs W W' → I pre W' → Ax pre x a' W' → K a' W') →
      assign.wpIn (F.inRound l) (n - 1 - 1) P (Exit.then K (fun _ _ _ => False)) { tmps := (ps.zip (encs x)).foldl (fun t (p, v) => t.setIfInBounds p v) a.tmps, defers := [] } W)
    (hbody : ∀ (l : Nat) (pre : List α) (x : α) (a' : Act) (W : World), w.heap.size ≤ l → (∃ r, W.heap[l]? = some (.loop r)) → I pre W → Ax pre x a' W → T pre x → body.wpIn (F.inRound l) (n - 1 - 1) P (stPost Bs I Ix (pre ++ [x]) W) a' W)
    (hdone : ∀ (D : Nat) (xs : List α) (W : World), w.heap.size ≤ D → S xs → I xs W → W.heap[D]? = some (.deferred (some [])) → Q .normal { a with defers := { target := .collected D, args := #[] } :: a.defers } W)
    (hstop : ∀ (D : Nat) (c : Code) (pre : List α) (W : World), w.heap.size ≤ D → Sp pre → Ix c pre W → W.heap[D]? = some (.deferred (some [])) → c.wpIn F n P Q { a with defers := { target := .collected D, args := #[] } :: a.defers } W) :
    (Code.rangeFunc g ps assign body).wpIn F n P Q a w := by
  refine wpIn_rangeFunc fun fn hfn => ?_
  rw [hro]
  let rc : LoopState → Option Code → Loop := fun st pe => { state := st, pending := pe, fn, tmps := a.tmps, params := ps, assign, body, defers := w.heap.size }
  let W1 := (w.alloc (.deferred (some []))).alloc (.loop (rc .ready none))
  have hz1 : W1.heap.size = w.heap.size + 2 := by simp [W1]
  have hL1 : W1.heap[w.heap.size + 1]? = some (.loop (rc .ready none)) := by
    have := World.alloc_heap_new (w.alloc (.deferred (some []))) (.loop (rc .ready none))
    rwa [World.size_alloc] at this
  have hD1 : W1.heap[w.heap.size]? = some (.deferred (some [])) := (Below.heap_alloc _ _ _ (by simp)).trans (World.alloc_heap_new w _)
  have hb1 : Below w.heap.size w W1 := ((Below.refl _ w).alloc (Nat.le_refl _) _).alloc (by simp) _
  refine ⟨w.heap.size + 1, [{ target := .collected w.heap.size, args := #[] }], W1, { target := .fn (.func gf) lb, args := #[.func (.yield (w.heap.size + 1)) #[] #[]] }, W1, gf, #[.func (.yield (w.heap.size + 1)) #[] #[]] ++ lb, W1,
    run_enterLoop_outer _ _ _ _ _, ?_, ?_, ?_, fun _ => h1, ?_⟩
  · simp only [resolve, hg]
    simp [go_sem]
  · intro f' hf'
    simp [Target.leads] at hf'
    subst hf'
    exact hFg
  · simp [invoke, go_sem, eg]
  · refine (hseq (w.heap.size + 1)
      (fun pre W => I pre W ∧ W.heap[w.heap.size + 1]? = some (.loop (rc .ready none)) ∧ W.heap[w.heap.size]? = some (.deferred (some [])))
      (fun pre W => ∃ c, Ix c pre W ∧ W.heap[w.heap.size + 1]? = some (.loop (rc .done (some c))) ∧ W.heap[w.heap.size]? = some (.deferred (some [])))
      W1 hb1 (fun pre A hj => hInv _ _ hj.1) (fun pre A B hj hr => ⟨hIR _ _ _ hj.1 hr, hRk _ _ _ hj.1 hr _ _ hj.2.1 rfl, hRk _ _ _ hj.1 hr _ _ hj.2.2 rfl⟩) ?_ ⟨hIa _ _ _ (hIa _ _ _ h0), hL1, hD1⟩).mono ?_
    · rintro pre x W ⟨hi, hl, hd⟩ ht
      have hlt : w.heap.size + 1 < W.heap.size := (Array.getElem?_eq_some_iff.1 hl).1
      refine ⟨fn, _, assign, body, run_yield (P := P) (args := encs x) hl (hps x), roundIn_of_wpIn hfn (hassign _ pre x W _ hi ht fun a' Wa hta hia hax => ?_)⟩
      have hnb : ∀ q, w.heap.size ≤ q → ¬ Bs q := fun q hq hs => by have := hBs q hs; omega
      have hla : Wa.heap[w.heap.size + 1]? = some (.loop (rc .ready none)) := (hta.block _ hlt (hnb _ (by omega))).trans hl
      have hda : Wa.heap[w.heap.size]? = some (.deferred (some [])) := (hta.block _ (by omega) (hnb _ (Nat.le_refl _))).trans hd
      have hza := hta.size
      refine ⟨_, run_beginRound hla rfl, ?_⟩
      let Wb := Wa.putObj (w.heap.size + 1) (.loop { rc .ready none with state := .busy })
      have hlb : Wb.heap[w.heap.size + 1]? = some (.loop { rc .ready none with state := .busy }) := World.putObj_heap_same (by omega)
      have hdb : Wb.heap[w.heap.size]? = some (.deferred (some [])) := (World.putObj_heap_other (by omega)).trans hda
      have hzb : Wb.heap.size = Wa.heap.size := by simp [Wb, World.putObj]
      refine wpIn_mono (hbody _ pre x a' Wb (by omega) ⟨_, hlb⟩ (hI _ _ _ _ _ hia (by omega) hla rfl) (hAx pre x a' () _ _ _ _ hax (by omega) hla rfl) ht) ?_
      have fin : ∀ (jump : Option Code) (W3 : World), Turn Bs Wb W3 →
          (Instr.endRound (w.heap.size + 1) jump).run P W3 = .ok (.bool jump.isNone) (W3.putObj (w.heap.size + 1) (.loop (rc (if jump.isNone then .ready else .done) jump))) ∧
          W3.heap[w.heap.size + 1]? = some (.loop { rc .ready none with state := .busy }) ∧
          (W3.putObj (w.heap.size + 1) (.loop (rc (if jump.isNone then .ready else .done) jump))).heap[w.heap.size + 1]? = some (.loop (rc (if jump.isNone then .ready else .done) jump)) ∧
          (W3.putObj (w.heap.size + 1) (.loop (rc (if jump.isNone then .ready else .done) jump))).heap[w.heap.size]? = some (.deferred (some [])) := fun jump W3 h3 => by
        have hl3 := (h3.block _ (by omega) (hnb _ (by omega))).trans hlb
        have hd3 := (h3.block _ (by omega) (hnb _ (Nat.le_refl _))).trans hdb
        exact ⟨run_endRound (P := P) jump hl3, hl3, World.putObj_heap_same (Array.getElem?_eq_some_iff.1 hl3).1, (World.putObj_heap_other (by omega)).trans hd3⟩
      rintro e a3 W3 hp
      cases e with
      | normal =>
        obtain ⟨h3, hi3⟩ := hp
        obtain ⟨hr, hl3, hl4, hd4⟩ := fin none W3 h3
        refine ⟨_, _, hr, .inl ⟨rfl, ⟨hI _ _ _ _ _ hi3 (by omega) hl3 rfl, hl4, hd4⟩, ?_⟩⟩
        refine ⟨h3.os.trans hta.os, h3.tape.trans hta.tape, h3.output.trans hta.output, ?_, fun q hq hn => ?_⟩
        · have := h3.size
          simp [World.putObj]
          omega
        · by_cases he : q = w.heap.size + 1
          · subst he
            exact hl4.trans hl.symm
          · exact (World.putObj_heap_other he).trans ((h3.block q (by omega) hn).trans ((World.putObj_heap_other he).trans (hta.block q hq hn)))
      | ret =>
        obtain ⟨h3, hi3⟩ := hp
        obtain ⟨hr, hl3, hl4, hd4⟩ := fin (some .ret) W3 h3
        exact ⟨_, _, hr, .inr ⟨rfl, .ret, hIx _ _ _ _ _ _ hi3 (by omega) hl3 rfl, hl4, hd4⟩⟩
      | exit id =>
        obtain ⟨h3, hi3⟩ := hp
        obtain ⟨hr, hl3, hl4, hd4⟩ := fin (some (.exit id)) W3 h3
        exact ⟨_, _, hr, .inr ⟨rfl, .exit id, hIx _ _ _ _ _ _ hi3 (by omega) hl3 rfl, hl4, hd4⟩⟩
      | goto t =>
        obtain ⟨h3, hi3⟩ := hp
        obtain ⟨hr, hl3, hl4, hd4⟩ := fin (some (.goto t)) W3 h3
        exact ⟨_, _, hr, .inr ⟨rfl, .goto t, hIx _ _ _ _ _ _ hi3 (by omega) hl3 rfl, hl4, hd4⟩⟩
      | panic ch => exact hp.elim
      | outgrown => exact hp.elim
    · rintro e W2 ⟨⟨v, rfl⟩, (⟨xs, hS, hi, hl, hk⟩ | ⟨pre, hSp, c, hi, hl, hk⟩)⟩
      · exact ⟨none, _, run_endLoop (P := P) hl (by simp [rc]), hdone _ xs _ (Nat.le_refl _) hS (hI _ _ _ _ _ hi (by omega) hl rfl) ((World.putObj_heap_other (by omega)).trans hk)⟩
      · exact ⟨some c, _, run_endLoop (P := P) hl (by simp [rc]), hstop _ c pre _ (Nat.le_refl _) hSp (hIx c _ _ _ _ _ hi (by omega) hl rfl) ((World.putObj_heap_other (by omega)).trans hk)⟩
end law
end Go.Proofs.YtnanlaefehaifaaGreat
namespace Go.Proofs.YtnanlaefehaifaaGreat
open Go.RowKit Go.Maps
theorem grown_of_touch' {w w' : World} {g : Nat} (ht : Touch g (g + 1) w w') : w.grownBy w' (some g) := ⟨ht.os, ht.tape, ht.output, Nat.le_of_eq ht.size.symm, fun k _ hne => ht.block k (by rcases Nat.lt_trichotomy k g with h | h | h; exact .inl h; exact absurd (by rw [h]) hne; exact .inr h)⟩
theorem grown_trans' {a b c : World} {row : Option Nat} (h1 : a.grownBy b row) (h2 : b.grownBy c row) : a.grownBy c row :=
  ⟨h2.os.trans h1.os, h2.tape.trans h1.tape, h2.output.trans h1.output, Nat.le_trans h1.size h2.size, fun k hk hn => (h2.block k (Nat.lt_of_lt_of_le hk h1.size) hn).trans (h1.block k hk hn)⟩
end Go.Proofs.YtnanlaefehaifaaGreat
namespace Go.Proofs.YtnanlaefehaifaaGreat
open Go.RowKit Go.Maps
def ptrV (a : Nat) : Value := .pointer (some ⟨a, 0, none⟩)
theorem ptrV_one (l : List Nat) : ∀ u ∈ l.map ptrV, u.oneCell' = true := by
  intro u hu
  obtain ⟨a, _, rfl⟩ := List.mem_map.1 hu
  rfl
theorem size_frp : (Tryz.prog.info? 246).map (·.size) = some 1 := by kernel_rfl
theorem zero_frp (w : World) : (zeroValue 246).run Tryz.prog w = .ok (.pointer none) w := by kernel_rfl
theorem zero_cellsP (n : Nat) : (Builtin.zeroCells (Value.pointer none).cells n).toList = List.replicate n (Value.pointer none) := by
  unfold Builtin.zeroCells
  apply List.ext_getElem
  · simp [Value.cells]
  · intro i h1 h2
    simp [Value.cells, Nat.mod_one]
def posA : List Nat → Nat → Option Nat
  | [], _ => none
  | a :: l, x => if a = x then some 0 else (posA l x).map (· + 1)
theorem posA_some {l : List Nat} {x i : Nat} (h : posA l x = some i) : l[i]? = some x ∧ ∀ j, j < i → l[j]? ≠ some x := by
  induction l generalizing i with
  | nil => cases h
  | cons a r ih =>
    unfold posA at h
    split at h
    · rename_i ha
      injection h with h
      subst h ha
      exact ⟨rfl, fun j hj => absurd hj (by omega)⟩
    · rename_i ha
      cases hp : posA r x with
      | none => rw [hp] at h; cases h
      | some k =>
        rw [hp] at h
        simp only [Option.map_some, Option.some.injEq] at h
        subst h
        obtain ⟨h1, h2⟩ := ih hp
        refine ⟨by simpa using h1, fun j hj => ?_⟩
        cases j with
        | zero => intro e; injection e with e; exact ha e
        | succ j => exact h2 j (by omega)
theorem posA_none {l : List Nat} {x : Nat} (h : posA l x = none) : x ∉ l := by
  induction l with
  | nil => simp
  | cons a r ih =>
    unfold posA at h
    split at h
    · cases h
    · rename_i ha
      cases hp : posA r x with
      | none =>
        intro hm
        rcases List.mem_cons.1 hm with e | e
        · exact ha e.symm
        · exact ih hp e
      | some k => rw [hp] at h; cases h
theorem posA_mem {l : List Nat} {x : Nat} (h : x ∈ l) : ∃ i, posA l x = some i := by
  cases hp : posA l x with
  | none => exact absurd h (posA_none hp)
  | some i => exact ⟨i, rfl⟩
def indexI (l : List Nat) (x : Nat) : Int := match posA l x with | some i => (i : Int) | none => -1
def LiveF (W : World) (a : Nat) : Prop := ∃ cs, Blk W a 250 cs
theorem run_eqP {W : World} {a b : Nat} (ha : LiveF W a) (hb : LiveF W b) : (binOp .eql 246 (.pointer (some ⟨a, 0, none⟩)) (.pointer (some ⟨b, 0, none⟩))).run Tryz.prog W = .ok (.bool (a == b)) W := by
  obtain ⟨ca, ka⟩ := ha
  obtain ⟨cb, kb⟩ := hb
  obtain ⟨i, hi, hs⟩ := Option.map_eq_some_iff.1 (show (Tryz.prog.info? 250).map (·.size) = some 515 by kernel_rfl)
  have hu : Tryz.prog.underlying 246 = some (.pointer 250) := Tryz.underlying246
  have key : ∀ n, (Op.equalIn (n + 1) 246 (.pointer (some ⟨a, 0, none⟩)) (.pointer (some ⟨b, 0, none⟩))).run Tryz.prog W = .ok (a == b) W := by
    intro n
    by_cases hab : a = b
    · subst hab
      simp [Op.equalIn, run_underlying hu, sizeOf, typeInfo, hi, run_sameAddr_same]
    · have hne : (⟨a, 0, none⟩ : Addr) ≠ ⟨b, 0, none⟩ := fun e => hab (by injection e)
      have he : (a == b) = false := beq_eq_false_iff_ne.2 hab
      simp [Op.equalIn, run_underlying hu, sizeOf, typeInfo, hi, hs, run_sameAddr_other W hne ka kb, he]
  have h2 : (Op.equal 246 (.pointer (some ⟨a, 0, none⟩)) (.pointer (some ⟨b, 0, none⟩))).run Tryz.prog W = .ok (a == b) W := key 9999
  simp only [binOp]
  simp [h2]
def RowF (b : Nat) (W : World) (v : Value) (l : List Nat) : Prop := W.ownsRow b 246 1 v l.length (l.map ptrV)
theorem RowF.frT {b : Nat} {W : World} {v : Value} {l : List Nat} (h : RowF b W v l) {q : Nat} (hq : v.ownBlock = some q) : FrT b W q := by
  obtain ⟨cur, hc⟩ := row_obj h hq
  exact ⟨(World.ownsRow.lt h q hq).1, cur, hc⟩
theorem RowF.slice {b : Nat} {W : World} {v : Value} {l : List Nat} (h : RowF b W v l) : ∃ (A : Option Addr) (c : Nat), v = .slice A l.length c ∧ l.length ≤ c ∧ c ≤ maxLen ∧ Reads W W.heap.size 1 A l.length (l.map ptrV) := by
  obtain ⟨A, c, h1, h2, h3, _, h4, _⟩ := own_slice h
  exact ⟨A, c, h1, h2, h3, h4⟩
theorem Reads.ptr {W : World} {B n : Nat} {A : Option Addr} {l : List Nat} (h : Reads W B 1 A n (l.map ptrV)) (hn : n = l.length) {k : Nat} (hk : k < n) : ∃ b o a, A = some ⟨b, o, none⟩ ∧ l[k]? = some a ∧ W.cell? ⟨b, o + k, none⟩ = some (ptrV a) := by
  obtain ⟨a, ha⟩ : ∃ a, l[k]? = some a := ⟨_, List.getElem?_eq_getElem (by omega)⟩
  obtain ⟨b, o, rfl, hb, hc⟩ := h.plain (by omega) (by omega)
  exact ⟨b, o, a, rfl, ha, by
    have := hc k (ptrV a) (by rw [List.getElem?_map, ha]; rfl)
    simpa using this⟩
theorem indexF_any (A : Option Addr) (n c : Nat) (l : List Nat) (x : Nat) (w : World) (hn : n = l.length) (hm : n ≤ 100000) (hr : Reads w w.heap.size 1 A n (l.map ptrV)) (hA : ∀ a ∈ l, LiveF w a) (hx : LiveF w x) :
    Calls Tryz.prog 211 #[.slice A n c, ptrV x] w fun e w' => e = .returned (.int .i64 (indexI l x)) ∧ w' = w := by
  have HR := hide hr
  have HN := hide hn
  have HEQ := hide (fun a (ha : a ∈ l) => run_eqP hx (hA a ha))
  clear hr hn hA hx
  unfold ptrV
  go_enter Tryz.func211, Tryz.ntmps211
  go_wp2
  go_loopw [8] (fun i wr => ∃ k : Nat, k ≤ n ∧ i = .int .i64 k ∧ wr = w ∧ Hid (∀ j, j < k → l[j]? ≠ some x)) (fun i _ => n - (intOf i).toNat)
  case atStart => exact ⟨0, Nat.zero_le _, rfl, rfl, hide (fun j hj => absurd hj (by omega))⟩
  case round =>
    obtain ⟨k, hk, rfl, rfl, HP⟩ := hrel
    by_cases hlt : k < n
    · obtain ⟨b, o, a, rfl, ha, c0⟩ := HR.out.ptr HN.out (k := k) hlt
      unfold ptrV at c0
      have HA := hide ha
      have s1 : (k : Int) < n := by omega
      have s0 : (0 : Int) ≤ k := by omega
      have heq := HEQ.out a (List.mem_of_getElem? ha)
      clear ha
      by_cases hax : a = x
      · subst hax
        have HI := hide (show indexI l a = (k : Int) by
          obtain ⟨i, hi⟩ := posA_mem (List.mem_of_getElem? HA.out)
          obtain ⟨h1, h2⟩ := posA_some hi
          unfold indexI
          rw [hi]
          dsimp only
          rcases Nat.lt_trichotomy i k with h | h | h
          · exact absurd h1 (HP.out i h)
          · rw [h]
          · exact absurd HA.out (h2 k h))
        rw [show (a == a) = true by simp] at heq
        go_wp2
        go_ret
        exact ⟨by rw [HI.out]; rfl, rfl⟩
      · rw [show (x == a) = false from beq_eq_false_iff_ne.2 (fun e => hax e.symm)] at heq
        go_wp2
        go_roundw
        case rel =>
          refine ⟨k + 1, by omega, by go_num, by trivial, hide fun j hj => ?_⟩
          rcases Nat.lt_or_ge j k with h | h
          · exact HP.out j h
          · obtain rfl : j = k := by omega
            rw [HA.out]
            intro e
            injection e with e
            exact hax e
        case measure => simp [intOf]; omega
    · have hkn : ¬ ((k : Int) < n) := by omega
      have HI := hide (show indexI l x = -1 by
        unfold indexI
        cases hp : posA l x with
        | none => rfl
        | some i =>
          obtain ⟨h1, _⟩ := posA_some hp
          exact absurd h1 (HP.out i (by have := (List.getElem?_eq_some_iff.1 h1).1; have := HN.out; omega)))
      go_wp2
      go_ret
      exact ⟨by rw [HI.out]; rfl, rfl⟩
end Go.Proofs.YtnanlaefehaifaaGreat
namespace Go.Proofs.YtnanlaefehaifaaGreat
open Go.RowKit Go.Maps
theorem del_row1 {cur xs zs : List Value} {i n : Nat} (hi : i < n) (hx : xs.length = n) (hc : cur.take n = xs) :
    (spl (spl cur i (xs.drop (i + 1))) (n - 1) zs).take (n - 1) = xs.take i ++ xs.drop (i + 1) := by
  have h1 : (xs.drop (i + 1)).length = n - (i + 1) := by rw [List.length_drop, hx]
  have h2 : cur.take i = xs.take i := by rw [← hc, List.take_take]; congr 1; omega
  have h0 : (List.take i cur).length = i := by
    rw [h2, List.length_take]; omega
  unfold spl
  have hlen : n - 1 = (List.take i xs ++ List.drop (i + 1) xs).length := by simp only [List.length_append, List.length_take, List.length_drop, hx]; omega
  have e1 : (List.take i cur ++ (List.drop (i + 1) xs ++ List.drop (i + (List.drop (i + 1) xs).length) cur)).take (n - 1) = List.take i xs ++ List.drop (i + 1) xs := by
    rw [← List.append_assoc, h2, hlen, List.take_left]
  rw [e1, List.take_append_of_le_length (by omega), List.take_of_length_le (by omega)]
def CutF (b : Nat) (w : World) (v : Value) (l : List Nat) (e : Ending) (w' : World) : Prop := ∃ v', e = .returned v' ∧ RowF b w' v' l ∧ w.grownBy w' v.ownBlock ∧ v'.ownBlock = v.ownBlock
theorem deleteF_row (b g cap p i : Nat) (hbg : b ≤ g) (cur : List Value) (l : List Nat) (w : World) (hn : p + 1 ≤ 100000) (hi : i ≤ p) (hl : l.length = p + 1) (hnc : p + 1 ≤ cap) (hcm : cap ≤ 9223372036854775807) (hk : Blk w g 246 cur.toArray) (hcl : cur.length = cap) (hcx : cur.take (p + 1) = l.map ptrV) :
    Calls Tryz.prog 212 #[.slice (some ⟨g, 0, none⟩) (p + 1) cap, .int .i64 (i : Nat), .int .i64 ((i : Int) + 1)] w (CutF b w (.slice (some ⟨g, 0, none⟩) (p + 1) cap) (l.take i ++ l.drop (i + 1))) := by
  obtain ⟨xs, hxs⟩ : ∃ xs, xs = l.map ptrV := ⟨_, rfl⟩
  have hx : xs.length = p + 1 := by rw [hxs, List.length_map, hl]
  have h1x : ∀ u ∈ xs, u.oneCell' = true := by rw [hxs]; exact ptrV_one l
  have hz2 : ((i : Int) == (i : Int) + 1) = false := by simp; omega
  have hb1 : (0 : Int) ≤ (i : Int) + 1 := by omega
  have htn : ((i : Int) + 1).toNat = i + 1 := by omega
  have hb3 : (i : Int) ≤ (i : Int) + 1 := by omega
  have hb5 : (i : Int) + 1 ≤ ((p + 1 : Nat) : Int) := by omega
  have hb6 : (i : Int) ≤ ((p + 1 : Nat) : Int) := by omega
  have hb7 : (i : Int) ≤ (p : Int) + 1 := by omega
  have hb8 : (i : Int) + 1 ≤ (p : Int) + 1 := by omega
  have hb9 : (i : Int) ≤ (cap : Int) := by omega
  have hb10 : (0 : Int) ≤ (i : Int) := by omega
  have hb11 : i ≤ cap := by omega
  rw [← hxs] at hcx
  have hr0 : (xs.drop (i + 1)).length = (p + 1 - (i + 1)) * 1 := by rw [List.length_drop, hx]; omega
  have hf0 : i * 1 + (xs.drop (i + 1)).length ≤ cur.length := by rw [hr0, hcl]; omega
  have h1d : ∀ u ∈ xs.drop (i + 1), u.oneCell' = true := fun u hu => h1x u (List.mem_of_mem_drop hu)
  have hsrc : ∀ j v, (xs.drop (i + 1))[j]? = some v → w.drew.cell? ((⟨g, (i + 1) * 1, none⟩ : Addr).add j) = some v := fun j v hj => by
    rw [add_plain, Nat.mul_one]
    rw [List.getElem?_drop, ← hcx, List.getElem?_take] at hj
    have : w.cell? ⟨g, i + 1 + j, none⟩ = some v := by
      rw [hk.cell]
      split at hj
      · simpa using hj
      · cases hj
    exact this
  have hlen : i + (p + 1 - (i + 1)) = p := by omega
  have hl1 : (spl cur i (xs.drop (i + 1))).length = cur.length := spl_length (by omega)
  have hf3 : p + ([Value.pointer none] : List Value).length ≤ (spl cur (i * 1) (xs.drop (i + 1))).length := by rw [Nat.mul_one, hl1, hcl]; show p + 1 ≤ cap; omega
  have hfin := del_row1 (cur := cur) (xs := xs) (zs := [Value.pointer none]) (i := i) (n := p + 1) (by omega) hx hcx
  have hfl : (spl (spl cur (i * 1) (xs.drop (i + 1))) p [Value.pointer none]).length = cap := by rw [spl_length hf3, Nat.mul_one, hl1, hcl]
  have hrow : ∀ (w2 : World) (c : Nat), p ≤ c → c ≤ cap → c = cap → Blk w2 g 246 (spl (spl cur (i * 1) (xs.drop (i + 1))) p [Value.pointer none]).toArray → RowF b w2 (.slice (some ⟨g, 0, none⟩) p c) (l.take i ++ l.drop (i + 1)) := by
    rintro w2 c h1 h2 rfl k2
    have hll : (l.take i ++ l.drop (i + 1)).length = p := by rw [List.length_append, List.length_take, List.length_drop, hl]; omega
    unfold RowF
    rw [hll, List.map_append, List.map_take, List.map_drop, ← hxs]
    refine ⟨by rw [List.length_append, List.length_take, List.length_drop, hx]; omega, .inr ⟨g, c, _, rfl, hbg, k2, h1, by unfold maxLen; omega, by simpa using hfl, ?_⟩⟩
    rw [Nat.mul_one]
    simpa using hfin
  have HROW := hide hrow
  have HX := hide hx
  have HCX := hide hcx
  have HCL := hide hcl
  have HLEN := hide hlen
  have HL1 := hide hl1
  have HF2 := hide hf3
  have HSRC := hide hsrc
  have HR0 := hide hr0
  have HF0 := hide hf0
  clear hx hcx hcl hlen hl1 hf3 hfin hfl hsrc hr0 hf0 hrow hxs hl
  have hkd := hk.drew
  have hz1 : ∀ v ∈ ([Value.pointer none] : List Value), v.oneCell' = true := by decide
  have hcp : ¬ (cap = p) := by omega
  have hzc := zero_cellsP 1
  by_cases hce : cap = i + 1
  · obtain rfl : p = i := by omega
    subst hce
    go_enter Tryz.func212, Tryz.ntmps212
    go_wp2
    go_region_law ((refine step_append_blk rfl _ _ 207 rfl 246 1 Tryz.underlying207 size_frp g 246 cur (xs.drop (p + 1)) p (p + 1) (some ⟨g, 0, none⟩) 0 0 (by simp [Act.eval, Act.put]) (by simp [Act.eval, Act.put]) hkd (by have := HR0.out; omega) (fun h => absurd h (by omega)) (by omega) HF0.out h1d ?_; rw [Nat.add_zero]; intro w1 hk1 ht1))
    go_wp2_with (refine wpList_clear_blk rfl (.tmp 31) 207 rfl 246 [Value.pointer none] Tryz.underlying207 zero_frp (by simpa using zero_cellsP 1) g p 246 (spl cur (p * 1) (xs.drop (p + 1))) 1 rfl hk1 HF2.out hz1 ?_; intro w2 hk2 ht2)
    go_ret
    have hgw : w.grownBy w2 (some g) := grown_trans' (World.grownBy.drewR w _) (grown_trans' (grown_of_touch' ht1) (grown_of_touch' ht2))
    exact ⟨_, rfl, HROW.out _ _ (by omega) (Nat.le_refl _) rfl hk2, hgw, rfl⟩
  · go_enter Tryz.func212, Tryz.ntmps212
    go_wp2
    go_region_law ((refine step_append_blk rfl _ _ 207 rfl 246 1 Tryz.underlying207 size_frp g 246 cur (xs.drop (i + 1)) i cap (some ⟨g, (i + 1) * 1, none⟩) (p + 1 - (i + 1)) (cap - (i + 1)) (by simp [Act.eval, Act.put]) (by simp [Act.eval, Act.put]) hkd HR0.out (fun _ => ⟨_, rfl, HSRC.out⟩) (by omega) HF0.out h1d ?_; rw [HLEN.out]; intro w1 hk1 ht1))
    go_wp2_with (refine wpList_clear_blk rfl (.tmp 31) 207 rfl 246 [Value.pointer none] Tryz.underlying207 zero_frp (by simpa using zero_cellsP 1) g p 246 (spl cur (i * 1) (xs.drop (i + 1))) (cap - p) rfl hk1 HF2.out hz1 ?_; intro w2 hk2 ht2)
    go_ret
    have hgw : w.grownBy w2 (some g) := grown_trans' (World.grownBy.drewR w _) (grown_trans' (grown_of_touch' ht1) (grown_of_touch' ht2))
    exact ⟨_, rfl, HROW.out _ _ (by omega) (Nat.le_refl _) rfl hk2, hgw, rfl⟩
theorem deleteF_any (b : Nat) (v : Value) (i : Nat) (l : List Nat) (w : World) (hn : l.length ≤ 100000) (hi : i < l.length) (hown : RowF b w v l) :
    Calls Tryz.prog 212 #[v, .int .i64 (i : Nat), .int .i64 ((i : Int) + 1)] w (CutF b w v (l.take i ++ l.drop (i + 1))) := by
  obtain ⟨hx, ⟨rfl, h0⟩ | ⟨g, cap, cur, rfl, hbg, hk, hnc, hcm, hs, ht⟩⟩ := hown
  · omega
  · have hk' : Blk w g 246 cur.toList.toArray := by unfold Blk; simpa using hk
    obtain ⟨p, hp⟩ : ∃ p, l.length = p + 1 := ⟨l.length - 1, by omega⟩
    rw [hp] at ht hnc hn ⊢
    exact deleteF_row b g cap p i hbg cur.toList l w hn (by omega) hp hnc hcm hk' (by simpa using hs) (by simpa using ht)
end Go.Proofs.YtnanlaefehaifaaGreat
