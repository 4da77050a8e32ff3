/-
  Texts of this claim, joined: LQ, LR, LS, LT.
-/
import Derived.Test.YtnanlaefehaifaaGreatBo13
set_option maxHeartbeats 6400000
set_option maxRecDepth 100000
namespace Go.Proofs.YtnanlaefehaifaaGreat
open Go.RowKit Go.Maps
theorem metaG_conf {bs : List UInt8} {x : ConfD} {u : Int} (h : metaG bs = some (x, u)) : confOk x = true := by
  unfold metaG at h
  split at h
  · rename_i hc
    injection h with h
    injection h with h1 h2
    rw [← h1]
    exact hc.2.2.1
  · cases h
theorem confOk_l {x : ConfD} (h : confOk x = true) : 4 ≤ x.l ∧ x.l ≤ 1024 ∧ 4 ≤ x.f ∧ x.f ≤ 64 := by
  unfold confOk at h
  have h := of_decide_eq_true h
  exact ⟨h.2.2.2.2.2.2.2.2.1, h.2.2.2.2.2.2.2.2.2, h.2.2.2.2.1, h.2.2.2.2.2.1⟩
theorem open_power1 (w : World) (d g m n : Nat) (fs : Bool) (fuse : Int) (stale : Int) (safe : List (List UInt8)) (k : Nat) (mf : Int → Option Value) (wr : Nat → List (List UInt8))
    (h : DevS w d g m n fs fuse (.slice none 0 0) stale 0 0 safe k mf wr) (h0 : 0 < n) (hn : n ≤ 1024) (hw : (wr 0).length ≤ 1000000) (hfu : fs = true → 0 < fuse ∧ fuse ≤ 9223372036854775807) (x : ConfD) (u : Int) (hx : metaG (pgOf safe wr 0) = some (x, u)) (hr : rightP (pgOf safe wr 0) 0 = true) (hp : x.p ≤ n) (hf1 : fs = true ∧ fuse = 1) :
    Calls Tryz.prog 26 #[.pointer (some ⟨d, 0, none⟩)] w (OpenNo w d 3) := by
  obtain ⟨rfl, rfl⟩ := hf1
  have HRD := hide (show Calls Tryz.prog 72 #[.pointer (some ⟨d, 0, none⟩), .int .i64 0] w _ from devRead_any w d g m n true 1 (.slice none 0 0) stale 0 0 safe k mf wr 0 h h0 hn hw hfu)
  have hl := pgOf_length h h0
  have HS := hide h
  have hd := h.lt d (.inl rfl)
  generalize pgOf safe wr 0 = bs at *
  have HCH := hide (fun W => pCheck_any bs hl 0 W)
  have HMG := hide (fun W => metaGet_any bs hl W)
  rw [hx] at HMG
  have hok := metaG_conf hx
  have hre := rightE_yes hr
  rw [hre] at HCH
  clear h hfu hx hr hre
  obtain ⟨hl1, hl2, _, _⟩ := confOk_l hok
  clear hok
  have HPX := hide (pg_size bs hl)
  have HPI := hide (show (Tryz.prog.info? 63).map (·.size) = some ((bs.map byteV).toArray).size by rw [HPX.out]; exact info_pg)
  have HPZ := hide (show Tryz.zeroCells63.size = ((bs.map byteV).toArray).size by rw [HPX.out]; exact zeros_page)
  have HP1 := hide (row_one bs)
  unfold pgV at *
  generalize hX : (bs.map byteV).toArray = X at *
  clear hX hl
  go_enter Tryz.func26, Tryz.ntmps26
  go_upto_region 3 with (fail)
  go_wp2_with fail
  refine HRD.out.mono ?_
  rintro e W1 ⟨rfl, hs1, ht1⟩
  have HS1 := hide hs1
  have HT1 := hide ht1
  have hz1 := ht1.size
  clear hs1 ht1
  go_upto_region 4 with (refine wpList_store_row rfl 63 (.tmp 4) (.tmp 17) rfl W1.heap.size X rfl rfl 63 _ (Blk.new W1 _ _) HPI.out HPZ.out HP1.out ?_)
  refine nameW (w := World.setRow _ W1.heap.size X) (R := fun W => Code.wp _ _ _ _ W) (fun W2 hW2 => ?_)
  have kp2 : Blk W2 W1.heap.size 63 X := by
    rw [hW2]
    exact setRow_heap _ W1.heap.size _ _ _ _ (Blk.new W1 _ _)
  have hb2 : Below W1.heap.size W1 W2 := by
    rw [hW2]
    exact (touch_setRow _ W1.heap.size X).below ((Below.refl W1.heap.size W1).alloc (Nat.le_refl _) _) (Nat.le_refl _)
  obtain ⟨gp, hgp⟩ : ∃ g, g = W1.heap.size := ⟨_, rfl⟩
  rw [← hgp] at kp2
  rw [← hgp]
  have KP2 := hide kp2
  have HB2 := hide hb2
  have hz2 := hb2.size
  clear hW2 kp2 hb2 hgp
  go_wp2_with (refine wpList_load_row rfl 63 (.tmp 4) rfl gp rfl 63 X (0, 0) _ KP2.out Tryz.underlying63 rfl HPI.out ?_)
  refine (HMG.out _).mono ?_
  rintro e W3 ⟨hcase, hb3⟩
  have he : e = .returned (.tuple #[confV x, .int .i64 u, .int .i64 0]) := by
    rcases hcase with ⟨h1, _⟩ | ⟨x', u', h1, h2⟩
    · cases h1
    · injection h1 with h1
      injection h1 with h3 h4
      rw [h2, h3, h4]
  clear hcase
  subst he
  unfold confV
  go_upto_region 7 with (fail)
  refine gen1 (R := fun W => Code.wp _ _ _ _ W) (fun W4 kC hb4 hz4 => ?_)
  obtain ⟨gc, hgc⟩ : ∃ g, g = W3.heap.size := ⟨_, rfl⟩
  rw [← hgc] at kC
  rw [← hgc]
  have h34 : Below W2.heap.size W2 W4 := hb3.trans (hb4.mono hb3.size)
  have h14 : Below W1.heap.size W1 W4 := HB2.out.trans (h34.mono hz2)
  have KC := hide kC
  have KP := hide (Blk.via h34 KP2.out)
  have HS4 := hide (HS1.out.via h14)
  have HT4 := hide (HT1.out.trans (Turn.of_below h14))
  have HPG := hide (fun W (hb : Below W4.heap.size W4 W) => (show Calls Tryz.prog 75 #[.pointer (some ⟨d, 0, none⟩)] W (fun e w' => e = .returned (.int .i64 (n : Nat)) ∧ w' = W) by
    obtain ⟨o, kd⟩ := (HS4.out.via hb).kd
    exact devPagesF_any _ d _ n n _ _ _ _ _ _ _ W kd))
  clear kC h34 h14 hb3 hb4 hgc
  have hlt2 : decide ((n : Int) < x.p) = false := decide_eq_false (Int.not_lt.2 hp)
  clear hp
  refine wp_region_inv [fun v _ => v = .int .i64 0, fun v _ => v = .bool false, fun v _ => v = .bool false, fun v _ => v = .agg X, fun v _ => v = .int .i64 0, fun v _ => v = .bool false, fun v _ => v = .bool false, fun v _ => v = .bool false, fun v _ => v = .pointer (some ⟨d, 0, none⟩), fun v _ => v = .int .i64 (n : Nat), fun v _ => v = .pointer (some ⟨gc, 1, none⟩), fun v _ => v = .int .i64 x.p, fun v _ => v = .bool false, fun v _ => v = .bool false] (by kernel_rfl) (by kernel_rfl) (by kernel_rfl) ?st ?steps ?fin
  case st =>
    intro i v W W' hWW h
    match i with
    | 0 | 1 | 2 | 3 | 4 | 5 | 6 | 7 | 8 | 9 | 10 | 11 | 12 | 13 => exact h
    | (i + 14) => exact h
  case steps =>
    simp only [stepsI]
    refine ⟨?_, ?_, ?_, ?_, ?_, ?_, ?_, ?_, ?_, ?_, ?_, ?_, ?_, ?_, trivial⟩
    · intro f W hbW hdp
      simp only [fS, Nat.reduceAdd]
      go_wp2
      exact ⟨rfl, _, rfl, rfl, Below.refl _ _⟩
    · intro f W hbW hdp
      have e0 : f 0 = .int .i64 0 := hdp ⟨0, .data⟩ (mfl (by simp) rfl)
      simp only [fS, Nat.reduceAdd, e0]
      go_wp2
      exact ⟨rfl, _, rfl, rfl, Below.refl _ _⟩
    · intro f W hbW hdp
      have e1 : f 1 = .bool false := hdp ⟨1, .data⟩ (mfl (by simp) rfl)
      simp only [fS, Nat.reduceAdd, e1]
      go_wp2
      exact ⟨rfl, _, rfl, rfl, Below.refl _ _⟩
    · intro f W hbW hdp
      have e2 : f 2 = .bool false := hdp ⟨2, .guard⟩ (mfl (by simp) rfl)
      have kB := hide (Blk.via hbW KP.out)
      simp only [fS, Nat.reduceAdd, e2]
      refine wpList_load_rowG (by simp [Region.wanted, yielded]) 63 (.tmp 4) rfl gp rfl 63 X (0, 0) _ kB.out Tryz.underlying63 rfl HPI.out ?_
      exact ⟨rfl, _, rfl, rfl, Below.refl _ _⟩
    · intro f W hbW hdp
      have e2 : f 2 = .bool false := hdp ⟨2, .guard⟩ (mfl (by simp) rfl)
      have e3 : f 3 = .agg X := hdp ⟨3, .data⟩ (mfl (by simp) rfl)
      simp only [fS, Nat.reduceAdd, e2, e3]
      go_wp2_with (go_at_call 74; refine (HCH.out _).mono ?_; rintro e w' ⟨rfl, hb'⟩)
      exact ⟨rfl, _, rfl, rfl, hb'⟩
    · intro f W hbW hdp
      have e2 : f 2 = .bool false := hdp ⟨2, .guard⟩ (mfl (by simp) rfl)
      have e4 : f 4 = .int .i64 0 := hdp ⟨4, .data⟩ (mfl (by simp) rfl)
      simp only [fS, Nat.reduceAdd, e2, e4]
      go_wp2
      exact ⟨rfl, _, rfl, rfl, Below.refl _ _⟩
    · intro f W hbW hdp
      have e2 : f 2 = .bool false := hdp ⟨2, .data⟩ (mfl (by simp) rfl)
      have e5 : f 5 = .bool false := hdp ⟨5, .data⟩ (mfl (by simp) rfl)
      simp only [fS, Nat.reduceAdd, e2, e5]
      go_wp2
      exact ⟨rfl, _, rfl, rfl, Below.refl _ _⟩
    · intro f W hbW hdp
      have e6 : f 6 = .bool false := hdp ⟨6, .data⟩ (mfl (by simp) rfl)
      simp only [fS, Nat.reduceAdd, e6]
      go_wp2
      exact ⟨rfl, _, rfl, rfl, Below.refl _ _⟩
    · intro f W hbW hdp
      have e7 : f 7 = .bool false := hdp ⟨7, .guard⟩ (mfl (by simp) rfl)
      simp only [fS, Nat.reduceAdd, e7]
      go_wp2
      exact ⟨rfl, _, rfl, rfl, Below.refl _ _⟩
    · intro f W hbW hdp
      have e7 : f 7 = .bool false := hdp ⟨7, .guard⟩ (mfl (by simp) rfl)
      have e8 : f 8 = .pointer (some ⟨d, 0, none⟩) := hdp ⟨8, .data⟩ (mfl (by simp) rfl)
      simp only [fS, Nat.reduceAdd, e7, e8]
      go_wp2_with (go_at_call 75; refine (HPG.out _ hbW).mono ?_; rintro e w' ⟨rfl, hw'⟩; obtain rfl := hw'.symm)
      exact ⟨rfl, _, rfl, rfl, Below.refl _ _⟩
    · intro f W hbW hdp
      have e7 : f 7 = .bool false := hdp ⟨7, .guard⟩ (mfl (by simp) rfl)
      simp only [fS, Nat.reduceAdd, e7]
      go_wp2
      exact ⟨rfl, _, rfl, rfl, Below.refl _ _⟩
    · intro f W hbW hdp
      have e7 : f 7 = .bool false := hdp ⟨7, .guard⟩ (mfl (by simp) rfl)
      have e10 : f 10 = .pointer (some ⟨gc, 1, none⟩) := hdp ⟨10, .data⟩ (mfl (by simp) rfl)
      have z1 := (Blk.via hbW KC.out).cell 1
      simp only [fS, Nat.reduceAdd, e7, e10]
      go_wp2
      exact ⟨rfl, _, rfl, rfl, Below.refl _ _⟩
    · intro f W hbW hdp
      have e7 : f 7 = .bool false := hdp ⟨7, .guard⟩ (mfl (by simp) rfl)
      have e9 : f 9 = .int .i64 (n : Nat) := hdp ⟨9, .data⟩ (mfl (by simp) rfl)
      have e11 : f 11 = .int .i64 x.p := hdp ⟨11, .data⟩ (mfl (by simp) rfl)
      simp only [fS, Nat.reduceAdd, e7, e9, e11]
      go_wp2
      exact ⟨rfl, _, rfl, rfl, Below.refl _ _⟩
    · intro f W hbW hdp
      have e7 : f 7 = .bool false := hdp ⟨7, .data⟩ (mfl (by simp) rfl)
      have e12 : f 12 = .bool false := hdp ⟨12, .data⟩ (mfl (by simp) rfl)
      simp only [fS, Nat.reduceAdd, e7, e12]
      go_wp2
      exact ⟨rfl, _, rfl, rfl, Below.refl _ _⟩
  case fin =>
    intro f W hbW hA
    have e13 : f 13 = .bool false := hA 13 (by simp)
    show wpList Tryz.prog #[] (Exit.then _ _) [] _ _
    simp only [fS, Nat.reduceAdd, e13]
    clear hA e13
    have h5 := HS4.out.via hbW
    have HT5 := hide (HT4.out.trans (Turn.of_below hbW))
    have KC5 := hide (Blk.via hbW KC.out)
    obtain ⟨o5, kd5⟩ := h5.kd
    have HWL := hide (walLoad_power d (1024 * x.l) _ _ stale o5 W (by omega) (by omega) kd5)
    have z4 : W.cell? ⟨gc, 4, none⟩ = some (.int .i64 x.l) := KC5.out.cell 4
    clear hbW h5 kd5
    go_wp2_with fail
    refine HWL.out.mono ?_
    rintro e W6 ⟨rfl, ht6⟩
    have HT6 := hide (HT5.out.trans ht6)
    clear ht6
    go_wp2
    go_ret2
    exact ⟨rfl, HT6.out⟩
end Go.Proofs.YtnanlaefehaifaaGreat
namespace Go.Proofs.YtnanlaefehaifaaGreat
open Go.RowKit Go.Shelf Go.Maps
attribute [local go_sem] Oper.semAt_some
theorem all1_empty (n : Nat) (hn : 1 ≤ n) (lp Bl l d m : Nat) (limit : Int) (w : World) (hBl : Blk w Bl 24 #[.pointer (some ⟨l, 0, none⟩)]) (kl : Blk w l 97 (logC d limit 0 0 m (.slice none 0 0))) :
    CallsIn Fence.wide n Tryz.prog 123 #[.func (.yield lp) #[] #[], .pointer (some ⟨Bl, 0, none⟩)] w fun e W' => (∃ v, e = .returned v) ∧ Below w.heap.size w W' := by
  have b0 : w.cell? ⟨Bl, 0, none⟩ = some (.pointer (some ⟨l, 0, none⟩)) := hBl.cell 0
  have l5 : w.cell? ⟨l, 5, none⟩ = some (.slice none 0 0) := kl.cell 5
  have HC := hide (cloneI_any none 0 0 [] w.heap.size w (Nat.le_refl _) (by omega) ⟨rfl, fun h => absurd h (by omega)⟩ (fun _ => rfl) (fun u hu => by cases hu))
  refine callsIn_of_wp Tryz.func123 rfl trivial ?_ rfl
  simp only [Tryz.ntmps123, List.size_toArray, List.length_cons, List.length_nil, Nat.reduceAdd, Nat.reduceSub, Array.replicate_succ, Array.replicate_zero, List.push_toArray, List.append_toArray, List.nil_append, List.cons_append]
  gi_wp2_with fail
  refine ⟨trivial, ?_⟩
  gi_at_call 124
  refine (callsIn_wide.2 HC.out).mono ?_
  rintro e wc ⟨A2, c2, rfl, ho, hbc⟩
  clear ho b0 l5
  gi_wp2
  refine wpIn_loop_rounds 1 ?_
  rw [roundsIn_succ]
  gi_wp2
  go_end0
  exact ⟨⟨_, rfl⟩, hbc⟩
structure PartsS (w : World) (b d : Nat) (x : ConfD) (l ml p t : Nat) : Prop where
  kb : ∃ k1 k2 k3 : Nat, Blk w b 92 #[.pointer (some ⟨d, 0, none⟩), .int .i64 x.b, .int .i64 x.p, .int .i64 x.f, .int .i64 x.c, .int .i64 x.l, .pointer (some ⟨l, 0, none⟩), .pointer (some ⟨p, 0, none⟩), .pointer (some ⟨k1, 0, none⟩), .pointer (some ⟨k2, 0, none⟩), .pointer (some ⟨k3, 0, none⟩), .pointer (some ⟨t, 0, none⟩)]
  kl : Blk w l 97 (logC d (1024 * x.l) 0 0 ml (.slice none 0 0))
  hm : MapF w ml 0 (fun _ => none)
  kp : Blk w p 209 (poolC d l x.f (.slice none 0 0))
  kt : ∃ mt, Blk w t 226 #[.int .i64 1, .map (some mt)]
theorem blk_ne_mark {w : World} {q D : Nat} {t : TypeId} {c : Array Value} {o} (k : Blk w q t c) (h : w.heap[D]? = some (.deferred o)) : q ≠ D := by
  rintro rfl
  rw [show w.heap[q]? = _ from k] at h
  cases h
def PartsV (d l : Nat) (x : ConfD) (v : Value) (W : World) : Prop := ∃ p k1 k2 k3 t mt : Nat, v = .agg #[.pointer (some ⟨d, 0, none⟩), .int .i64 x.b, .int .i64 x.p, .int .i64 x.f, .int .i64 x.c, .int .i64 x.l, .pointer (some ⟨l, 0, none⟩), .pointer (some ⟨p, 0, none⟩), .pointer (some ⟨k1, 0, none⟩), .pointer (some ⟨k2, 0, none⟩), .pointer (some ⟨k3, 0, none⟩), .pointer (some ⟨t, 0, none⟩)] ∧ Blk W p 209 (poolC d l x.f (.slice none 0 0)) ∧ Blk W t 226 #[.int .i64 1, .map (some mt)]
def BaseV (d l : Nat) (x : ConfD) (v : Value) (W : World) : Prop := ∃ b p k1 k2 k3 t mt : Nat, v = .pointer (some ⟨b, 0, none⟩) ∧ Blk W b 92 #[.pointer (some ⟨d, 0, none⟩), .int .i64 x.b, .int .i64 x.p, .int .i64 x.f, .int .i64 x.c, .int .i64 x.l, .pointer (some ⟨l, 0, none⟩), .pointer (some ⟨p, 0, none⟩), .pointer (some ⟨k1, 0, none⟩), .pointer (some ⟨k2, 0, none⟩), .pointer (some ⟨k3, 0, none⟩), .pointer (some ⟨t, 0, none⟩)] ∧ Blk W p 209 (poolC d l x.f (.slice none 0 0)) ∧ Blk W t 226 #[.int .i64 1, .map (some mt)]
def OpenP (w : World) (d g m n : Nat) (fs : Bool) (fuse stale : Int) (safe : List (List UInt8)) (k : Nat) (mf : Int → Option Value) (wr : Nat → List (List UInt8)) (x : ConfD) (e : Ending) (w' : World) : Prop :=
  ∃ b l ml p t, e = .returned (.tuple #[.pointer (some ⟨b, 0, none⟩), .int .i64 0]) ∧ PartsS w' b d x l ml p t ∧ DevS w' d g m n fs fuse nilS stale 0 0 safe k mf wr ∧ Turn (fun q => q = d) w w'
theorem open_ok (w : World) (d g m n : Nat) (fs : Bool) (fuse : Int) (stale : Int) (safe : List (List UInt8)) (k : Nat) (mf : Int → Option Value) (wr : Nat → List (List UInt8))
    (h : DevS w d g m n fs fuse (.slice none 0 0) stale 0 0 safe k mf wr) (h0 : 0 < n) (hn : n ≤ 1024) (hw : (wr 0).length ≤ 1000000) (hfu : fs = true → 0 < fuse ∧ fuse ≤ 9223372036854775807) (x : ConfD) (u : Int) (hx : metaG (pgOf safe wr 0) = some (x, u)) (hr : rightP (pgOf safe wr 0) 0 = true) (hp : x.p ≤ n) (hfu2 : fs = true → 1 < fuse) (fu2 : Int) (hfe : fu2 = if fs = true then fuse - 2 else fuse) :
    Calls Tryz.prog 26 #[.pointer (some ⟨d, 0, none⟩)] w (OpenP w d g m n fs fu2 stale safe k mf wr x) := by
  obtain ⟨fu1, hf1⟩ : ∃ v, v = (if fs = true then fuse - 1 else fuse) := ⟨_, rfl⟩
  have HF1 := hide hf1
  have HFU1 := hide (show fs = true → 0 < fu1 ∧ fu1 ≤ 9223372036854775807 by intro hh; rw [hf1, if_pos hh]; have := hfu hh; have := hfu2 hh; omega)
  have HFU2 := hide (show (if fs = true then fu1 - 1 else fu1) = fu2 by rw [hf1, hfe]; split <;> first | omega | rfl)
  clear hf1 hfu2 hfe
  have HRD := hide (show Calls Tryz.prog 72 #[.pointer (some ⟨d, 0, none⟩), .int .i64 0] w _ from devRead_any w d g m n fs fuse (.slice none 0 0) stale 0 0 safe k mf wr 0 h h0 hn hw hfu)
  have hl := pgOf_length h h0
  have HS := hide h
  have hd := h.lt d (.inl rfl)
  generalize pgOf safe wr 0 = bs at *
  have HCH := hide (fun W => pCheck_any bs hl 0 W)
  have HMG := hide (fun W => metaGet_any bs hl W)
  rw [hx] at HMG
  have hok := metaG_conf hx
  have hre := rightE_yes hr
  rw [hre] at HCH
  have HDB := hide (fun q hq => h.lt q hq)
  clear h hfu hx hr hre
  obtain ⟨hl1, hl2, hf1, hf2⟩ := confOk_l hok
  clear hok
  have HPX := hide (pg_size bs hl)
  have HPI := hide (show (Tryz.prog.info? 63).map (·.size) = some ((bs.map byteV).toArray).size by rw [HPX.out]; exact info_pg)
  have HPZ := hide (show Tryz.zeroCells63.size = ((bs.map byteV).toArray).size by rw [HPX.out]; exact zeros_page)
  have HP1 := hide (row_one bs)
  unfold pgV at *
  generalize hX : (bs.map byteV).toArray = X at *
  clear hX hl
  refine (callsIn_wide (n := 9)).1 ?_
  refine callsIn_of_wp_marks Tryz.func26 rfl trivial ?_ rfl
  simp only [Tryz.ntmps26, List.size_toArray, List.length_cons, List.length_nil, Nat.reduceAdd, Nat.reduceSub, Array.replicate_succ, Array.replicate_zero, List.push_toArray, List.append_toArray, List.nil_append, List.cons_append]
  refine wpIn_wide.2 ?_
  go_upto_region 3 with (fail)
  go_wp2_with fail
  refine HRD.out.mono ?_
  rintro e W1 ⟨rfl, hs1, ht1⟩
  rw [← HF1.out] at hs1
  have HS1 := hide hs1
  have HT1 := hide ht1
  have hz1 := ht1.size
  clear hs1 ht1
  go_upto_region 4 with (refine wpList_store_row rfl 63 (.tmp 4) (.tmp 17) rfl W1.heap.size X rfl rfl 63 _ (Blk.new W1 _ _) HPI.out HPZ.out HP1.out ?_)
  refine nameW (w := World.setRow _ W1.heap.size X) (R := fun W => Code.wp _ _ _ _ W) (fun W2 hW2 => ?_)
  have kp2 : Blk W2 W1.heap.size 63 X := by
    rw [hW2]
    exact setRow_heap _ W1.heap.size _ _ _ _ (Blk.new W1 _ _)
  have hb2 : Below W1.heap.size W1 W2 := by
    rw [hW2]
    exact (touch_setRow _ W1.heap.size X).below ((Below.refl W1.heap.size W1).alloc (Nat.le_refl _) _) (Nat.le_refl _)
  obtain ⟨gp, hgp⟩ : ∃ g, g = W1.heap.size := ⟨_, rfl⟩
  rw [← hgp] at kp2
  rw [← hgp]
  have KP2 := hide kp2
  have HB2 := hide hb2
  have hz2 := hb2.size
  clear hW2 kp2 hb2 hgp
  go_wp2_with (refine wpList_load_row rfl 63 (.tmp 4) rfl gp rfl 63 X (0, 0) _ KP2.out Tryz.underlying63 rfl HPI.out ?_)
  refine (HMG.out _).mono ?_
  rintro e W3 ⟨hcase, hb3⟩
  have he : e = .returned (.tuple #[confV x, .int .i64 u, .int .i64 0]) := by
    rcases hcase with ⟨h1, _⟩ | ⟨x', u', h1, h2⟩
    · cases h1
    · injection h1 with h1
      injection h1 with h3 h4
      rw [h2, h3, h4]
  clear hcase
  subst he
  unfold confV
  go_upto_region 7 with (fail)
  refine gen1 (R := fun W => Code.wp _ _ _ _ W) (fun W4 kC hb4 hz4 => ?_)
  obtain ⟨gc, hgc⟩ : ∃ g, g = W3.heap.size := ⟨_, rfl⟩
  rw [← hgc] at kC
  rw [← hgc]
  have h34 : Below W2.heap.size W2 W4 := hb3.trans (hb4.mono hb3.size)
  have h14 : Below W1.heap.size W1 W4 := HB2.out.trans (h34.mono hz2)
  have KC := hide kC
  have KP := hide (Blk.via h34 KP2.out)
  have HS4 := hide (HS1.out.via h14)
  have HT4 := hide (HT1.out.trans (Turn.of_below h14))
  have HPG := hide (fun W (hb : Below W4.heap.size W4 W) => (show Calls Tryz.prog 75 #[.pointer (some ⟨d, 0, none⟩)] W (fun e w' => e = .returned (.int .i64 (n : Nat)) ∧ w' = W) by
    obtain ⟨o, kd⟩ := (HS4.out.via hb).kd
    exact devPagesF_any _ d _ n n _ _ _ _ _ _ _ W kd))
  clear kC h34 h14 hb3 hb4 hgc
  have hlt2 : decide ((n : Int) < x.p) = false := decide_eq_false (Int.not_lt.2 hp)
  clear hp
  refine wp_region_inv [fun v _ => v = .int .i64 0, fun v _ => v = .bool false, fun v _ => v = .bool false, fun v _ => v = .agg X, fun v _ => v = .int .i64 0, fun v _ => v = .bool false, fun v _ => v = .bool false, fun v _ => v = .bool false, fun v _ => v = .pointer (some ⟨d, 0, none⟩), fun v _ => v = .int .i64 (n : Nat), fun v _ => v = .pointer (some ⟨gc, 1, none⟩), fun v _ => v = .int .i64 x.p, fun v _ => v = .bool false, fun v _ => v = .bool false] (by kernel_rfl) (by kernel_rfl) (by kernel_rfl) ?st ?steps ?fin
  case st =>
    intro i v W W' hWW h
    match i with
    | 0 | 1 | 2 | 3 | 4 | 5 | 6 | 7 | 8 | 9 | 10 | 11 | 12 | 13 => exact h
    | (i + 14) => exact h
  case steps =>
    simp only [stepsI]
    refine ⟨?_, ?_, ?_, ?_, ?_, ?_, ?_, ?_, ?_, ?_, ?_, ?_, ?_, ?_, trivial⟩
    · intro f W hbW hdp
      simp only [fS, Nat.reduceAdd]
      go_wp2
      exact ⟨rfl, _, rfl, rfl, Below.refl _ _⟩
    · intro f W hbW hdp
      have e0 : f 0 = .int .i64 0 := hdp ⟨0, .data⟩ (mfl (by simp) rfl)
      simp only [fS, Nat.reduceAdd, e0]
      go_wp2
      exact ⟨rfl, _, rfl, rfl, Below.refl _ _⟩
    · intro f W hbW hdp
      have e1 : f 1 = .bool false := hdp ⟨1, .data⟩ (mfl (by simp) rfl)
      simp only [fS, Nat.reduceAdd, e1]
      go_wp2
      exact ⟨rfl, _, rfl, rfl, Below.refl _ _⟩
    · intro f W hbW hdp
      have e2 : f 2 = .bool false := hdp ⟨2, .guard⟩ (mfl (by simp) rfl)
      have kB := hide (Blk.via hbW KP.out)
      simp only [fS, Nat.reduceAdd, e2]
      refine wpList_load_rowG (by simp [Region.wanted, yielded]) 63 (.tmp 4) rfl gp rfl 63 X (0, 0) _ kB.out Tryz.underlying63 rfl HPI.out ?_
      exact ⟨rfl, _, rfl, rfl, Below.refl _ _⟩
    · intro f W hbW hdp
      have e2 : f 2 = .bool false := hdp ⟨2, .guard⟩ (mfl (by simp) rfl)
      have e3 : f 3 = .agg X := hdp ⟨3, .data⟩ (mfl (by simp) rfl)
      simp only [fS, Nat.reduceAdd, e2, e3]
      go_wp2_with (go_at_call 74; refine (HCH.out _).mono ?_; rintro e w' ⟨rfl, hb'⟩)
      exact ⟨rfl, _, rfl, rfl, hb'⟩
    · intro f W hbW hdp
      have e2 : f 2 = .bool false := hdp ⟨2, .guard⟩ (mfl (by simp) rfl)
      have e4 : f 4 = .int .i64 0 := hdp ⟨4, .data⟩ (mfl (by simp) rfl)
      simp only [fS, Nat.reduceAdd, e2, e4]
      go_wp2
      exact ⟨rfl, _, rfl, rfl, Below.refl _ _⟩
    · intro f W hbW hdp
      have e2 : f 2 = .bool false := hdp ⟨2, .data⟩ (mfl (by simp) rfl)
      have e5 : f 5 = .bool false := hdp ⟨5, .data⟩ (mfl (by simp) rfl)
      simp only [fS, Nat.reduceAdd, e2, e5]
      go_wp2
      exact ⟨rfl, _, rfl, rfl, Below.refl _ _⟩
    · intro f W hbW hdp
      have e6 : f 6 = .bool false := hdp ⟨6, .data⟩ (mfl (by simp) rfl)
      simp only [fS, Nat.reduceAdd, e6]
      go_wp2
      exact ⟨rfl, _, rfl, rfl, Below.refl _ _⟩
    · intro f W hbW hdp
      have e7 : f 7 = .bool false := hdp ⟨7, .guard⟩ (mfl (by simp) rfl)
      simp only [fS, Nat.reduceAdd, e7]
      go_wp2
      exact ⟨rfl, _, rfl, rfl, Below.refl _ _⟩
    · intro f W hbW hdp
      have e7 : f 7 = .bool false := hdp ⟨7, .guard⟩ (mfl (by simp) rfl)
      have e8 : f 8 = .pointer (some ⟨d, 0, none⟩) := hdp ⟨8, .data⟩ (mfl (by simp) rfl)
      simp only [fS, Nat.reduceAdd, e7, e8]
      go_wp2_with (go_at_call 75; refine (HPG.out _ hbW).mono ?_; rintro e w' ⟨rfl, hw'⟩; obtain rfl := hw'.symm)
      exact ⟨rfl, _, rfl, rfl, Below.refl _ _⟩
    · intro f W hbW hdp
      have e7 : f 7 = .bool false := hdp ⟨7, .guard⟩ (mfl (by simp) rfl)
      simp only [fS, Nat.reduceAdd, e7]
      go_wp2
      exact ⟨rfl, _, rfl, rfl, Below.refl _ _⟩
    · intro f W hbW hdp
      have e7 : f 7 = .bool false := hdp ⟨7, .guard⟩ (mfl (by simp) rfl)
      have e10 : f 10 = .pointer (some ⟨gc, 1, none⟩) := hdp ⟨10, .data⟩ (mfl (by simp) rfl)
      have z1 := (Blk.via hbW KC.out).cell 1
      simp only [fS, Nat.reduceAdd, e7, e10]
      go_wp2
      exact ⟨rfl, _, rfl, rfl, Below.refl _ _⟩
    · intro f W hbW hdp
      have e7 : f 7 = .bool false := hdp ⟨7, .guard⟩ (mfl (by simp) rfl)
      have e9 : f 9 = .int .i64 (n : Nat) := hdp ⟨9, .data⟩ (mfl (by simp) rfl)
      have e11 : f 11 = .int .i64 x.p := hdp ⟨11, .data⟩ (mfl (by simp) rfl)
      simp only [fS, Nat.reduceAdd, e7, e9, e11]
      go_wp2
      exact ⟨rfl, _, rfl, rfl, Below.refl _ _⟩
    · intro f W hbW hdp
      have e7 : f 7 = .bool false := hdp ⟨7, .data⟩ (mfl (by simp) rfl)
      have e12 : f 12 = .bool false := hdp ⟨12, .data⟩ (mfl (by simp) rfl)
      simp only [fS, Nat.reduceAdd, e7, e12]
      go_wp2
      exact ⟨rfl, _, rfl, rfl, Below.refl _ _⟩
  case fin =>
    intro f W hbW hA
    have e13 : f 13 = .bool false := hA 13 (by simp)
    show wpList Tryz.prog #[] (Exit.then _ _) [] _ _
    simp only [fS, Nat.reduceAdd, e13]
    clear hA e13
    have h5 := HS4.out.via hbW
    have HT5 := hide (HT4.out.trans (Turn.of_below hbW))
    have KC5 := hide (Blk.via hbW KC.out)
    have HS5 := hide h5
    obtain ⟨o5, kd5⟩ := h5.kd
    have hgd := KC5.out.ne_ kd5 (by decide)
    have HWL := hide (walLoadF_any fs d (1024 * x.l) _ _ stale fu1 o5 W (by omega) (by omega) HFU1.out kd5)
    have z4 : W.cell? ⟨gc, 4, none⟩ = some (.int .i64 x.l) := KC5.out.cell 4
    clear hbW h5 kd5
    go_wp2_with fail
    refine HWL.out.mono ?_
    rintro e W6 ⟨l, ml, o6, rfl, kl6, hm6, kd6, hl6, hml6, ht6⟩
    rw [HFU2.out] at kd6
    have hs6 := HS5.out.turnd ht6 ⟨o6, kd6⟩
    have HS6 := hide hs6
    have HT6 := hide (HT5.out.trans ht6)
    have KC6 := hide (ht6.blk KC5.out hgd)
    have KL6 := hide kl6
    have HM6 := hide hm6
    have HDL := hide (fun q hq => hs6.lt q hq)
    have hml := hm6.lt
    have hll := kl6.lt
    clear kl6 hm6 kd6 ht6 hs6 z4 hgd
    go_upto_region 13 with (fail)
    have HAL := hide (fun w => (callsIn_wide (n := 9)).1 (wAll_in Fence.wide 9 trivial rfl (.pointer (some ⟨l, 0, none⟩)) ⟨_, rfl⟩ w))
    go_wp2_with (go_at_call 54; refine (HAL.out _).mono ?_; rintro e w' ⟨rfl, hw'⟩; subst hw')
    refine gen2 (R := fun W => Code.wp _ _ _ _ W) (fun W7 kN kB hb7 hz7 => ?_)
    have HB7 := hide hb7
    have KN7 := hide kN
    have KB7 := hide kB
    clear kN kB hb7
    refine (wpIn_wide (n := 9)).1 ?_
    refine wpIn_rangeFunc_ownH (α := Empty) (encs := fun x => x.elim) (Kp := fun _ _ => True) (S := fun xs => xs = []) (Sp := fun _ => False) (N := 0) (w0 := W7) rfl (by omega) (gf := 123) (lb := #[.pointer (some ⟨W6.heap.size + 1, 0, none⟩)]) rfl trivial (enters_of Tryz.func123 (by kernel_rfl) rfl) ?seq
      (fun _ _ => trivial) (fun _ _ _ _ _ _ _ _ => trivial) (Below.refl _ _) (fun x => x.elim)
      (fun _ W => Below W7.heap.size W7 W) (fun _ _ _ => False) ?own (fun _ _ _ _ _ hs _ _ => hs) ?start (fun x _ _ => x.elim) (fun x _ => x.elim) ?assign ?body ?done ?stop
    case seq =>
      intro lp J Jx W hW hJ _ _ h0
      refine (all1_empty 8 (by omega) lp (W6.heap.size + 1) l d ml _ W (Blk.via hW KB7.out) (Blk.via hW (Blk.via HB7.out KL6.out))).mono ?_
      rintro e W' ⟨hv, hb⟩
      exact ⟨hv, .inl ⟨[], rfl, hJ [] W W' none h0 ⟨hb.os, hb.tape, hb.output, hb.size, fun q hq _ => hb.block q hq⟩ (fun r e => by cases e)⟩⟩
    case own =>
      rintro hs W W' row k1 hg hr
      exact k1.grown hg k1.size (fun q hq => by have := (hr q hq).1; omega)
    case start => exact Below.refl _ _
    case assign => intro _ _ x; exact x.elim
    case body => intro _ _ x; exact x.elim
    case stop => rintro _ _ _ _ _ hF _ _; exact hF.elim
    case done =>
      rintro D xs V hD hS i1 hK
      have hDl : D < V.heap.size := (Array.getElem?_eq_some_iff.1 hK).1
      have hDW : W7.heap.size ≤ D := by omega
      have h7 := HB7.out.trans (i1.mono HB7.out.size)
      have KC8 := hide (Blk.via h7 KC6.out)
      have KL8 := hide (Blk.via h7 KL6.out)
      have HM8 := hide (HM6.out.kept (h7.block _ HM6.out.lt))
      have HS8 := hide (HS6.out.via h7)
      have HT8 := hide (HT6.out.trans (Turn.of_below h7))
      have KN8 := hide (Blk.via i1 KN7.out)
      have HKK := hide hK
      have hlt9 := (Blk.via i1 KN7.out).lt
      have hlt8 := KC8.out.lt
      have HPO := hide (fun W => poolNew_any d l x.f W (by omega) hf2)
      have HTX := hide (fun W => txnsNew_any 1 (by omega) (by omega) W)
      have HLN := hide (fun W => locksNew_any W)
      have HHN := hide (fun W => latchNew_any W)
      have HEN := hide (fun W => escrowNew_any W)
      clear hS i1 hK h7
      dsimp only
      go_upto_region 16 with (fail)
      refine wp_region_inv [fun v _ => v = .pointer (some ⟨d, 0, none⟩), fun v _ => v = .agg #[.int .i64 x.b, .int .i64 x.p, .int .i64 x.f, .int .i64 x.c, .int .i64 x.l], fun v _ => v = .pointer (some ⟨l, 0, none⟩), fun v _ => v = .pointer (some ⟨d, 0, none⟩), fun v _ => v = .pointer (some ⟨l, 0, none⟩), fun v _ => v = .iface 24 (.pointer (some ⟨l, 0, none⟩)), fun v _ => v = .pointer (some ⟨gc, 2, none⟩), fun v _ => v = .int .i64 x.f, fun v W => ∃ p : Nat, v = .pointer (some ⟨p, 0, none⟩) ∧ Blk W p 209 (poolC d l x.f (.slice none 0 0)), fun v W => ∃ p : Nat, v = .pointer (some ⟨p, 0, none⟩), fun v W => ∃ p : Nat, v = .pointer (some ⟨p, 0, none⟩), fun v W => ∃ p : Nat, v = .pointer (some ⟨p, 0, none⟩), fun v _ => v = .int .i64 0, fun v _ => v = .int .i64 1, fun v W => ∃ p mt : Nat, v = .pointer (some ⟨p, 0, none⟩) ∧ Blk W p 226 #[.int .i64 1, .map (some mt)], fun v W => PartsV d l x v W, fun v W => BaseV d l x v W, fun v W => BaseV d l x v W, fun v _ => v = .int .i64 0] (by kernel_rfl) (by kernel_rfl) (by kernel_rfl) ?st ?steps ?fin
      case st =>
        intro i v W W' hWW h
        match i with
        | 0 | 1 | 2 | 3 | 4 | 5 | 6 | 7 | 12 | 13 | 18 => exact h
        | 8 => obtain ⟨p, h1, h2⟩ := h; exact ⟨p, h1, Blk.via hWW h2⟩
        | 9 => exact h
        | 10 => exact h
        | 11 => exact h
        | 14 => obtain ⟨p, mt, h1, h2⟩ := h; exact ⟨p, mt, h1, Blk.via hWW h2⟩
        | 15 => obtain ⟨p, k1, k2, k3, t, mt, h1, h2, h3⟩ := h; exact ⟨p, k1, k2, k3, t, mt, h1, Blk.via hWW h2, Blk.via hWW h3⟩
        | 16 => obtain ⟨b, p, k1, k2, k3, t, mt, h1, h2, h3, h4⟩ := h; exact ⟨b, p, k1, k2, k3, t, mt, h1, Blk.via hWW h2, Blk.via hWW h3, Blk.via hWW h4⟩
        | 17 => obtain ⟨b, p, k1, k2, k3, t, mt, h1, h2, h3, h4⟩ := h; exact ⟨b, p, k1, k2, k3, t, mt, h1, Blk.via hWW h2, Blk.via hWW h3, Blk.via hWW h4⟩
        | (i + 19) => exact h
      case steps =>
        simp only [stepsI]
        refine ⟨?_, ?_, ?_, ?_, ?_, ?_, ?_, ?_, ?_, ?_, ?_, ?_, ?_, ?_, ?_, ?_, ?_, ?_, ?_, trivial⟩
        · intro f W hbW hdp
          simp only [fS, Nat.reduceAdd]
          go_wp2
          exact ⟨rfl, _, rfl, rfl, Below.refl _ _⟩
        · intro f W hbW hdp
          have kc := Blk.via hbW KC8.out
          have z0 := kc.cell 0
          have z1 := kc.cell 1
          have z2 := kc.cell 2
          have z3 := kc.cell 3
          have z4 := kc.cell 4
          have zl := kc.lt
          simp only [fS, Nat.reduceAdd]
          go_wp2
          exact ⟨rfl, _, rfl, rfl, Below.refl _ _⟩
        · intro f W hbW hdp
          simp only [fS, Nat.reduceAdd]
          go_wp2
          exact ⟨rfl, _, rfl, rfl, Below.refl _ _⟩
        · intro f W hbW hdp
          simp only [fS, Nat.reduceAdd]
          go_wp2
          exact ⟨rfl, _, rfl, rfl, Below.refl _ _⟩
        · intro f W hbW hdp
          simp only [fS, Nat.reduceAdd]
          go_wp2
          exact ⟨rfl, _, rfl, rfl, Below.refl _ _⟩
        · intro f W hbW hdp
          have e4 : f 4 = .pointer (some ⟨l, 0, none⟩) := hdp ⟨4, .data⟩ (mfl (by simp) rfl)
          simp only [fS, Nat.reduceAdd, e4]
          go_wp2
          exact ⟨rfl, _, rfl, rfl, Below.refl _ _⟩
        · intro f W hbW hdp
          simp only [fS, Nat.reduceAdd]
          go_wp2
          exact ⟨rfl, _, rfl, rfl, Below.refl _ _⟩
        · intro f W hbW hdp
          have e6 : f 6 = .pointer (some ⟨gc, 2, none⟩) := hdp ⟨6, .data⟩ (mfl (by simp) rfl)
          have z2 := (Blk.via hbW KC8.out).cell 2
          simp only [fS, Nat.reduceAdd, e6]
          go_wp2
          exact ⟨rfl, _, rfl, rfl, Below.refl _ _⟩
        · intro f W hbW hdp
          have e3 : f 3 = .pointer (some ⟨d, 0, none⟩) := hdp ⟨3, .data⟩ (mfl (by simp) rfl)
          have e5 : f 5 = .iface 24 (.pointer (some ⟨l, 0, none⟩)) := hdp ⟨5, .data⟩ (mfl (by simp) rfl)
          have e7 : f 7 = .int .i64 x.f := hdp ⟨7, .data⟩ (mfl (by simp) rfl)
          simp only [fS, Nat.reduceAdd, e3, e5, e7]
          go_wp2_with (go_at_call 76; refine (HPO.out _).mono ?_; rintro e w' ⟨p, rfl, kp, hlp, hb'⟩)
          exact ⟨rfl, _, rfl, ⟨p, rfl, kp⟩, hb'⟩
        · intro f W hbW hdp
          simp only [fS, Nat.reduceAdd]
          go_wp2_with (go_at_call 77; refine (HLN.out _).mono ?_; rintro e w' ⟨⟨p, rfl, hlp⟩, hb'⟩)
          exact ⟨rfl, _, rfl, ⟨p, rfl⟩, hb'⟩
        · intro f W hbW hdp
          simp only [fS, Nat.reduceAdd]
          go_wp2_with (go_at_call 78; refine (HHN.out _).mono ?_; rintro e w' ⟨⟨p, rfl, hlp⟩, hb'⟩)
          exact ⟨rfl, _, rfl, ⟨p, rfl⟩, hb'⟩
        · intro f W hbW hdp
          simp only [fS, Nat.reduceAdd]
          go_wp2_with (go_at_call 79; refine (HEN.out _).mono ?_; rintro e w' ⟨⟨p, rfl, hlp⟩, hb'⟩)
          exact ⟨rfl, _, rfl, ⟨p, rfl⟩, hb'⟩
        · intro f W hbW hdp
          have zn := (Blk.via hbW KN8.out).cell 0
          have zl := (Blk.via hbW KN8.out).lt
          simp only [fS, Nat.reduceAdd]
          go_wp2
          exact ⟨rfl, _, rfl, rfl, Below.refl _ _⟩
        · intro f W hbW hdp
          have e12 : f 12 = .int .i64 0 := hdp ⟨12, .data⟩ (mfl (by simp) rfl)
          simp only [fS, Nat.reduceAdd, e12]
          go_wp2
          exact ⟨rfl, _, rfl, rfl, Below.refl _ _⟩
        · intro f W hbW hdp
          have e13 : f 13 = .int .i64 1 := hdp ⟨13, .data⟩ (mfl (by simp) rfl)
          simp only [fS, Nat.reduceAdd, e13]
          go_wp2_with (go_at_call 80; refine (HTX.out _).mono ?_; rintro e w' ⟨p, mt, rfl, kt, hlp, hb'⟩)
          exact ⟨rfl, _, rfl, ⟨p, mt, rfl, kt⟩, hb'⟩
        · intro f W hbW hdp
          have e0 : f 0 = .pointer (some ⟨d, 0, none⟩) := hdp ⟨0, .data⟩ (mfl (by simp) rfl)
          have e1 : f 1 = .agg #[.int .i64 x.b, .int .i64 x.p, .int .i64 x.f, .int .i64 x.c, .int .i64 x.l] := hdp ⟨1, .data⟩ (mfl (by simp) rfl)
          have e2 : f 2 = .pointer (some ⟨l, 0, none⟩) := hdp ⟨2, .data⟩ (mfl (by simp) rfl)
          have e8 : ∃ p : Nat, (f 8) = .pointer (some ⟨p, 0, none⟩) ∧ Blk W p 209 (poolC d l x.f (.slice none 0 0)) := hdp ⟨8, .data⟩ (mfl (by simp) rfl)
          have e9 : ∃ p : Nat, (f 9) = .pointer (some ⟨p, 0, none⟩) := hdp ⟨9, .data⟩ (mfl (by simp) rfl)
          have e10 : ∃ p : Nat, (f 10) = .pointer (some ⟨p, 0, none⟩) := hdp ⟨10, .data⟩ (mfl (by simp) rfl)
          have e11 : ∃ p : Nat, (f 11) = .pointer (some ⟨p, 0, none⟩) := hdp ⟨11, .data⟩ (mfl (by simp) rfl)
          have e14 : ∃ p mt : Nat, (f 14) = .pointer (some ⟨p, 0, none⟩) ∧ Blk W p 226 #[.int .i64 1, .map (some mt)] := hdp ⟨14, .data⟩ (mfl (by simp) rfl)
          obtain ⟨p, h8, kp⟩ := e8
          obtain ⟨k1, h9⟩ := e9
          obtain ⟨k2, h10⟩ := e10
          obtain ⟨k3, h11⟩ := e11
          obtain ⟨t, mt, h14, kt⟩ := e14
          simp only [fS, Nat.reduceAdd, e0, e1, e2]
          simp only [h8, h9, h10, h11, h14]
          clear h8 h9 h10 h11 h14
          go_wp2
          exact ⟨rfl, _, rfl, Exists.intro p ⟨k1, k2, k3, t, mt, rfl, kp, kt⟩, Below.refl _ _⟩
        · intro f W hbW hdp
          have e15 : PartsV d l x (f 15) W := hdp ⟨15, .data⟩ (mfl (by simp) rfl)
          obtain ⟨p, k1, k2, k3, t, mt, h15, kp, kt⟩ := e15
          simp only [fS, Nat.reduceAdd]
          simp only [h15]
          clear h15
          go_wp2
          exact ⟨rfl, _, rfl, Exists.intro _ ⟨p, k1, k2, k3, t, mt, rfl, Blk.new _ _ _, kp.alloc _, kt.alloc _⟩, (Below.refl _ _).alloc (Nat.le_refl _) _⟩
        · intro f W hbW hdp
          have e16 : BaseV d l x (f 16) W := hdp ⟨16, .data⟩ (mfl (by simp) rfl)
          obtain ⟨b, p, k1, k2, k3, t, mt, h16, kb, kp, kt⟩ := e16
          simp only [fS, Nat.reduceAdd]
          simp only [h16]
          clear h16
          go_wp2
          exact ⟨rfl, _, rfl, Exists.intro b ⟨p, k1, k2, k3, t, mt, rfl, kb, kp, kt⟩, Below.refl _ _⟩
        · intro f W hbW hdp
          simp only [fS, Nat.reduceAdd]
          go_wp2
          exact ⟨rfl, _, rfl, rfl, Below.refl _ _⟩
      case fin =>
        intro f W hbW hA
        have a17 : BaseV d l x (f 17) W := hA 17 (by simp)
        have e18 : f 18 = .int .i64 0 := hA 18 (by simp)
        show wpList Tryz.prog #[] (Exit.then _ _) [] _ _
        simp only [fS, Nat.reduceAdd, e18]
        clear hA e18
        obtain ⟨b, p, k1, k2, k3, t, mt, h17, kb, kp, kt⟩ := a17
        simp only [h17]
        have KB9 := hide kb
        have KP9 := hide kp
        have KT9 := hide kt
        have HB9 := hide hbW
        clear h17 kb kp kt hbW
        go_wp2_with fail
        have hDk : W.heap[D]? = some (.deferred (some [])) := (HB9.out.block D hDl).trans HKK.out
        have hg6 := grownBy_putObj' W D (.deferred none)
        have o1 : ∀ {q : Nat} {t : TypeId} {c : Array Value}, Blk W q t c → Blk (W.putObj D (.deferred none)) q t c := fun k => (World.putObj_heap_other (blk_ne_mark k hDk)).trans k
        have tD : Turn (fun q => q = D) W (W.putObj D (.deferred none)) := ⟨hg6.os, hg6.tape, hg6.output, hg6.size, fun q hq hn => hg6.block q hq (fun e => by injection e with e; exact hn e)⟩
        have hsz7 := HB7.out.size
        refine leave_mark (v := .tuple #[.pointer (some ⟨b, 0, none⟩), .int .i64 0]) hDk (by simp [results, Tryz.results26, go_sem]) ⟨b, l, ml, p, t, rfl, ⟨⟨k1, k2, k3, o1 KB9.out⟩, o1 (Blk.via HB9.out KL8.out), (HM8.out.kept (HB9.out.block _ HM8.out.lt)).kept (World.putObj_heap_other (by omega)), o1 KP9.out, mt, o1 KT9.out⟩, (HS8.out.via HB9.out).keep tD (fun q hq e => by have := HDL.out q hq; omega), ?_⟩
        have hT := HT8.out.trans (Turn.of_below HB9.out)
        have hlw := HS.out.lt
        exact ⟨tD.os.trans hT.os, tD.tape.trans hT.tape, tD.output.trans hT.output, Nat.le_trans hT.size tD.size, fun q hq hn => (tD.block q (Nat.lt_of_lt_of_le hq hT.size) (fun e => by have := HT6.out.size; omega)).trans (hT.block q hq hn)⟩
end Go.Proofs.YtnanlaefehaifaaGreat
namespace Go.Proofs.YtnanlaefehaifaaGreat
open Go.RowKit Go.Shelf Go.Maps
def zPg : List UInt8 := List.replicate 512 0
theorem zPg_zero : (zPg.map byteV).toArray = Tryz.zeroCells63 := by rfl
theorem open_nil (w : World) : Calls Tryz.prog 26 #[.pointer none] w fun e w' => e = .returned (.tuple #[.pointer none, .int .i64 4]) ∧ w' = w := by
  go_enter Tryz.func26, Tryz.ntmps26
  go_wp2
  go_ret2
  exact ⟨rfl, rfl⟩
theorem redo_nil (lsn : Int) (cs : Array Value) (w : World) : Calls Tryz.prog 39 #[.pointer none, .int .i64 lsn, .agg cs] w fun e w' => e = .returned (.int .i64 4) ∧ Below w.heap.size w w' := by
  go_enter Tryz.func39, Tryz.ntmps39
  go_wp2
  go_ret
  exact ⟨rfl, (Below.refl _ _).alloc (Nat.le_refl _) _⟩
theorem write_nil (keep : Int) (cs : Array Value) (w : World) : Calls Tryz.prog 37 #[.pointer none, .agg cs, .int .i64 keep] w fun e w' => e = .returned (.tuple #[.int .i64 0, .int .i64 4]) ∧ Below w.heap.size w w' := by
  go_enter Tryz.func37, Tryz.ntmps37
  go_wp2
  go_ret2
  exact ⟨rfl, (Below.refl _ _).alloc (Nat.le_refl _) _⟩
theorem get_nil (no : Int) (w : World) : Calls Tryz.prog 36 #[.pointer none, .int .i64 no] w fun e w' => e = .returned (.tuple #[pgV zPg, .int .i64 4]) ∧ Below w.heap.size w w' := by
  have hl : zPg.length = 512 := by unfold zPg; simp
  have HPX := hide (pg_size zPg hl)
  have HPI := hide (show (Tryz.prog.info? 63).map (·.size) = some ((zPg.map byteV).toArray).size by rw [HPX.out]; exact info_pg)
  have HPZ := hide (show Tryz.zeroCells63.size = ((zPg.map byteV).toArray).size by rw [HPX.out]; exact zeros_page)
  have HP1 := hide (row_one zPg)
  unfold pgV
  rw [zPg_zero] at *
  clear hl
  go_enter Tryz.func36, Tryz.ntmps36
  go_upto_region 1 with (fail)
  refine gen1 (R := fun W => Code.wp _ _ _ _ W) (fun W1 k1 hb1 hz1 => ?_)
  have K1 := hide k1
  have HB1 := hide hb1
  clear k1 hb1
  go_wp2_with (refine wpList_store_row rfl 63 (.tmp 4) (.tmp 8) rfl w.heap.size Tryz.zeroCells63 rfl rfl 63 _ K1.out HPI.out HPZ.out HP1.out ?_)
  refine bodyPost_ret (results_row_1 Tryz.results36 _ _ w.heap.size Tryz.zeroCells63 rfl (run_loadVar_row _ _ _ _ Tryz.zeroCells63 (0, 0) _ (setRow_heap _ w.heap.size _ _ _ _ K1.out) Tryz.underlying63 rfl HPI.out)) rfl ⟨rfl, ?_⟩
  exact (touch_setRow _ w.heap.size Tryz.zeroCells63).below HB1.out (Nat.le_refl _)
end Go.Proofs.YtnanlaefehaifaaGreat
namespace Go.Proofs.YtnanlaefehaifaaGreat
open Go.RowKit Go.Shelf Go.Maps
theorem flat_rep (n : Nat) : (List.replicate n zPg).flatMap (fun p => p.map byteV) = List.replicate (n * 512) (byteV 0) := by
  induction n with
  | zero => simp
  | succ n ih =>
    rw [List.replicate_succ, List.flatMap_cons, ih, zPg, List.map_replicate, List.replicate_append_replicate]
    congr 1
    omega
theorem zPg_length : zPg.length = 512 := List.length_replicate
theorem pagesZ_eq (n : Nat) : pagesZ n = ((List.replicate n zPg).flatMap (fun p => p.map byteV)).toArray := by
  rw [flat_rep]
  have hz : (Value.agg Tryz.zeroCells63).cells = (zPg.map byteV).toArray := zPg_zero.symm
  unfold pagesZ
  rw [hz]
  unfold madeCells
  apply Array.ext'
  rw [Array.toList_map]
  refine List.eq_replicate_iff.2 ⟨by simp, ?_⟩
  intro v hv
  obtain ⟨i, hi, rfl⟩ := List.mem_map.1 hv
  have hs : ((zPg.map byteV).toArray).size = 512 := by rw [List.size_toArray, List.length_map, zPg_length]
  rw [hs]
  have hlt : i % 512 < ((zPg.map byteV).toArray).size := by rw [hs]; exact Nat.mod_lt _ (by omega)
  rw [getElem!_pos (zPg.map byteV).toArray (i % 512) hlt]
  rw [List.getElem_toArray, List.getElem_map]
  congr 1
  exact List.getElem_replicate _
theorem DevS.fresh {w : World} {d g m n : Nat} (kd : Blk w d 107 (devC (.slice (some ⟨g, 0, none⟩) n n) (.map (some m)) (.slice none 0 0) 0 0 0 0 0)) (kg : Blk w g 63 (pagesZ n)) (hm : MapF w m 0 (fun _ => none)) :
    DevS w d g m n false 0 (.slice none 0 0) 0 0 0 (List.replicate n zPg) 0 (fun _ => none) (fun _ => []) :=
  ⟨⟨0, kd⟩, by rw [← pagesZ_eq]; exact kg, by simp, fun p hp => (by rw [List.eq_of_mem_replicate hp]; exact zPg_length), hm, fun _ p hp => (by cases hp),
    fun _ => World.ownsRow_nil _ _ _ _, fun _ h => (by cases h), fun _ _ _ _ h => (by cases h)⟩
def badP (bs : List UInt8) (n : Nat) : Bool := !(rightP bs 0) || (match metaG bs with | none => true | some (x, _) => decide ((n : Int) < x.p))
def wantP (bs : List UInt8) (n : Nat) (fz : Int) : Int := if fz = 0 then 3 else if badP bs n = true then 14 else if fz = 1 then 3 else 0
theorem badP_true {bs : List UInt8} {n : Nat} (h : badP bs n = true) (x : ConfD) (u : Int) (hx : metaG bs = some (x, u)) (hr : rightP bs 0 = true) : (n : Int) < x.p := by
  unfold badP at h
  rw [hx, hr] at h
  simpa using h
theorem badP_false {bs : List UInt8} {n : Nat} (h : badP bs n = false) : rightP bs 0 = true ∧ ∃ x u, metaG bs = some (x, u) ∧ x.p ≤ n := by
  unfold badP at h
  cases hm : metaG bs with
  | none => rw [hm] at h; simp at h
  | some q =>
    obtain ⟨x, u⟩ := q
    rw [hm] at h
    simp at h
    exact ⟨h.1, x, u, rfl, by omega⟩
def OpenOut (w : World) (d n : Nat) (bs : List UInt8) (fz : Int) (e : Ending) (w' : World) : Prop :=
  ∃ xv : Option Addr, e = .returned (.tuple #[.pointer xv, .int .i64 (wantP bs n fz)]) ∧ Turn (fun q => q = d) w w' ∧
    ((xv = none ∧ wantP bs n fz ≠ 0) ∨ (∃ b x u l ml p t, xv = some ⟨b, 0, none⟩ ∧ wantP bs n fz = 0 ∧ metaG bs = some (x, u) ∧ PartsS w' b d x l ml p t))
theorem open_out (w : World) (d g m n : Nat) (fz : Int) (stale : Int) (safe : List (List UInt8)) (k : Nat) (mf : Int → Option Value) (wr : Nat → List (List UInt8))
    (h : DevS w d g m n (decide (0 ≤ fz)) (max fz 0) (.slice none 0 0) stale 0 0 safe k mf wr) (h0 : 0 < n) (hn : n ≤ 1024) (hw : (wr 0).length ≤ 1000000) (hz : fz ≤ 9223372036854775807) :
    Calls Tryz.prog 26 #[.pointer (some ⟨d, 0, none⟩)] w (OpenOut w d n (pgOf safe wr 0) fz) := by
  by_cases hf0 : fz = 0
  · subst hf0
    obtain ⟨o, kd⟩ := h.kd
    refine (open_power0 w d n _ _ _ _ stale 0 0 o kd h0 hn).mono ?_
    rintro e w' ⟨rfl, ht⟩
    exact ⟨none, by unfold wantP; rw [if_pos rfl], ht, .inl ⟨rfl, by unfold wantP; rw [if_pos rfl]; decide⟩⟩
  · have hfu : decide (0 ≤ fz) = true → 0 < max fz 0 ∧ max fz 0 ≤ 9223372036854775807 := by
      intro hd
      have := of_decide_eq_true hd
      omega
    cases hb : badP (pgOf safe wr 0) n
    · obtain ⟨hr, x, u, hx, hp⟩ := badP_false hb
      by_cases hf1 : fz = 1
      · subst hf1
        have hwp : wantP (pgOf safe wr 0) n 1 = 3 := by unfold wantP; rw [if_neg (by decide), hb, if_neg (by decide), if_pos rfl]
        refine (open_power1 w d g m n _ _ stale safe k mf wr h h0 hn hw hfu x u hx hr hp ⟨by decide, by decide⟩).mono ?_
        rintro e w' ⟨rfl, ht⟩
        exact ⟨none, by rw [hwp], ht, .inl ⟨rfl, by rw [hwp]; decide⟩⟩
      · have hwp : wantP (pgOf safe wr 0) n fz = 0 := by unfold wantP; rw [if_neg hf0, hb, if_neg (by decide), if_neg hf1]
        refine (open_ok w d g m n _ _ stale safe k mf wr h h0 hn hw hfu x u hx hr hp (fun hd => by have := of_decide_eq_true hd; omega) _ rfl).mono ?_
        rintro e w' ⟨b, l, ml, p, t, rfl, hP, hD, ht⟩
        exact ⟨some ⟨b, 0, none⟩, by rw [hwp], ht, .inr ⟨b, x, u, l, ml, p, t, rfl, hwp, hx, hP⟩⟩
    · have hwp : wantP (pgOf safe wr 0) n fz = 14 := by unfold wantP; rw [if_neg hf0, if_pos hb]
      refine (open_bad w d g m n _ _ _ stale 0 0 safe k mf wr h h0 hn hw hfu (badP_true hb)).mono ?_
      rintro e w' ⟨rfl, ht⟩
      exact ⟨none, by rw [hwp], ht, .inl ⟨rfl, by rw [hwp]; decide⟩⟩
end Go.Proofs.YtnanlaefehaifaaGreat
