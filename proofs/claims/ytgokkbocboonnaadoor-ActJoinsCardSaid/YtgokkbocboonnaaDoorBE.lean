/-
  WALK: the law moneyerlaw31.ActLists.
-/
import Derived.Test.YtgokkbocboonnaaDoorAY
import Derived.Test.YtgokkbocboonnaaDoorBC
import Derived.Test.YtgokkbocboonnaaDoorBD
namespace Go.Proofs.YtgokkbocboonnaaDoor
open Go.RowKit Go.Lib

/-- What the law puts together: each act's line, or nothing, and a newline. -/
def wantT (l : List ActD) : List UInt8 := l.flatMap fun a => lineS a ++ [10]
theorem wantT_ok {l : List ActD} (h : l.all isActB = true) : wantT l = scriptT l := by
  induction l with
  | nil => rfl
  | cons a r ih =>
    simp only [List.all_cons, Bool.and_eq_true] at h
    have := ih h.2
    show (lineS a ++ [10]) ++ wantT r = (actT a ++ [10]) ++ scriptT r
    rw [this, lineS, if_pos h.1]
theorem wantT_snoc {xs : List ActV} {k : Nat} {x : ActV} (h : xs[k]? = some x) : wantT ((xs.take (k + 1)).map ActV.d) = wantT ((xs.take k).map ActV.d) ++ lineS x.d ++ [10] := by
  obtain ⟨hk, e⟩ := List.getElem?_eq_some_iff.1 h
  rw [List.take_succ_eq_append_getElem hk, e, List.map_append]
  simp [wantT]
theorem all_snoc {xs : List ActV} {k : Nat} {x : ActV} (h : xs[k]? = some x) : ((xs.take (k + 1)).map ActV.d).all isActB = (((xs.take k).map ActV.d).all isActB && isActB x.d) := by
  obtain ⟨hk, e⟩ := List.getElem?_eq_some_iff.1 h
  rw [List.take_succ_eq_append_getElem hk, e, List.map_append, List.all_append]
  simp
/-- A script that is asked for. -/
def Small (xs : List ActV) : Prop := xs.length ≤ 200 ∧ (∀ x ∈ xs, ActSm x.d) ∧ ∀ x ∈ xs, (lineS x.d).length ≤ 1500
theorem small_of {xs : List ActV} (h : muchA xs = false) (hi : ∀ x ∈ xs, ActIn x.d) : Small xs := by
  obtain ⟨h1, h2⟩ := muchA_no h
  refine ⟨h1, fun x hx => sm_of_big (h2 x hx) (hi x hx), fun x hx => ?_⟩
  unfold lineS
  split
  · rename_i hB
    exact actT_len2 (h2 x hx) (hi x hx) hB
  · simp
/-- What act.Print tells, as one. -/
def prS (xs : List ActV) : List UInt8 := if (xs.map ActV.d).all isActB = true then scriptT (xs.map ActV.d) else []
def prE (xs : List ActV) : Int := if (xs.map ActV.d).all isActB = true then 0 else 1
theorem print_one (A : Option Addr) (n c : Nat) (xs : List ActV) (B : Nat) (w : World) (hB : B ≤ w.heap.size) (hn : n ≤ 1000) (h : Acts w B A n xs) (hs : ∀ x ∈ xs, ActSm x.d) (ht : PTab w) :
    Calls Tryd.prog 18 #[.slice A n c] w fun e w' => e = .returned (.tuple #[.string (tx (prS xs)), .int .i64 (prE xs)]) ∧ Below w.heap.size w w' := by
  refine (print_any A n c xs B w hB hn h hs ht).mono ?_
  rintro e w' ⟨hb, ⟨h1, rfl⟩ | ⟨h1, rfl⟩⟩
  · refine ⟨?_, hb⟩
    unfold prS prE
    rw [h1]
    rfl
  · refine ⟨?_, hb⟩
    unfold prS prE
    rw [h1]
    rfl
theorem prS_len {xs : List ActV} (h : Small xs) : (prS xs).length ≤ 300200 := by
  obtain ⟨h1, h2, h3⟩ := h
  unfold prS
  split
  · rename_i hall
    have := scriptT_len2 (l := xs.map ActV.d) (fun a ha => by
      obtain ⟨x, hx, rfl⟩ := List.mem_map.1 ha
      have := h3 x hx
      rw [List.all_eq_true] at hall
      rwa [lineS, if_pos (hall _ ha)] at this)
    rw [List.length_map] at this
    omega
  · simp
theorem print_read {s : ByteArray} {w : World} {B : Nat} {A : Option Addr} {c : Nat} {done : List ActV} (hr : ARow w B (.slice A done.length c) done) (h : readD s.data.toList = some (done.map ActV.d)) (hs : s.size ≤ 1500) (ht : PTab w) :
    Calls Tryd.prog 18 #[.slice A done.length c] w fun e w' => e = .returned (.tuple #[.string s, .int .i64 0]) ∧ Below w.heap.size w w' := by
  obtain ⟨h1, h2⟩ := readD_some h
  have hall : (done.map ActV.d).all isActB = true := by
    rw [List.all_eq_true]
    exact fun a ha => (h2 a ha).1
  have hc := script_count (done.map ActV.d)
  have hsz : s.data.toList.length = s.size := Array.length_toList (xs := s.data)
  rw [h1, List.length_map] at hc
  have := print_one A done.length c done w.heap.size w (Nat.le_refl _) (by omega) hr.acts (fun x hx => readD_sm h _ (List.mem_map.2 ⟨x, hx, rfl⟩)) ht
  rw [prS, prE, if_pos hall, if_pos hall, h1] at this
  exact this
def WaRel (w : World) (n : Nat) (xs : List ActV) (s7 s8 i : Value) (wr : World) : Prop :=
  ∃ (k : Nat) (l : ByteArray), k ≤ n ∧ s7 = .string l ∧ s8 = .bool (((xs.take k).map ActV.d).all isActB) ∧ i = .int .i64 k ∧ Below w.heap.size w wr ∧ Hid (l.data.toList = wantT ((xs.take k).map ActV.d)) ∧ l.size ≤ 1501 * k
set_option maxRecDepth 100000 in
set_option maxHeartbeats 12800000 in
theorem ActLists_main (A : Option Addr) (n c : Nat) (xs : List ActV) (s : ByteArray) (w : World) (hE : Env w) (h : Acts w w.heap.size A n xs) (hM : muchA xs = false) (hi : ∀ x ∈ xs, ActIn x.d) (hss : s.size ≤ 1500) :
    Calls Tryd.prog 5 #[.slice A n c, .string s] w fun e w' => e = .returned (.bool true) ∧ Below w.heap.size w w' := by
  have hS := small_of hM hi
  have hl := h.1
  have hn : n ≤ 200 := by have := hS.1; omega
  have hp : ∀ x ∈ xs, x.d.pages.length ≤ 1000 := fun x hx => (hS.2.1 x hx).2.2
  have HM := hide (fun W (hW : Below w.heap.size w W) => hM ▸ muchA_any A n c xs w.heap.size W hW.size (by omega) (h.below hW (Nat.le_refl _)) (fun x hx => by have := hp x hx; omega))
  obtain ⟨sT, HT1, HT2, hTs⟩ := letter (prS xs)
  have hTl : sT.size ≤ 1000000 := by have := prS_len hS; omega
  obtain ⟨E, hE'⟩ : ∃ E, prE xs = E := ⟨_, rfl⟩
  have HPr := hide (fun W (hW : Below w.heap.size w W) => HT1.out ▸ hE' ▸ print_one A n c xs w.heap.size W hW.size (by omega) (h.below hW (Nat.le_refl _)) hS.2.1 (hE.pt.below hW))
  have HLV := hide (fun W (hW : Below w.heap.size w W) => live_any W (hE.below hW))
  have HRt := hide (fun W (hW : Below w.heap.size w W) => read_any sT W hTl (hE.below hW))
  have HRs := hide (fun W (hW : Below w.heap.size w W) => read_any s W (by omega) (hE.below hW))
  have HS := hide hS
  have HI := hide hi
  have HE' := hide hE'
  have HLen := hide hl
  have HEv := hide hE
  have HAc := hide h
  have HP0 := hide (fun W (hW : Below w.heap.size w W) => (show Calls Tryd.prog 18 #[.slice none 0 0] W fun e w' => e = .returned (.tuple #[.string ⟨#[]⟩, .int .i64 0]) ∧ Below W.heap.size W w' from print_one none 0 0 [] W.heap.size W (Nat.le_refl _) (by omega) ⟨rfl, Reads.none_, fun v hv => by cases hv⟩ (fun v hv => by cases hv) (hE.pt.below hW)))
  have s1 : ¬ (1500 : Int) < s.size := by omega
  have hb00 := Below.refl w.heap.size w
  clear hE' hS hi hl hp hM hTs hE h
  go_enter Tryd.func5, Tryd.ntmps5
  go_wp2_with fail
  refine (HM.out _ hb00).mono ?_
  rintro e w1 ⟨rfl, hb1⟩
  have hbw1 := below_via hb00 hb1 hb00.size
  go_wp2_with fail
  refine (HPr.out _ hbw1).mono ?_
  rintro e w2 ⟨rfl, hb2⟩
  have hbw2 := below_via hbw1 hb2 hbw1.size
  have z2 := hbw2.size
  go_wp2
  go_loopw [7, 8, 9] (WaRel w2 n xs) (fun _ _ i _ => n - (intOf i).toNat)
  case atStart => exact ⟨0, ⟨#[]⟩, Nat.zero_le _, rfl, rfl, rfl, Below.refl _ _, hide rfl, Nat.le_refl _⟩
  case round =>
    obtain ⟨k, l, hk, rfl, rfl, rfl, hbr, HW, hlk⟩ := hrel
    have hbwr := below_via hbw2 hbr z2
    by_cases hlt : k < n
    · have hD := HAc.out.below hbwr (Nat.le_refl _)
      obtain ⟨b, o, x, rfl, hb, hkx, hok, _⟩ := hD.at_ (k := k) hlt
      obtain ⟨c0, c1, c2, c3, c4, c5, c6, c7, c8, c9, c10⟩ := hD.row hkx
      have hxm := List.mem_of_getElem? hkx
      have hsm := HS.out.2.1 x hxm
      have HLL := hide (HS.out.2.2 x hxm)
      have HWS := hide (wantT_snoc hkx)
      have HAS := hide (all_snoc hkx)
      have s0 : (0 : Int) ≤ k := by omega
      have s2 : (k : Int) < n := by omega
      have hok' := hok
      obtain ⟨⟨A1, n1, m1, e1, g1⟩, F, f', e2, g2⟩ := hok'
      obtain ⟨d, dv, pv⟩ := x
      dsimp only at *
      subst e1 e2
      obtain ⟨sx, HX1, HX2, hxs⟩ := letter (lineS d)
      have hxl : sx.size ≤ 1500 := by rw [hxs]; exact HLL.out
      have HRL := hide (fun W (hW : Below wr.heap.size wr W) => (rLine_any ⟨d, .slice A1 n1 m1, .slice F d.pages.length f'⟩ w.heap.size W (by have := hW.size; have := hbwr.size; omega) hsm.1 hsm.2.1 (hok.below hW (by have := hbwr.size; omega)) (by have := hsm.2.2; dsimp only at this ⊢; omega)).mono fun e w' h => (show e = .returned (.tuple #[.string sx, .bool (isActB d)]) ∧ Below W.heap.size W w' from ⟨by
        obtain ⟨_, ⟨h1, h2⟩ | ⟨h1, h2⟩⟩ := h
        · dsimp only at h1
          rw [h2, h1, ← HX1.out, lineS, if_neg (by rw [h1]; decide)]
          rfl
        · dsimp only at h1
          rw [h2, rlineV, ← HX1.out, lineS, if_pos h1, h1], h.1⟩))
      unfold actV at HRL
      dsimp only at HRL
      have hbz : b < wr.heap.size := by have := hbwr.size; omega
      clear hkx hD hxm hsm hok HX1 hxs g1 g2
      go_wp2_with fail
      refine (HRL.out _ (Below.refl _ _)).mono ?_
      rintro e w3 ⟨rfl, hb3⟩
      have hb23 := below_via hbr hb3 hbr.size
      generalize hu : ((xs.take k).map ActV.d).all isActB = u at HAS ⊢
      generalize hv : isActB d = v at HAS ⊢
      clear hu hv
      have hsz : (l ++ sx ++ ⟨#[10]⟩).size ≤ 1501 * (k + 1) := by
        rw [ByteArray.size_append, ByteArray.size_append]
        show l.size + sx.size + 1 ≤ _
        omega
      have HWN : Hid ((l ++ sx ++ ⟨#[10]⟩).data.toList = wantT ((xs.take (k + 1)).map ActV.d)) := hide (by
        rw [HWS.out, ByteArray.data_append, Array.toList_append, ByteArray.data_append, Array.toList_append, HW.out, HX2.out])
      clear c0 c1 c2 c3 c4 c5 c6 c7 c8 c9 c10
      cases u <;> cases v
      all_goals
        go_wp2
        go_roundw
        case rel => exact ⟨k + 1, _, by omega, rfl, congrArg Value.bool (HAS.out.trans rfl).symm, by go_num, hb23, HWN, hsz⟩
        case measure => simp [intOf]; omega
    · have hkn : k = n := by omega
      subst hkn
      have hall0 : (xs.take k).map ActV.d = xs.map ActV.d := by rw [List.take_of_length_le (by have := HLen.out; omega)]
      rw [hall0] at HW ⊢
      have s2 : ¬ (k : Int) < k := by omega
      clear hlt hk
      cases hall : (xs.map ActV.d).all isActB
      · obtain rfl : E = 1 := by rw [← HE'.out, prE, if_neg (by rw [hall]; decide)]
        obtain rfl : sT = ⟨#[]⟩ := by rw [← HT1.out, prS, if_neg (by rw [hall]; decide)]; rfl
        clear hall hall0 hlk HE' HT1 HT2
        go_wp2_with (go_at_call 9; refine (code_any _ _).mono ?_; rintro e w' ⟨rfl, hw'⟩; obtain rfl := hw'.symm)
        refine (HRt.out _ hbwr).mono ?_
        rintro e w4 ⟨hb4, ⟨r1, rfl⟩ | ⟨A2, c2, done, r1, rfl, hrow⟩⟩
        · cases r1
        · have hd0 : done = [] := by
            have h1 : some (done.map ActV.d) = some [] := r1.symm
            injection h1 with h1
            exact List.map_eq_nil_iff.1 h1
          subst hd0
          have hbw4 := below_via hbwr hb4 hbwr.size
          clear r1 hrow
          go_wp2_with (go_at_call 9; refine (code_any _ _).mono ?_; rintro e w' ⟨rfl, hw'⟩; obtain rfl := hw'.symm)
          go_loopw [14] (fun i W => i = .int .i64 0 ∧ Below w4.heap.size w4 W) (fun _ _ => 0)
          case atStart => exact ⟨rfl, Below.refl _ _⟩
          case round =>
            obtain ⟨rfl, hbr5⟩ := hrel
            have hbw5 := below_via hbw4 hbr5 hbw4.size
            go_wp2_with (go_at_call 19; refine (HRs.out _ hbw5).mono ?_)
            rintro e w6 ⟨hb6, ⟨r1, rfl⟩ | ⟨A3, c3, don3, r1, rfl, hrow3⟩⟩
            · have hbw6 := below_via hbw5 hb6 (hbw5).size
              clear r1
              go_wp2_with (go_at_call 18; refine (HP0.out _ hbw6).mono ?_)
              rintro e w7 ⟨rfl, hb7⟩
              have hbw7 := below_via hbw6 hb7 hbw6.size
              go_wp2_with (first | (go_at_call 9; refine (code_any _ _).mono ?_; rintro e w' ⟨rfl, hw'⟩; obtain rfl := hw'.symm) | (go_at_call 7; refine (HLV.out _ hbw7).mono ?_; rintro e w8 ⟨rfl, hb8⟩))
              go_ret
              exact ⟨rfl, below_via hbw7 hb8 hbw7.size⟩
            · have hbw6 := below_via hbw5 hb6 (hbw5).size
              have HP3 := hide (print_read hrow3 r1 hss (HEv.out.pt.below hbw6))
              generalize don3.length = n3 at HP3 ⊢
              clear r1 hrow3
              go_wp2_with (go_at_call 18; refine (HP3.out).mono ?_)
              rintro e w7 ⟨rfl, hb7⟩
              have hbw7 := below_via hbw6 hb7 hbw6.size
              go_wp2_with (first | (go_at_call 9; refine (code_any _ _).mono ?_; rintro e w' ⟨rfl, hw'⟩; obtain rfl := hw'.symm) | (go_at_call 7; refine (HLV.out _ hbw7).mono ?_; rintro e w8 ⟨rfl, hb8⟩))
              go_ret
              exact ⟨rfl, below_via hbw7 hb8 hbw7.size⟩
      · obtain rfl : E = 0 := by rw [← HE'.out, prE, if_pos hall]
        obtain rfl : l = sT := by
          have h1 : l.data.toList = sT.data.toList := by rw [HW.out, HT2.out, wantT_ok hall, prS, if_pos hall]
          exact ByteArray.ext (Array.toList_inj.1 h1)
        clear hall0 hlk HE'
        have HALL := hide hall
        clear hall
        go_wp2_with (go_at_call 9; refine (code_any _ _).mono ?_; rintro e w' ⟨rfl, hw'⟩; obtain rfl := hw'.symm)
        have HRD := hide (show readD l.data.toList = some ((xs.map ActV.d).map plainAct) by
          have hall := HALL.out
          rw [List.all_eq_true] at hall
          rw [HT2.out, prS, if_pos HALL.out]
          exact readD_print (fun a ha => ⟨hall a ha, by obtain ⟨x, hx, rfl⟩ := List.mem_map.1 ha; exact HI.out x hx⟩))
        refine (HRt.out _ hbwr).mono ?_
        rintro e w4 ⟨hb4, ⟨r1, rfl⟩ | ⟨A2, c2, done, r1, rfl, hrow⟩⟩
        · rw [HRD.out] at r1
          cases r1
        · have hdd : done.map ActV.d = (xs.map ActV.d).map plainAct := by
            rw [HRD.out] at r1
            exact (Option.some.inj r1).symm
          have hdl : done.length = k := by
            have h1 := congrArg List.length hdd
            simp only [List.length_map] at h1
            rw [h1]
            exact HLen.out.symm
          have hDA := hrow.acts
          rw [hdl] at hDA ⊢
          have HDA := hide hDA
          have HDD := hide hdd
          have hbw4 := below_via hbwr hb4 hbwr.size
          clear r1 hrow hdl hDA hdd
          go_wp2_with (go_at_call 9; refine (code_any _ _).mono ?_; rintro e w' ⟨rfl, hw'⟩; obtain rfl := hw'.symm)
          go_loopw [14] (fun i W => ∃ j : Nat, j ≤ k ∧ i = .int .i64 j ∧ Below w4.heap.size w4 W) (fun i _ => k - (intOf i).toNat)
          case atStart => exact ⟨0, Nat.zero_le _, rfl, Below.refl _ _⟩
          case round =>
            obtain ⟨j, hj, rfl, hbr5⟩ := hrel
            have hbw5 := below_via hbw4 hbr5 hbw4.size
            by_cases hjk : j < k
            · have hD1 := HDA.out.below hbr5 (Nat.le_refl _)
              have hD2 := HAc.out.below hbw5 (Nat.le_refl _)
              obtain ⟨b2, o2, z, rfl, hb2z, hzk, hzok, _⟩ := hD1.at_ (k := j) hjk
              obtain ⟨b, o, x, rfl, hbz, hkx, hok, _⟩ := hD2.at_ (k := j) hjk
              have z5 := hbr5.size
              have zw := hbw4.size
              have HZR := hide (fun W (hb : Below wr.heap.size wr W) => (hD1.below hb z5).row hzk)
              have HXR := hide (fun W (hb : Below wr.heap.size wr W) => (hD2.below hb hbw5.size).row hkx)
              have hzx : z.d = plainAct x.d := by
                have h1 := congrArg (fun l => l[j]?) HDD.out
                simp only [List.getElem?_map, hzk, hkx, Option.map_some, Option.some.injEq] at h1
                exact h1
              have hxB : isActB x.d = true := by
                have hall := HALL.out
                rw [List.all_eq_true] at hall
                exact hall _ (List.mem_map.2 ⟨x, List.mem_of_getElem? hkx, rfl⟩)
              have hxp := (HS.out.2.1 x (List.mem_of_getElem? hkx)).2.2
              have hzok' := hzok
              have hok' := hok
              obtain ⟨⟨A1, n1, m1, e1, g1⟩, F, f', e2, g2⟩ := hok'
              obtain ⟨⟨A3, n3, m3, e3, g3⟩, F3, f3, e4, g4⟩ := hzok'
              obtain ⟨d, dv, pv⟩ := x
              obtain ⟨zd, zdv, zpv⟩ := z
              dsimp only at *
              subst e1 e2 e3 e4
              obtain ⟨Y, HY⟩ : ∃ Y, Hid (actV (plainY ⟨d, .slice A1 n1 m1, .slice F d.pages.length f'⟩) = Y) := ⟨_, rfl⟩
              have HPl := hide (fun W => (rPlain_any ⟨d, .slice A1 n1 m1, .slice F d.pages.length f'⟩ W ⟨_, _, _, rfl⟩ ⟨_, _, _, rfl⟩ hxB).mono fun e w' h => (show e = .returned Y ∧ Below W.heap.size W w' from ⟨by rw [h.2, HY.out], h.1⟩))
              have hpl : (plainAct d).pages.length ≤ 1000000 := by
                unfold plainAct
                dsimp only
                split
                · omega
                · simp
              have HSz := hide (fun W (hW : Below wr.heap.size wr W) => (rSameAct_any ⟨zd, .slice A3 n3 m3, .slice F3 zd.pages.length f3⟩ (plainY ⟨d, .slice A1 n1 m1, .slice F d.pages.length f'⟩) w4.heap.size W (by have := hW.size; omega) (hzok.below hW z5) (plainY_ok ((hok.below hW hbw5.size).more zw)) (by subst hzx; exact hpl) hpl).mono fun e w' h => (show e = .returned (.bool true) ∧ Below W.heap.size W w' from ⟨by rw [h.1]; exact ret_bool (show actEq zd (plainAct d) = true by rw [hzx]; exact actEq_refl _), h.2⟩))
              simp only [HY.out] at HSz
              unfold actV at HPl HSz
              dsimp only at HPl HSz
              have qz0 : ∀ t : In (Below wr.heap.size wr), t.w.cell? ⟨b2, o2 + j * 11, none⟩ = _ := fun t => (HZR.out _ t.h).1
              have qz1 : ∀ t : In (Below wr.heap.size wr), t.w.cell? ⟨b2, o2 + j * 11 + 1, none⟩ = _ := fun t => (HZR.out _ t.h).2.1
              have qz2 : ∀ t : In (Below wr.heap.size wr), t.w.cell? ⟨b2, o2 + j * 11 + 2, none⟩ = _ := fun t => (HZR.out _ t.h).2.2.1
              have qz3 : ∀ t : In (Below wr.heap.size wr), t.w.cell? ⟨b2, o2 + j * 11 + 3, none⟩ = _ := fun t => (HZR.out _ t.h).2.2.2.1
              have qz4 : ∀ t : In (Below wr.heap.size wr), t.w.cell? ⟨b2, o2 + j * 11 + 4, none⟩ = _ := fun t => (HZR.out _ t.h).2.2.2.2.1
              have qz5 : ∀ t : In (Below wr.heap.size wr), t.w.cell? ⟨b2, o2 + j * 11 + 5, none⟩ = _ := fun t => (HZR.out _ t.h).2.2.2.2.2.1
              have qz6 : ∀ t : In (Below wr.heap.size wr), t.w.cell? ⟨b2, o2 + j * 11 + 6, none⟩ = _ := fun t => (HZR.out _ t.h).2.2.2.2.2.2.1
              have qz7 : ∀ t : In (Below wr.heap.size wr), t.w.cell? ⟨b2, o2 + j * 11 + 7, none⟩ = _ := fun t => (HZR.out _ t.h).2.2.2.2.2.2.2.1
              have qz8 : ∀ t : In (Below wr.heap.size wr), t.w.cell? ⟨b2, o2 + j * 11 + 8, none⟩ = _ := fun t => (HZR.out _ t.h).2.2.2.2.2.2.2.2.1
              have qz9 : ∀ t : In (Below wr.heap.size wr), t.w.cell? ⟨b2, o2 + j * 11 + 9, none⟩ = _ := fun t => (HZR.out _ t.h).2.2.2.2.2.2.2.2.2.1
              have qz10 : ∀ t : In (Below wr.heap.size wr), t.w.cell? ⟨b2, o2 + j * 11 + 10, none⟩ = _ := fun t => (HZR.out _ t.h).2.2.2.2.2.2.2.2.2.2
              have qx0 : ∀ t : In (Below wr.heap.size wr), t.w.cell? ⟨b, o + j * 11, none⟩ = _ := fun t => (HXR.out _ t.h).1
              have qx1 : ∀ t : In (Below wr.heap.size wr), t.w.cell? ⟨b, o + j * 11 + 1, none⟩ = _ := fun t => (HXR.out _ t.h).2.1
              have qx2 : ∀ t : In (Below wr.heap.size wr), t.w.cell? ⟨b, o + j * 11 + 2, none⟩ = _ := fun t => (HXR.out _ t.h).2.2.1
              have qx3 : ∀ t : In (Below wr.heap.size wr), t.w.cell? ⟨b, o + j * 11 + 3, none⟩ = _ := fun t => (HXR.out _ t.h).2.2.2.1
              have qx4 : ∀ t : In (Below wr.heap.size wr), t.w.cell? ⟨b, o + j * 11 + 4, none⟩ = _ := fun t => (HXR.out _ t.h).2.2.2.2.1
              have qx5 : ∀ t : In (Below wr.heap.size wr), t.w.cell? ⟨b, o + j * 11 + 5, none⟩ = _ := fun t => (HXR.out _ t.h).2.2.2.2.2.1
              have qx6 : ∀ t : In (Below wr.heap.size wr), t.w.cell? ⟨b, o + j * 11 + 6, none⟩ = _ := fun t => (HXR.out _ t.h).2.2.2.2.2.2.1
              have qx7 : ∀ t : In (Below wr.heap.size wr), t.w.cell? ⟨b, o + j * 11 + 7, none⟩ = _ := fun t => (HXR.out _ t.h).2.2.2.2.2.2.2.1
              have qx8 : ∀ t : In (Below wr.heap.size wr), t.w.cell? ⟨b, o + j * 11 + 8, none⟩ = _ := fun t => (HXR.out _ t.h).2.2.2.2.2.2.2.2.1
              have qx9 : ∀ t : In (Below wr.heap.size wr), t.w.cell? ⟨b, o + j * 11 + 9, none⟩ = _ := fun t => (HXR.out _ t.h).2.2.2.2.2.2.2.2.2.1
              have qx10 : ∀ t : In (Below wr.heap.size wr), t.w.cell? ⟨b, o + j * 11 + 10, none⟩ = _ := fun t => (HXR.out _ t.h).2.2.2.2.2.2.2.2.2.2
              have HPlt := hide (fun t : In (Below wr.heap.size wr) => HPl.out t.w)
              have HSzt := hide (fun t : In (Below wr.heap.size wr) => HSz.out t.w t.h)
              have s0 : (0 : Int) ≤ j := by omega
              have s3 : (j : Int) < k := by omega
              have hb2z' : b2 < wr.heap.size := by omega
              have hbz' : b < wr.heap.size := by omega
              clear hD1 hD2 hzk hkx hzok hok hzx hxB hxp g1 g2 g3 g4 hpl
              dsimp only at qz0 qz1 qz2 qz3 qz4 qz5 qz6 qz7 qz8 qz9 qz10 qx0 qx1 qx2 qx3 qx4 qx5 qx6 qx7 qx8 qx9 qx10
              go_wp2
              refine wp_region_in (C := (Below wr.heap.size wr)) (by kernel_rfl) (by kernel_rfl) (Below.refl _ _).drew ?_
              repeat (first | go_big_quiet_step (first | (go_at_call 12; with_reducible exact calls_in (Nat.le_refl _) (HPlt.out _)) | (go_at_call 10; with_reducible exact calls_in (Nat.le_refl _) (HSzt.out _))) | quiet_step (first | (go_at_call 12; with_reducible exact calls_in (Nat.le_refl _) (HPlt.out _)) | (go_at_call 10; with_reducible exact calls_in (Nat.le_refl _) (HSzt.out _))))
              refine wpQuiet_nil ?_
              intro _ hw'
              obtain ⟨t, hw''⟩ := hw'
              subst hw''
              have hbt := t.h
              clear qz0 qz1 qz2 qz3 qz4 qz5 qz6 qz7 qz8 qz9 qz10 qx0 qx1 qx2 qx3 qx4 qx5 qx6 qx7 qx8 qx9 qx10 HPlt HSzt
              generalize t.w = wt at hbt ⊢
              clear t
              have hbr6 := below_via hbr5 hbt z5
              go_wp2
              go_roundw
              case rel => exact ⟨j + 1, by omega, by go_num, hbr6⟩
              case measure => simp [intOf]; omega
            · have hjk' : j = k := by omega
              subst hjk'
              have s3 : ¬ (j : Int) < j := by omega
              clear hjk hj
              go_wp2_with (go_at_call 19; refine (HRs.out _ hbw5).mono ?_)
              rintro e w6 ⟨hb6, ⟨r1, rfl⟩ | ⟨A3, c3, don3, r1, rfl, hrow3⟩⟩
              · have hbw6 := below_via hbw5 hb6 (hbw5).size
                clear r1
                go_wp2_with (go_at_call 18; refine (HP0.out _ hbw6).mono ?_)
                rintro e w7 ⟨rfl, hb7⟩
                have hbw7 := below_via hbw6 hb7 hbw6.size
                go_wp2_with (first | (go_at_call 9; refine (code_any _ _).mono ?_; rintro e w' ⟨rfl, hw'⟩; obtain rfl := hw'.symm) | (go_at_call 7; refine (HLV.out _ hbw7).mono ?_; rintro e w8 ⟨rfl, hb8⟩))
                go_ret
                exact ⟨rfl, below_via hbw7 hb8 hbw7.size⟩
              · have hbw6 := below_via hbw5 hb6 (hbw5).size
                have HP3 := hide (print_read hrow3 r1 hss (HEv.out.pt.below hbw6))
                generalize don3.length = n3 at HP3 ⊢
                clear r1 hrow3
                go_wp2_with (go_at_call 18; refine (HP3.out).mono ?_)
                rintro e w7 ⟨rfl, hb7⟩
                have hbw7 := below_via hbw6 hb7 hbw6.size
                go_wp2_with (first | (go_at_call 9; refine (code_any _ _).mono ?_; rintro e w' ⟨rfl, hw'⟩; obtain rfl := hw'.symm) | (go_at_call 7; refine (HLV.out _ hbw7).mono ?_; rintro e w8 ⟨rfl, hb8⟩))
                go_ret
                exact ⟨rfl, below_via hbw7 hb8 hbw7.size⟩
set_option maxHeartbeats 3200000 in
theorem ActLists_big (A : Option Addr) (n c : Nat) (xs : List ActV) (s : ByteArray) (w : World) (hE : Env w) (h : Acts w w.heap.size A n xs) (hn : n ≤ 9223372036854775807) (hp : ∀ x ∈ xs, x.d.pages.length ≤ 9223372036854775807) (hb : muchA xs = true ∨ 1500 < s.size) :
    Calls Tryd.prog 5 #[.slice A n c, .string s] w fun e w' => e = .returned (.bool true) ∧ Below w.heap.size w w' := by
  have HM := hide (fun (v : Bool) (hv : muchA xs = v) W (hW : Below w.heap.size w W) => hv ▸ muchA_any A n c xs w.heap.size W hW.size hn (h.below hW (Nat.le_refl _)) hp)
  have HLV := hide (fun W (hW : Below w.heap.size w W) => live_any W (hE.below hW))
  have hb00 := Below.refl w.heap.size w
  cases hv : muchA xs
  · have hs : 1500 < s.size := by rcases hb with h1 | h1; (rw [hv] at h1; cases h1); exact h1
    have s1 : (1500 : Int) < s.size := by omega
    have HM := hide (HM.out _ hv)
    clear hb hv hs h hE hn hp
    go_enter Tryd.func5, Tryd.ntmps5
    go_wp2_with fail
    refine (HM.out _ hb00).mono ?_
    rintro e w1 ⟨rfl, hb1⟩
    have hbw1 := below_via hb00 hb1 hb00.size
    go_wp2_with (go_at_call 7; refine (HLV.out _ hbw1).mono ?_; rintro e w3 ⟨rfl, hb3⟩)
    go_ret
    exact ⟨rfl, below_via hbw1 hb3 hbw1.size⟩
  · have HM := hide (HM.out _ hv)
    clear hb hv h hE hn hp
    go_enter Tryd.func5, Tryd.ntmps5
    go_wp2_with fail
    refine (HM.out _ hb00).mono ?_
    rintro e w1 ⟨rfl, hb1⟩
    have hbw1 := below_via hb00 hb1 hb00.size
    go_wp2_with (go_at_call 7; refine (HLV.out _ hbw1).mono ?_; rintro e w3 ⟨rfl, hb3⟩)
    go_ret
    exact ⟨rfl, below_via hbw1 hb3 hbw1.size⟩
theorem ActLists_true (A : Option Addr) (n c : Nat) (xs : List ActV) (s : ByteArray) (w : World) (hE : Env w) (hn : n ≤ 9223372036854775807) (h : Acts w w.heap.size A n xs) (hi : ∀ x ∈ xs, ActIn x.d) (hp : ∀ x ∈ xs, x.d.pages.length ≤ 9223372036854775807) (hs : s.size ≤ 9223372036854775807) :
    Calls Tryd.prog 5 #[.slice A n c, .string s] w fun e w' => e = .returned (.bool true) ∧ Below w.heap.size w w' := by
  cases hv : muchA xs
  · by_cases hs : 1500 < s.size
    · exact ActLists_big A n c xs s w hE h hn hp (.inr hs)
    · exact ActLists_main A n c xs s w hE h hv hi (by omega)
  · exact ActLists_big A n c xs s w hE h hn hp (.inl hv)
end Go.Proofs.YtgokkbocboonnaaDoor
