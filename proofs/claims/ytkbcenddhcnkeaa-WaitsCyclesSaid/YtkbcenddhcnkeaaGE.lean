/-
  WALKS: moneyerref14.walk, Cycle, Reach, Acyclic, Victims.
-/
import Derived.Test.YtkbcenddhcnkeaaGD
namespace Go.Proofs.Ytkbcenddhcnkeaa
open Go.RowKit

theorem srch_ne {T : Int → List Int} {a : Int} (f : Nat) (todo path sn p q : List Int) (hp : path ≠ []) (h : srch T a f todo path sn = (some p, q)) : p ≠ [] := by
  induction f generalizing todo path sn q with
  | zero =>
    induction todo generalizing sn with
    | nil => rw [srch_nil] at h; cases h
    | cons m ms ih =>
      by_cases hm : m = a
      · subst hm
        rw [srch_hit] at h
        injection h with h1 h2
        injection h1 with h1
        subst h1
        exact hp
      · by_cases hs : m ∈ sn
        · rw [srch_skip hm hs] at h
          exact ih _ h
        · rw [srch, if_neg hm, if_neg hs] at h
          cases h
  | succ f ihf =>
    induction todo generalizing sn with
    | nil => rw [srch_nil] at h; cases h
    | cons m ms ih =>
      by_cases hm : m = a
      · subst hm
        rw [srch_hit] at h
        injection h with h1 h2
        injection h1 with h1
        subst h1
        exact hp
      · by_cases hs : m ∈ sn
        · rw [srch_skip hm hs] at h
          exact ih _ h
        · obtain ⟨r, q', hr⟩ : ∃ r q, srch T a f (T m) (path ++ [m]) (sn ++ [m]) = (r, q) := ⟨_, _, rfl⟩
          cases r with
          | none =>
            rw [srch_back hm hs hr] at h
            exact ih _ h
          | some p' =>
            rw [srch_found hm hs hr] at h
            injection h with h1 h2
            injection h1 with h1
            subst h1
            exact ihf _ _ _ _ (by simp) hr
def leastM (o : Option Int) : Int := o.getD 0
def leastB (o : Option Int) : Bool := o.isSome
theorem leastV_eq (o : Option Int) : leastV o = .tuple #[.int .i64 (leastM o), .bool (leastB o)] := by cases o <;> rfl
/-- What the search from a way's last place gives. -/
def srW (es : List Ed) (a : Int) (f : Nat) (z c : Int) (any : Bool) (path sn : List Int) : Option (List Int) × List Int := srch (tosOf (srtE es)) a f (restD es z c any) path sn
def WalkPost (R : Option (List Int) × List Int) (w : World) (e : Ending) (w' : World) : Prop :=
  ∃ A1 n1 c1 A2 n2 c2, e = .returned (.tuple #[.slice A1 n1 c1, .slice A2 n2 c2]) ∧ Ints w' w'.heap.size A1 n1 (R.1.getD []) ∧ Ints w' w'.heap.size A2 n2 R.2 ∧ Below w.heap.size w w'
/-- The contract of walk at one depth. -/
def WalkC (A : Option Addr) (n c : Nat) (es : List Ed) (a : Int) (f : Nat) : Prop :=
  ∀ (Ap : Option Addr) (np cp : Nat) (As : Option Addr) (ns cs : Nat) (path sn : List Int) (z : Int) (B : Nat) (w : World), B ≤ w.heap.size → n ≤ 1000 → Eds w B A n es → Ints w B Ap np path → Ints w B As ns sn → path.getLast? = some z →
    Gone es a sn → path.length ≤ sn.length → es.length + 1 ≤ f + sn.length →
    Calls Try.prog 20 #[.slice A n c, .int .i64 a, .slice Ap np cp, .slice As ns cs] w (WalkPost (srW es a f z 0 true path sn) w)
def WkRel (es : List Ed) (a : Int) (f : Nat) (z : Int) (path : List Int) (R : Option (List Int) × List Int) (w : World) (sv mv okv : Value) (wr : World) : Prop :=
  ∃ (A2 : Option Addr) (n2 c2 : Nat) (sn : List Int) (c : Int) (any : Bool), sv = .slice A2 n2 c2 ∧ Ints wr wr.heap.size A2 n2 sn ∧ mv = .int .i64 (leastM (leastD es z c any)) ∧ okv = .bool (leastB (leastD es z c any)) ∧ Hid (srW es a f z c any path sn = R) ∧
    Gone es a sn ∧ es.length + 1 ≤ f + sn.length ∧ path.length ≤ sn.length ∧ Below w.heap.size w wr
def wkMeas (es : List Ed) (z : Int) (m ok : Value) : Nat := match ok with | .bool true => (restD es z (intOf m) false).length + 1 | _ => 0
theorem info_ints : (Try.prog.info? 3).map (fun i => (i.zero, i.size, i.bytes)) = some (some (.int .i64 0), 1, 8) := by kernel_rfl
theorem ints_one (xs : List Int) : ∀ u ∈ xs.map (Value.int .i64), u.oneCell' = true := by
  intro u hu
  obtain ⟨x, _, rfl⟩ := List.mem_map.1 hu
  rfl
theorem Ints.of_own {w : World} {base : Nat} {e : TypeId} {A : Option Addr} {n c : Nat} {xs : List Int} (h : w.ownsRow base e 1 (.slice A n c) n (xs.map (Value.int .i64))) : Ints w w.heap.size A n xs := ⟨by have := h.1; simpa using this.symm, Reads.of_own h⟩
theorem getLast_at {p : List Int} {z : Int} {k : Nat} (h : p.getLast? = some z) (hk : p.length = k + 1) : p[k]? = some z := by
  rw [List.getLast?_eq_getElem?, hk] at h
  exact h
theorem wk_down {es : List Ed} {z cc m : Int} {any : Bool} {ms : List Int} (_ : restD es z cc any = m :: ms) : wkMeas es z (.int .i64 (leastM (leastD es z m false))) (.bool (leastB (leastD es z m false))) < wkMeas es z (.int .i64 m) (.bool true) := by
  cases ho : leastD es z m false with
  | none => exact Nat.succ_pos _
  | some x =>
    rw [leastD_eq] at ho
    cases hr : restD es z m false with
    | nil => rw [hr] at ho; cases ho
    | cons y xs =>
      rw [hr] at ho
      injection ho with ho
      subst ho
      show (restD es z y false).length + 1 < (restD es z m false).length + 1
      rw [restD_next hr, hr]
      have := List.length_filter_le (fun x => decide (y < x)) xs
      simp only [List.length_cons]
      omega
/-- One more number behind a row's copy. -/
theorem copy_more {w2 : World} {base : Nat} {v2 : Value} {n : Nat} {xs : List Int} {m : Int} (h : w2.ownsRow base 3 1 v2 (n + 1) (xs.map (Value.int .i64) ++ [.int .i64 m])) : ∃ A c, v2 = .slice A (n + 1) c ∧ Ints w2 w2.heap.size A (n + 1) (xs ++ [m]) := by
  obtain ⟨A, c, rfl, _⟩ := own_slice h
  refine ⟨A, c, rfl, Ints.of_own (base := base) (e := 3) (c := c) ?_⟩
  rw [List.map_append]
  exact h
set_option maxHeartbeats 6400000 in
theorem walk_step (A : Option Addr) (n c : Nat) (es : List Ed) (a : Int) (f : Nat) (IH : ∀ g, f = g + 1 → WalkC A n c es a g) : WalkC A n c es a f := by
  intro Ap np cp As ns cs path sn z B w hB hn hE hP hS hz hG hps hf
  have hnl := hE.1
  have hGl := hG.len
  obtain ⟨k, hk⟩ : ∃ k, path.length = k + 1 := ⟨path.length - 1, by cases path with | nil => cases hz | cons x r => simp⟩
  have hkz := getLast_at hz hk
  obtain rfl : np = k + 1 := hP.1.trans hk
  obtain ⟨bp, op, z', rfl, hbp, hkz', c0⟩ := hP.at_ (k := k) (by omega)
  obtain rfl : z = z' := by rw [hkz] at hkz'; injection hkz'
  have hkb : k ≤ 1000 := by omega
  have HPL := hide hk
  have HSL := hide hS.1
  have HEL := hide hnl
  obtain ⟨i0, hi, hz0, hz1, hz2⟩ := info_parts info_ints
  have s0 : (0 : Int) ≤ k := by omega
  have s1 : (k : Int) < k + 1 := by omega
  have HLe := hide (fun (W : World) (hW : Below w.heap.size w W) (nn ab : Int) (any : Bool) => (leastV_eq (leastD es nn ab any)) ▸ least_any A n c es nn ab any B W (by omega) (hE.below hW hB))
  have HIn := hide (fun (W : World) (A2 : Option Addr) (n2 c2 : Nat) (xs : List Int) (hx : Ints W W.heap.size A2 n2 xs) (hl : n2 ≤ 1000000) (v : Int) => in_any A2 n2 c2 xs v W.heap.size W hl hx)
  have HS := hide hS
  have HP := hide hP
  have HE := hide hE
  have HG := hide hG
  have HZ := hide hz
  clear hk hnl hkz hkz' hS hP hE hG hz
  go_enter Try.func20, Try.ntmps20
  go_wp2_with (go_at_call 32; refine (HLe.out _ (Below.refl _ _) _ _ _).mono ?_; rintro e w' ⟨rfl, hw'⟩; obtain rfl := hw'.symm)
  go_loopw [3, 11, 12] (WkRel es a f z path (srW es a f z 0 true path sn) w) (fun _ m ok _ => wkMeas es z m ok)
  case atStart => exact ⟨As, ns, cs, sn, 0, true, rfl, HS.out.more hB, rfl, rfl, hide rfl, HG.out, hf, hps, Below.refl _ _⟩
  case round =>
    obtain ⟨A2, n2, c2, sn2, cc, any, rfl, hs2, rfl, rfl, HR, hG2, hf2, hps2, hbw⟩ := hrel
    have hz2' := hG2.len
    have HN2 := hide hs2.1
    have hn2 : n2 ≤ 1001 := by have := hs2.1; have := HEL.out; omega
    cases ho : leastD es z cc any with
    | none =>
      have hR : (srW es a f z 0 true path sn) = (none, sn2) := by
        have h1 := HR.out
        unfold srW at h1 ⊢
        rw [leastD_eq] at ho
        rw [← h1, List.head?_eq_none_iff.1 ho, srch_nil]
      have HO := hide hR
      have HS2 := hide hs2
      have HMB := hide (show leastB none = false from rfl)
      clear hR ho hs2 hG2
      generalize leastB none = bb at HMB ⊢
      generalize leastM none = mm
      obtain rfl := HMB.out
      go_wp2
      go_ret2
      refine ⟨none, 0, 0, A2, n2, c2, rfl, ?_, ?_, hbw⟩
      · rw [HO.out]
        exact ⟨rfl, Reads.none_⟩
      · rw [HO.out]
        exact HS2.out
    | some m =>
      have hrest : ∃ ms, restD es z cc any = m :: ms := by
        rw [leastD_eq] at ho
        cases hr : restD es z cc any with
        | nil => rw [hr] at ho; cases ho
        | cons x ms => rw [hr] at ho; injection ho with ho; exact ⟨ms, by rw [ho]⟩
      obtain ⟨ms, hrest⟩ := hrest
      have HRE := hide hrest
      have hmem := restD_mem hrest
      have HS2 := hide hs2
      have HG2 := hide hG2
      have HME := hide hmem
      clear ho hs2 hG2 hrest hmem
      have HMM := hide (show leastM (some m) = m from rfl)
      have HMB := hide (show leastB (some m) = true from rfl)
      have HWM := hide (show ∀ o : Option Int, wkMeas es z (.int .i64 (leastM o)) (.bool (leastB o)) = match o with | none => 0 | some x => (restD es z x false).length + 1 from fun o => by cases o <;> rfl)
      generalize leastB (some m) = bb at HMB ⊢
      generalize leastM (some m) = mm at HMM ⊢
      obtain rfl := HMB.out
      obtain rfl := HMM.out.symm
      by_cases hma : a = m
      · subst hma
        have HR2 := hide (show srW es a f z 0 true path sn = (some path, sn2) by rw [← HR.out]; exact ref_hit HRE.out)
        go_wp2
        go_ret2
        refine ⟨_, _, _, A2, n2, c2, rfl, ?_, ?_, hbw⟩
        · rw [HR2.out]
          exact (HP.out.below hbw hB).more (Nat.le_trans hB hbw.size)
        · rw [HR2.out]
          exact HS2.out
      · have hma' : ¬ m = a := fun e => hma e.symm
        by_cases hms : m ∈ sn2
        · have HI := hide (show Calls Try.prog 21 #[.slice A2 n2 c2, .int .i64 m] wr fun e w' => e = .returned (.bool true) ∧ w' = wr by
            have h := HIn.out wr A2 n2 c2 sn2 HS2.out (by omega) m
            rwa [decide_eq_true hms] at h)
          have HR2 := hide (show srW es a f z m false path sn2 = srW es a f z 0 true path sn by rw [← HR.out]; exact (ref_skip HRE.out hma' hms).symm)
          clear hms
          go_wp2_with (first | (go_at_call 21; refine HI.out.mono ?_; rintro e w' ⟨rfl, hw'⟩; obtain rfl := hw'.symm) | (go_at_call 32; refine (HLe.out _ hbw _ _ _).mono ?_; rintro e w' ⟨rfl, hw'⟩; obtain rfl := hw'.symm))
          go_roundw
          case rel => exact ⟨A2, n2, c2, sn2, m, false, rfl, HS2.out, rfl, rfl, HR2, HG2.out, hf2, hps2, hbw⟩
          case measure => exact wk_down HRE.out
        · have HI := hide (show Calls Try.prog 21 #[.slice A2 n2 c2, .int .i64 m] wr fun e w' => e = .returned (.bool false) ∧ w' = wr by
            have h := HIn.out wr A2 n2 c2 sn2 HS2.out (by omega) m
            rwa [decide_eq_false hms] at h)
          have HMS := hide hms
          clear hms
          go_wp2_with (first | (go_at_call 21; refine HI.out.mono ?_; rintro e w' ⟨rfl, hw'⟩; obtain rfl := hw'.symm) | (at_builtin; refine heldG ?_))
          refine unheldG ?_
          at_builtin
          refine wpList_append_any _ rfl _ _ _ rfl (wr).heap.size 3 i0 _ 1 8 Try.underlying24 hi hz0 hz1 hz2 rfl (by omega) _ 0 [] rfl (World.ownsRow_made (wr) #[] 0 (Nat.le_refl _) (Nat.zero_le _) rfl) _ _ _ cp _ rfl ((HP.out.below hbw hB).2.alloc (Nat.le_trans hB hbw.size) _) (ints_one _) (by unfold maxLen; omega) (by omega) (by simp) ?_
          intro v1 w1 hown1 hg1 hat1
          simp only [Nat.zero_add, List.nil_append] at hown1
          have hb1 : Below (wr).heap.size (wr) w1 := ((Below.refl _ _).alloc (Nat.le_refl _) _).grown hg1 (by simp) (fun q hq => by cases hq; exact Nat.le_refl _)
          have hzz1 := hb1.size
          go_wp2_with (at_builtin; refine heldG ?_)
          refine unheldG ?_
          at_builtin
          refine wpList_append_any _ rfl _ _ _ rfl wr.heap.size 3 i0 _ 1 8 Try.underlying24 hi hz0 hz1 hz2 rfl (by omega) v1 _ _ rfl (hown1.alloc _) (w1.heap.size + 1) (some ⟨w1.heap.size, 0, none⟩) 1 1 [.int .i64 m] rfl (Reads.of_blk (n := 1) (size := 1) (Blk.new _ _ _) rfl) (ints_one [m]) (by unfold maxLen; omega) (by omega) (by simp; omega) ?_
          intro v2 w2 hown2 hg2 hat2
          have hb2 : Below wr.heap.size wr w2 := (hb1.alloc hzz1 _).grown hg2 (by simp; omega) (fun q hq => (World.ownsRow.lt hown1 q hq).1)
          have hzz2 := hb2.size
          obtain ⟨A5, c5, rfl, hpm⟩ := copy_more hown2
          go_wp2_with (at_builtin; refine heldG ?_)
          have hbwr2 := hb2
          refine unheldG ?_
          at_builtin
          refine wpList_append_any _ rfl _ _ _ rfl (w2).heap.size 3 i0 _ 1 8 Try.underlying24 hi hz0 hz1 hz2 rfl (by omega) _ 0 [] rfl (World.ownsRow_made (w2) #[] 0 (Nat.le_refl _) (Nat.zero_le _) rfl) _ _ _ c2 _ rfl ((HS2.out.below hbwr2 (Nat.le_refl _)).2.alloc hzz2 _) (ints_one _) (by unfold maxLen; omega) (by omega) (by simp) ?_
          intro v3 w3 hown3 hg3 hat3
          simp only [Nat.zero_add, List.nil_append] at hown3
          have hb3 : Below (w2).heap.size (w2) w3 := ((Below.refl _ _).alloc (Nat.le_refl _) _).grown hg3 (by simp) (fun q hq => by cases hq; exact Nat.le_refl _)
          have hzz3 := hb3.size
          go_wp2_with (at_builtin; refine heldG ?_)
          refine unheldG ?_
          at_builtin
          refine wpList_append_any _ rfl _ _ _ rfl w2.heap.size 3 i0 _ 1 8 Try.underlying24 hi hz0 hz1 hz2 rfl (by omega) v3 _ _ rfl (hown3.alloc _) (w3.heap.size + 1) (some ⟨w3.heap.size, 0, none⟩) 1 1 [.int .i64 m] rfl (Reads.of_blk (n := 1) (size := 1) (Blk.new _ _ _) rfl) (ints_one [m]) (by unfold maxLen; omega) (by omega) (by simp; omega) ?_
          intro v4 w4 hown4 hg4 hat4
          have hb4 : Below w2.heap.size w2 w4 := (hb3.alloc hzz3 _).grown hg4 (by simp; omega) (fun q hq => (World.ownsRow.lt hown3 q hq).1)
          have hzz4 := hb4.size
          obtain ⟨A6, c6, rfl, hsm⟩ := copy_more hown4
          have hbw2 := hbw.trans (hbwr2.mono hbw.size)
          have hbw4 := hbw2.trans (hb4.mono hbw2.size)
          have hw4z := hbw4.size
          obtain ⟨g, rfl⟩ := srch_room HG2.out HMS.out (List.mem_map.2 ⟨_, HME.out, rfl⟩) hf2
          have HW := hide (IH g rfl _ _ c5 _ _ c6 (path ++ [m]) (sn2 ++ [m]) m w4.heap.size w4 (Nat.le_refl _) hn ((HE.out.below hbw4 hB).more (Nat.le_trans hB hw4z)) ((hpm.below hb4 (Nat.le_refl _)).more hzz4) hsm (by simp) (HG2.out.snoc HMS.out (List.mem_map.2 ⟨_, HME.out, rfl⟩)) (by simp; omega) (by simp; omega))
          clear hown1 hg1 hat1 hown2 hg2 hat2 hown3 hg3 hat3 hown4 hg4 hat4 hb1 hb2 hb3 hpm hsm
          have hrr : ∃ r q, srW es a g m 0 true (path ++ [m]) (sn2 ++ [m]) = (r, q) := ⟨_, _, rfl⟩
          obtain ⟨r, q, hrr⟩ := hrr
          have hrs : srch (tosOf (srtE es)) a g (tosOf (srtE es) m) (path ++ [m]) (sn2 ++ [m]) = (r, q) := by rw [← hrr, srW, restD_all]
          have HRS := hide hrs
          have HRR := hide hrr
          clear hrr hrs
          go_wp2_with fail
          refine HW.out.mono ?_
          rintro e w5 ⟨A7, n7, c7, A8, n8, c8, rfl, hi7, hi8, hb5⟩
          have hbw5 := hbw4.trans (hb5.mono hbw4.size)
          have hi7 := HRR.out ▸ hi7
          have hi8 := HRR.out ▸ hi8
          cases r with
          | none =>
            obtain rfl : n7 = 0 := hi7.1
            have HI8 := hide hi8
            have HR2 := hide (show srW es a (g + 1) z m false path q = srW es a (g + 1) z 0 true path sn by rw [← HR.out]; exact (ref_back HRE.out hma' HMS.out HRS.out).symm)
            obtain ⟨hGq, _, hlq, _, _⟩ := srch_none tos_mem _ _ _ _ _ (HG2.out.snoc HMS.out (List.mem_map.2 ⟨_, HME.out, rfl⟩)) (fun t h => List.mem_map.2 ⟨_, tos_mem _ _ h, rfl⟩) (by simp; omega) HRS.out
            have HGQ := hide hGq
            rw [List.length_append, List.length_singleton] at hlq
            clear hi7 hi8 hGq
            go_wp2_with (go_at_call 32; refine (HLe.out _ hbw5 _ _ _).mono ?_; rintro e w' ⟨rfl, hw'⟩; obtain rfl := hw'.symm)
            go_roundw
            case rel => exact ⟨A8, n8, c8, q, m, false, rfl, HI8.out, rfl, rfl, HR2, HGQ.out, by omega, by omega, hbw5⟩
            case measure => exact wk_down HRE.out
          | some p =>
            have hp : p ≠ [] := srch_ne _ _ _ _ _ _ (by simp) HRS.out
            have hn7 : 0 < n7 := by
              have := hi7.1
              rw [this]
              exact List.length_pos_iff.2 hp
            have HI7 := hide hi7
            have HI8 := hide hi8
            have HR2 := hide (show srW es a (g + 1) z 0 true path sn = (some p, q) by rw [← HR.out]; exact ref_found HRE.out hma' HMS.out HRS.out)
            clear hi7 hi8 hp
            go_wp2
            go_ret2
            refine ⟨A7, n7, c7, A8, n8, c8, rfl, ?_, ?_, hbw5⟩
            · rw [HR2.out]
              exact HI7.out
            · rw [HR2.out]
              exact HI8.out
theorem walk_all (A : Option Addr) (n c : Nat) (es : List Ed) (a : Int) (f : Nat) : WalkC A n c es a f := by
  induction f with
  | zero => exact walk_step A n c es a 0 (fun g h => absurd h (by omega))
  | succ f ih => exact walk_step A n c es a (f + 1) (fun g h => by
      injection h with h
      exact h ▸ ih)
/-- A slice that reads as these numbers, behind what was there. -/
def IntsPost (xs : List Int) (w : World) (e : Ending) (w' : World) : Prop := ∃ A1 n1 c1, e = .returned (.slice A1 n1 c1) ∧ Ints w' w'.heap.size A1 n1 xs ∧ Below w.heap.size w w'
set_option maxHeartbeats 1600000 in
theorem rCycle_any (A : Option Addr) (n c : Nat) (es : List Ed) (a : Int) (B : Nat) (w : World) (hB : B ≤ w.heap.size) (hn : n ≤ 1000) (hE : Eds w B A n es) :
    Calls Try.prog 9 #[.slice A n c, .int .i64 a] w (IntsPost (cyc es a) w) := by
  have HE := hide hE
  have HW := hide (fun (W : World) (hW : Below w.heap.size w W) (k0 : Blk W w.heap.size 3 #[.int .i64 a]) (k1 : Blk W (w.heap.size + 1) 3 #[.int .i64 a]) =>
    walk_all A n c es a es.length (some ⟨w.heap.size, 0, none⟩) 1 1 (some ⟨w.heap.size + 1, 0, none⟩) 1 1 [a] [a] a W.heap.size W (Nat.le_refl _) hn ((HE.out.below hW hB).more (Nat.le_trans hB hW.size))
      (Ints.more ⟨rfl, Reads.of_blk (n := 1) (size := 1) k0 rfl⟩ k0.lt) (Ints.more ⟨rfl, Reads.of_blk (n := 1) (size := 1) k1 rfl⟩ k1.lt) rfl ⟨by simp, by simp⟩ (by simp) (by simp))
  have HC := hide (show (srW es a es.length a 0 true [a] [a]).1.getD [] = cyc es a by rw [srW, restD_all]; rfl)
  clear hE
  go_enter Try.func9, Try.ntmps9
  go_wp2_with fail
  refine gen2 (w := w) (R := fun W => Calls Try.prog 20 _ W _) (fun W k0 k1 hb hz => ?_)
  refine (HW.out W hb k0 k1).mono ?_
  rintro e w5 ⟨A7, n7, c7, A8, n8, c8, rfl, hi7, hi8, hb5⟩
  rw [HC.out] at hi7
  have HI7 := hide hi7
  clear hi7 hi8
  go_wp2
  go_ret
  exact ⟨A7, n7, c7, rfl, HI7.out, below_via hb hb5 hb.size⟩
/-- Between two rounds of Reach. -/
def ReRel (es : List Ed) (a b : Int) (w : World) (v i : Value) (wr : World) : Prop :=
  ∃ (all : List Int) (k : Nat), i = .int .i64 k ∧ k ≤ all.length ∧ Hid (Row es a all) ∧ Hid (Shut es b all k) ∧ wr.ownsRow w.heap.size 3 1 v all.length (all.map (Value.int .i64)) ∧ Below w.heap.size w wr
/-- Within a round of Reach: x's edges ahead of the j-th lead into the row, and not to b. -/
def ReIn (es : List Ed) (a b x : Int) (k : Nat) (w : World) (v j : Value) (wr : World) : Prop :=
  ∃ (all : List Int) (jj : Nat), j = .int .i64 jj ∧ jj ≤ es.length ∧ k < all.length ∧ Hid (all[k]? = some x) ∧ Hid (Row es a all) ∧ Hid (Shut es b all k) ∧ Hid (∀ (q : Nat) t, q < jj → es[q]? = some (x, t) → t ∈ all ∧ t ≠ b) ∧
    wr.ownsRow w.heap.size 3 1 v all.length (all.map (Value.int .i64)) ∧ Below w.heap.size w wr
theorem Shut.next {es : List Ed} {b x : Int} {all : List Int} {k : Nat} (h : Shut es b all k) (hx : all[k]? = some x) (hi : ∀ (q : Nat) t, q < es.length → es[q]? = some (x, t) → t ∈ all ∧ t ≠ b) : Shut es b all (k + 1) := by
  intro j y t hj hy ht
  rcases Nat.lt_or_ge j k with h1 | h1
  · exact h j y t h1 hy ht
  · obtain rfl : j = k := by omega
    rw [hx] at hy
    injection hy with hy
    subst hy
    obtain ⟨q, hq⟩ := List.mem_iff_getElem?.1 ht
    exact hi q t (List.getElem?_eq_some_iff.1 hq).1 hq
set_option maxHeartbeats 3200000 in
theorem reach_any (A : Option Addr) (n c : Nat) (es : List Ed) (a b : Int) (rb : Bool) (hrb : rb = true ↔ Rch es a b) (B : Nat) (w : World) (hB : B ≤ w.heap.size) (hn : n ≤ 1000) (hE : Eds w B A n es) :
    Calls Try.prog 10 #[.slice A n c, .int .i64 a, .int .i64 b] w fun e w' => e = .returned (.bool rb) ∧ Below w.heap.size w w' := by
  have HRB := hide hrb
  have HL := hide hE.1
  have HE := hide hE
  obtain ⟨i0, hi, hz0, hz1, hz2⟩ := info_parts info_ints
  clear hrb hE
  go_enter Try.func10, Try.ntmps10
  go_wp2
  go_loopw [7, 8] (ReRel es a b w) (fun v i _ => (n + 1) - (intOf i).toNat)
  case atStart => exact ⟨[a], 0, rfl, by simp, hide (Row.start es a), hide (fun j x t hj => absurd hj (by omega)), World.ownsRow_lit w #[.int .i64 a] 1 (Nat.le_refl _) (by unfold maxLen; omega) rfl, (Below.refl _ _).alloc (Nat.le_refl _) _⟩
  case round =>
    obtain ⟨all, k, rfl, hk, HRow, HSh, hown, hbw⟩ := hrel
    have hlen := HRow.out.2.2.len
    have hlen2 : all.length ≤ n + 1 := by have := HL.out; omega
    obtain ⟨A1, c1, rfl, hnc1, _, _, hrd, _⟩ := own_slice hown
    have HO := hide hown
    have hz := hbw.size
    clear hown
    by_cases hlt : k < all.length
    · obtain ⟨x, hx⟩ : ∃ x, all[k]? = some x := ⟨_, List.getElem?_eq_getElem hlt⟩
      have HX := hide hx
      have s1 : (k : Int) < all.length := by omega
      have HRd := hide hrd
      clear hx hrd hlen
      generalize hm : all.length = m at HO hnc1 hlt hk s1 hlen2 HRd ⊢
      have HM := hide hm
      clear hm
      go_wp2
      obtain ⟨wo, rfl⟩ : ∃ wo : World, wo = wr := ⟨_, rfl⟩
      go_loopw [7, 9] (ReIn es a b x k w) (fun _ j _ => n - (intOf j).toNat)
      case atStart => exact ⟨all, 0, rfl, Nat.zero_le _, by have := HM.out; omega, HX, HRow, HSh, hide (fun q t hq => absurd hq (by omega)), by rw [HM.out]; exact HO.out, hbw⟩
      case round =>
        clear HX HRow HSh HO HRd HM hlt hk s1 hlen2 hnc1 hbw hz
        obtain ⟨all, jj, rfl, hjj, hk, HX, HRow, HSh, HI, hown, hbw⟩ := hrel
        have hlen := HRow.out.2.2.len
        have hlen2 : all.length ≤ n + 1 := by have := HL.out; omega
        obtain ⟨A1, c1, rfl, hnc1, _, _, hrd, _⟩ := own_slice hown
        have HO := hide hown
        have hz := hbw.size
        have hj2 : jj ≤ n := by have := HL.out; omega
        have hin : Ints wr wr.heap.size A1 all.length all := ⟨rfl, hrd⟩
        have HIN := hide hin
        obtain ⟨b1, o1, x', rfl, hb1, hx', d0⟩ := hin.at_ (k := k) hk
        obtain rfl : x = x' := by rw [HX.out] at hx'; injection hx'
        have HIA := hide (fun (bb : Bool) (v : Int) (hb : decide (v ∈ all) = bb) (d : Nat) => hb ▸ in_any (some ⟨b1, o1, none⟩) all.length c1 all v wr.heap.size (wr.drewN d) (by omega) (HIN.out.drewN d))
        clear hown hlen hrd hin hx'
        generalize hm : all.length = m at HO hnc1 hk hlen2 HIN HIA ⊢
        have HM := hide hm
        clear hm
        have s0 : (0 : Int) ≤ k := by omega
        have s1 : (k : Int) < m := by omega
        by_cases hlt : jj < n
        · obtain ⟨b2, o2, ⟨p, t⟩, rfl, hb2, hkx, c0, c1'⟩ := (HE.out.below hbw hB).at_ (k := jj) hlt
          have HKX := hide hkx
          have s2 : (0 : Int) ≤ jj := by omega
          have s3 : (jj : Int) < n := by omega
          dsimp only at c0 c1'
          clear hkx
          cases hpx : (p != x)
          · obtain rfl : p = x := by simpa using hpx
            clear hpx
            cases htb : (t == b)
            · have htb' : ¬ t = b := by simpa using htb
              by_cases hta : t ∈ all
              · have HIT := hide (HIA.out true t (decide_eq_true hta))
                have HTA := hide hta
                have HI' : Hid (∀ (q : Nat) t, q < jj + 1 → es[q]? = some (p, t) → t ∈ all ∧ t ≠ b) := hide (fun q u hq hu => by
                  rcases Nat.lt_or_ge q jj with h | h
                  · exact HI.out q u h hu
                  · obtain rfl : q = jj := by omega
                    rw [HKX.out] at hu
                    injection hu with hu
                    injection hu with _ hu
                    exact hu ▸ ⟨HTA.out, htb'⟩)
                clear hta
                go_wp2
                go_quiet (fail)
                go_wp2_with (go_at_call 21; refine (HIT.out _).mono ?_; rintro e w' ⟨rfl, hw'⟩; obtain rfl := hw'.symm)
                go_roundw
                case rel => exact ⟨all, jj + 1, by go_num, by have := HL.out; omega, by have := HM.out; omega, HX, HRow, HSh, HI', by rw [HM.out]; exact HO.out, below_drewN hbw _⟩
                case measure => simp [intOf]; omega
              · have HIT := hide (HIA.out false t (decide_eq_false hta))
                have HTA := hide hta
                have HI' : Hid (∀ (q : Nat) u, q < jj + 1 → es[q]? = some (p, u) → u ∈ all ++ [t] ∧ u ≠ b) := hide (fun q u hq hu => by
                  rcases Nat.lt_or_ge q jj with h | h
                  · exact ⟨List.mem_append_left _ (HI.out q u h hu).1, (HI.out q u h hu).2⟩
                  · obtain rfl : q = jj := by omega
                    rw [HKX.out] at hu
                    injection hu with hu
                    injection hu with _ hu
                    exact hu ▸ ⟨List.mem_append_right _ (List.mem_singleton.2 rfl), htb'⟩)
                have HRow' := hide (HRow.out.snoc (List.mem_of_getElem? HX.out) (List.mem_of_getElem? HKX.out) hta)
                have HSh' := hide (HSh.out.more (t := t) (by have := HM.out; omega))
                have HX' : Hid ((all ++ [t])[k]? = some p) := hide (by rw [List.getElem?_append_left (by have := HM.out; omega)]; exact HX.out)
                clear hta
                go_wp2
                go_quiet (fail)
                go_wp2_with (first | (go_at_call 21; refine (HIT.out _).mono ?_; rintro e w' ⟨rfl, hw'⟩; obtain rfl := hw'.symm) | (at_builtin; refine heldG ?_))
                refine unheldG ?_
                at_builtin
                refine wpList_append_any _ rfl _ _ _ rfl w.heap.size 3 i0 _ 1 8 Try.underlying24 hi hz0 hz1 hz2 rfl (by omega) (.slice (some ⟨b1, o1, none⟩) m c1) m _ rfl (HO.out.alloc _) (wr.heap.size + 1) (some ⟨wr.heap.size, 0, none⟩) 1 1 [.int .i64 t] rfl (Reads.of_blk (n := 1) (size := 1) (Blk.new _ _ _) rfl) (ints_one [t]) (by unfold maxLen; omega) (by omega) (by simp; omega) ?_
                intro v4 w4 hown4 hg4 _
                have hbw4 : Below w.heap.size w w4 := ((below_drewN hbw _).alloc (by simpa using hz) _).grown hg4 (by simp; omega) (fun q hq => (HO.out.lt q hq).1)
                go_wp2
                go_roundw
                case rel => exact ⟨all ++ [t], jj + 1, by go_num, by have := HL.out; omega, by have := HM.out; simp; omega, HX', HRow', HSh', HI', by rw [List.length_append, HM.out, List.map_append]; exact hown4, hbw4⟩
                case measure => simp [intOf]; omega
            · obtain rfl : t = b := by simpa using htb
              have HB := hide (show rb = true from HRB.out.2 (HRow.out.hit (List.mem_of_getElem? HX.out) (List.mem_of_getElem? HKX.out)))
              clear htb
              go_wp2
              go_quiet (fail)
              go_wp2
              go_ret
              exact ⟨ret_bool HB.out.symm, below_drewN hbw _⟩
          · have HI' : Hid (∀ (q : Nat) t, q < jj + 1 → es[q]? = some (x, t) → t ∈ all ∧ t ≠ b) := hide (fun q u hq hu => by
              rcases Nat.lt_or_ge q jj with h | h
              · exact HI.out q u h hu
              · obtain rfl : q = jj := by omega
                rw [HKX.out] at hu
                injection hu with hu
                injection hu with hu _
                rw [hu] at hpx
                simp at hpx)
            go_wp2
            go_quiet (fail)
            go_wp2
            go_roundw
            case rel => exact ⟨all, jj + 1, by go_num, by have := HL.out; omega, by have := HM.out; omega, HX, HRow, HSh, HI', by rw [HM.out]; exact HO.out, below_drewN hbw _⟩
            case measure => simp [intOf]; omega
        · have HSh' : Hid (Shut es b all (k + 1)) := hide (HSh.out.next HX.out (fun q t hq => HI.out q t (by have := HL.out; omega)))
          go_wp2
          go_roundw
          case rel => exact ⟨all, k + 1, by go_num, by have := HM.out; omega, HRow, HSh', by rw [HM.out]; exact HO.out, hbw⟩
          case measure => simp [intOf]; omega
    · have HF := hide (show rb = false by
        cases rb with
        | false => rfl
        | true =>
          obtain rfl : k = all.length := by omega
          exact absurd (HRB.out.1 rfl) (HRow.out.none HSh.out))
      clear hlen
      generalize hm : all.length = m at HO hnc1 hlt hk hlen2 hrd ⊢
      have HM := hide hm
      clear hm hrd
      go_wp2
      go_ret
      exact ⟨ret_bool HF.out.symm, hbw⟩
end Go.Proofs.Ytkbcenddhcnkeaa
