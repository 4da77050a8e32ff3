/-
  WALK: waits.Acyclic.
-/
import Derived.Test.YtkbcenddhcnkeaaGL
namespace Go.Proofs.Ytkbcenddhcnkeaa
open Go.RowKit Go.Maps Go.Deep

/-- A map of counts. -/
def CntM (w : World) (gm k : Nat) (inn : Int → Nat) : Prop := ∃ D : DataW Unit, w.ownsMap Try.prog 3 (plainElem Try.prog 3) gm k D ∧ ∀ v : Int, D.atKey (.int .i64 v) (.lit (.int .i64 0)) = .lit (.int .i64 (inn v : Nat))
theorem zeroI (w : World) : (zeroValue 3).run Try.prog w = .ok (.int .i64 0) w := by kernel_rfl
section
variable {w w' : World} {gm k : Nat} {inn : Int → Nat}
theorem CntM.start (w : World) : CntM (w.alloc (.map #[] 0)) w.heap.size 0 (fun _ => 0) := ⟨_, World.ownsMap_made _ _ _ _, fun _ => rfl⟩
theorem CntM.via (h : CntM w gm k inn) (hb : Below w.heap.size w w') : CntM w' gm k inn := by
  obtain ⟨D, h1, h2⟩ := h
  exact ⟨D, h1.kept (row := none) ⟨hb.os, hb.tape, hb.output, hb.size, fun q hq _ => hb.block q hq⟩ (by simp), h2⟩
theorem CntM.alloc (h : CntM w gm k inn) (o : Obj) : CntM (w.alloc o) gm k inn := h.via ((Below.refl _ _).alloc (Nat.le_refl _) _)
theorem CntM.drewN (h : CntM w gm k inn) (d : Nat) : CntM (w.drewN d) gm k inn := h.via (below_drewN (Below.refl _ _) d)
theorem CntM.keepRow {base n s : Nat} {e : TypeId} {v : Value} {xs : List Value} (h : CntM w gm k inn) (h2 : w.ownsRow base e s v n xs) (hg : w.grownBy w' v.ownBlock) : CntM w' gm k inn := by
  obtain ⟨D, h1, h3⟩ := h
  exact ⟨D, Map.keepRow h1 h2 hg, h3⟩
theorem CntM.look (h : CntM w gm k inn) {v : Int} (hv : (Lit.int .i64 v).wf = true) : (Instr.lookup 41 (.map (some gm)) (.int .i64 v) false).run Try.prog w = .ok (.int .i64 (inn v : Nat)) w := by
  obtain ⟨D, h1, h2⟩ := h
  obtain ⟨c, hrun, hat, _⟩ := h1.lookup_int keyI Try.underlying41 Try.underlying3 (zeroI w) (keyOf_int_mk Try.underlying3 hv)
  rw [h2] at hat
  injection hat with hat
  injection hat with _ hat
  rw [hrun, hat]
/-- One count is set. -/
theorem CntM.put (h : CntM w gm k inn) {v : Int} {x : Nat} (hv : (Lit.int .i64 v).wf = true) (hx : (Lit.int .i64 (x : Nat)).wf = true) (hk : k < maxLen) {inn' : Int → Nat} (hi : ∀ u, inn' u = if u = v then x else inn u) :
    ∃ w', (Instr.mapUpdate 41 (.map (some gm)) (.int .i64 v) (.int .i64 (x : Nat))).run Try.prog w = .ok () w' ∧ CntM w' gm (k + 1) inn' ∧ w.grownBy w' (some gm) ∧ (∀ {base n s : Nat} {e : TypeId} {u : Value} {xs : List Value}, w.ownsRow base e s u n xs → w'.ownsRow base e s u n xs) ∧ w'.heap.size = w.heap.size := by
  obtain ⟨D, h1, h2⟩ := h
  obtain ⟨w', hrun, hown, ht⟩ := h1.store keyI Try.underlying41 hk (keyOf_int_mk Try.underlying3 hv) (plainElem_int Try.underlying3 hx)
  refine ⟨w', hrun, ⟨_, hown, fun u => ?_⟩, ht.grown, fun hr => row_of_map h1 hr ht.grown, ?_⟩
  · rw [hi]
    by_cases hu : u = v
    · subst hu
      rw [if_pos rfl, atKey_put_same h1.isMap (show WideAt.IsKeyLit (Lit.int .i64 u) from trivial)]
    · rw [if_neg hu, atKey_put_other (fun e => hu (by injection e))]
      exact h2 u
  · obtain ⟨es, clock, es', clock', hb, rfl⟩ := ht
    simp [Go.ChangeMaps.setBlock]
end
theorem wf_small (x : Nat) (h : x ≤ 100000) : (Lit.int .i64 (x : Nat)).wf = true := by
  simp only [Lit.wf, Bool.and_eq_true, decide_eq_true_eq]
  constructor
  · show (-9223372036854775808 : Int) ≤ x
    omega
  · show (x : Int) ≤ 9223372036854775807
    omega
theorem cntE_take {s : List Ed} {k : Nat} {e : Ed} (h : s[k]? = some e) (v : Int) : cntE (s.take (k + 1)) v = if v = e.2 then cntE (s.take k) v + 1 else cntE (s.take k) v := by
  obtain ⟨hk, rfl⟩ := List.getElem?_eq_some_iff.1 h
  rw [List.take_succ_eq_append_getElem hk, cntE_append]
  simp only [cntE, Nat.add_zero]
  by_cases hv : v = s[k].2
  · rw [if_pos hv.symm, if_pos hv]
  · rw [if_neg (fun e => hv e.symm), if_neg hv, Nat.add_zero]
/-- What stays while Acyclic works: the sorted edges and the counts. -/
structure AcSt (w : World) (A : Option Addr) (n c : Nat) (s : List Ed) (gm k : Nat) (inn : Int → Nat) (wr : World) : Prop where
  row : wr.ownsRow w.heap.size 29 2 (.slice A n c) n (s.flatMap edC)
  cnt : CntM wr gm k inn
  b : Below w.heap.size w wr
section
variable {w wr w' : World} {A : Option Addr} {n c gm k : Nat} {s : List Ed} {inn : Int → Nat}
theorem AcSt.via (h : AcSt w A n c s gm k inn wr) (hb : Below wr.heap.size wr w') : AcSt w A n c s gm k inn w' := ⟨own_via h.row hb, h.cnt.via hb, h.b.trans (hb.mono h.b.size)⟩
theorem AcSt.alloc (h : AcSt w A n c s gm k inn wr) (o : Obj) : AcSt w A n c s gm k inn (wr.alloc o) := h.via ((Below.refl _ _).alloc (Nat.le_refl _) _)
theorem AcSt.drewN (h : AcSt w A n c s gm k inn wr) (d : Nat) : AcSt w A n c s gm k inn (wr.drewN d) := h.via (below_drewN (Below.refl _ _) d)
theorem AcSt.keepRow {m : Nat} {v : Value} {xs : List Value} (h : AcSt w A n c s gm k inn wr) (h2 : wr.ownsRow w.heap.size 3 1 v m xs) (o : Obj) (hg : (wr.alloc o).grownBy w' v.ownBlock) : AcSt w A n c s gm k inn w' :=
  ⟨own_keep (h.row.alloc o) (h2.alloc o) (by decide) hg, (h.cnt.alloc o).keepRow (h2.alloc o) hg, (h.b.alloc h.b.size _).grown hg (by have := h.b.size; simp; omega) (fun q hq => (World.ownsRow.lt h2 q hq).1)⟩
theorem AcSt.put (h : AcSt w A n c s gm k inn wr) {v : Int} {x : Nat} (hv : (Lit.int .i64 v).wf = true) (hx : x ≤ 100000) (hk : k ≤ 100000) (hgm : w.heap.size ≤ gm) {inn' : Int → Nat} (hi : ∀ u, inn' u = if u = v then x else inn u) :
    ∃ w', (Instr.mapUpdate 41 (.map (some gm)) (.int .i64 v) (.int .i64 (x : Nat))).run Try.prog wr = .ok () w' ∧ AcSt w A n c s gm (k + 1) inn' w' ∧ (∀ {base n s : Nat} {e : TypeId} {u : Value} {xs : List Value}, wr.ownsRow base e s u n xs → w'.ownsRow base e s u n xs) := by
  obtain ⟨w', h1, h2, h3, h4, _⟩ := h.cnt.put hv (wf_small x hx) (by unfold maxLen; omega) hi
  exact ⟨w', h1, ⟨h4 h.row, h2, h.b.grown h3 h.b.size (fun q hq => by cases hq; exact hgm)⟩, h4⟩
theorem AcSt.at_ (h : AcSt w A n c s gm k inn wr) (hn : n = s.length) {i : Nat} (hi : i < n) : ∃ b o e, A = some ⟨b, o, none⟩ ∧ b < wr.heap.size ∧ s[i]? = some e ∧ wr.cell? ⟨b, o + i * 2, none⟩ = some (.int .i64 e.1) ∧ wr.cell? ⟨b, o + i * 2 + 1, none⟩ = some (.int .i64 e.2) := (Eds.of_own h.row hn).at_ hi
end
theorem blk_drew (w : World) (o : Obj) (d : Nat) (t : TypeId) (cs : Array Value) : Blk (((w.alloc o).drewN d).alloc (.cells cs t)) (w.heap.size + 1) t cs := by
  simpa [World.drewN] using Blk.new ((w.alloc o).drewN d) t cs
/-- While the first places are looked for. -/
def AfRel (w : World) (A : Option Addr) (n c : Nat) (s : List Ed) (gm : Nat) (fv iv : Value) (wr : World) : Prop :=
  ∃ (k : Nat) (fr : List Int), k ≤ n ∧ iv = .int .i64 k ∧ AcSt w A n c s gm n (cntE s) wr ∧ Hid (Kf s k fr) ∧ fr.length ≤ k ∧ wr.ownsRow w.heap.size 3 1 fv fr.length (fr.map (Value.int .i64))
/-- Between two places that are taken out. -/
def AhRel (w : World) (A : Option Addr) (n c : Nat) (s : List Ed) (gm : Nat) (fv ov : Value) (wr : World) : Prop :=
  ∃ (P fr : List Int) (out kk : Nat) (inn : Int → Nat), ov = .int .i64 (out : Nat) ∧ Hid (Kh s P fr out inn) ∧ fr.length ≤ n + out ∧ kk ≤ n + out ∧ out ≤ n ∧ AcSt w A n c s gm kk inn wr ∧ wr.ownsRow w.heap.size 3 1 fv fr.length (fr.map (Value.int .i64))
/-- While the edges from p go. -/
def AiRel (w : World) (A : Option Addr) (n c : Nat) (s : List Ed) (gm : Nat) (P : List Int) (p : Int) (m0 out0 : Nat) (fv ov iv : Value) (wr : World) : Prop :=
  ∃ (fr : List Int) (out kk i : Nat) (inn : Int → Nat), ov = .int .i64 (out : Nat) ∧ iv = .int .i64 (i : Nat) ∧ i ≤ n ∧ Hid (Ki s P p (toAt s p i) fr out inn) ∧ fr.length ≤ n + out ∧ kk ≤ n + out ∧ out ≤ n ∧ fr.length + out0 ≤ m0 + out ∧ AcSt w A n c s gm kk inn wr ∧ wr.ownsRow w.heap.size 3 1 fv fr.length (fr.map (Value.int .i64))
theorem Ki.le {s : List Ed} {P : List Int} {p : Int} {ts fr : List Int} {out : Nat} {inn : Int → Nat} (h : Ki s P p ts fr out inn) : out + ts.length ≤ s.length := by have := h.hout; omega
/-- A row of one's own, cut. -/
theorem own_cut {w : World} {base : Nat} {e : TypeId} {A : Option Addr} {m c : Nat} {xs : List Int} {x : Int} (h : w.ownsRow base e 1 (.slice A (m + 1) c) (m + 1) ((xs ++ [x]).map (Value.int .i64))) (hm : xs.length = m) : w.ownsRow base e 1 (.slice A m c) m (xs.map (Value.int .i64)) := by
  refine ⟨by simp [hm], ?_⟩
  rcases h.2 with ⟨_, h0⟩ | ⟨g, cap, cur, h0, hb, hh, hnc, hcm, hs, ht⟩
  · omega
  · injection h0 with h1 _ h3
    subst h1 h3
    refine .inr ⟨g, c, cur, rfl, hb, hh, by omega, hcm, hs, ?_⟩
    have h5 := congrArg (List.take m) ht
    have e1 : List.take m (List.map (Value.int .i64) (xs ++ [x])) = List.map (Value.int .i64) xs := by
      rw [List.map_append, List.take_append_of_le_length (by rw [List.length_map, hm]; exact Nat.le_refl _), List.take_of_length_le (by rw [List.length_map, hm]; exact Nat.le_refl _)]
    rw [e1, List.take_take] at h5
    rw [← h5, Nat.mul_one]
    congr 1
    omega
set_option maxHeartbeats 6400000 in
set_option maxRecDepth 100000 in
theorem wAcyclic_any (A : Option Addr) (n c : Nat) (es : List Ed) (rb : Bool) (hrb : rb = true ↔ NoRing es) (B : Nat) (w : World) (hB : B ≤ w.heap.size) (hn : n ≤ 900) (hE : Eds w B A n es) (hc : A = none → c = 0) (hwe : ∀ e ∈ es, (Lit.int .i64 e.1).wf = true ∧ (Lit.int .i64 e.2).wf = true) :
    Calls Try.prog 15 #[.slice A n c] w fun e w' => e = .returned (.bool rb) ∧ Below w.heap.size w w' := by
  have HS := hide (sorted_any A n c es B w hB (by omega) hE hc)
  have HL := hide (show (srtE es).length = n by rw [srtE_len]; exact hE.1.symm)
  have HWE := hide (show ∀ e ∈ srtE es, (Lit.int .i64 e.1).wf = true ∧ (Lit.int .i64 e.2).wf = true from fun e he => hwe e (mem_srtE.1 he))
  have HRB := hide hrb
  have HSO := hide (srtE_sorted es)
  obtain ⟨i0, hi, hz0, hz1, hz2⟩ := info_parts info_ints
  have hmm := @run_makeMap Try.prog
  clear hE hc hwe hrb
  go_enter Try.func15, Try.ntmps15
  go_wp2_with fail
  refine HS.out.mono ?_
  rintro e w1 ⟨A1, c1, rfl, hown, hb1⟩
  rw [HL.out] at hown ⊢
  generalize hs : srtE es = s at *
  have HSE := hide hs
  have HO1 := hide hown
  have hzz1 := hb1.size
  clear hs hown
  go_wp2
  have hst : AcSt w A1 n c1 s w1.heap.size 0 (cntE (s.take 0)) (w1.alloc (.map #[] 0)) := ⟨HO1.out.alloc _, CntM.start _, hb1.alloc hzz1 _⟩
  generalize hgm : w1.heap.size = gm at *
  have hgm' : w.heap.size ≤ gm := by omega
  clear HO1 hb1 hgm
  go_loopw [18] (fun i wr => ∃ k : Nat, k ≤ n ∧ i = .int .i64 k ∧ AcSt w A1 n c1 s gm k (cntE (s.take k)) wr) (fun i _ => n - (intOf i).toNat)
  case atStart => exact ⟨0, Nat.zero_le _, rfl, hst⟩
  case round =>
    clear hst
    obtain ⟨k, hk, rfl, hst⟩ := hrel
    by_cases hlt : k < n
    · obtain ⟨b, o, ⟨p, t⟩, rfl, hb, hkx, d0, d1⟩ := hst.at_ HL.out.symm (i := k) hlt
      have hwt := (HWE.out _ (List.mem_of_getElem? hkx)).2
      have hxl := cntE_le (s.take k) t
      rw [List.length_take] at hxl
      have hst1 := hst.alloc (.cells #[.int .i64 p, .int .i64 t] 29)
      have hlk := hst1.cnt.look hwt
      generalize hx : cntE (s.take k) t = x at *
      obtain ⟨w2, hrun, hst2, _⟩ := hst1.put (x := x + 1) (inn' := cntE (s.take (k + 1))) hwt (by omega) (by omega) hgm' (fun u => by rw [cntE_take hkx]; by_cases hu : u = t; (subst hu; rw [if_pos rfl, if_pos rfl, hx]); (rw [if_neg hu, if_neg hu]))
      have hrun : (Instr.mapUpdate 41 (.map (some gm)) (.int .i64 t) (.int .i64 ((x : Int) + 1))).run Try.prog (wr.alloc (.cells #[.int .i64 p, .int .i64 t] 29)) = .ok () w2 := hrun
      have HS2 := hide hst2
      have s1 : (k : Int) < n := by omega
      have s0 : (0 : Int) ≤ k := by omega
      dsimp only at d0 d1
      have s3 : (x : Int) ≤ 900 := by omega
      clear hst hst1 hst2 hkx hx hwt
      go_wp2
      go_roundw
      case rel => exact ⟨k + 1, by omega, by go_num, HS2.out⟩
      case measure => simp [intOf]; omega
    · obtain rfl : n = k := by omega
      rw [List.take_of_length_le (by rw [HL.out]; exact Nat.le_refl _)] at hst
      have HST := hide hst
      clear hst
      go_wp2
      obtain ⟨wo, rfl⟩ : ∃ wo : World, wo = wr := ⟨_, rfl⟩
      go_loopw [7, 30] (AfRel w A1 n c1 s gm) (fun _ i _ => n - (intOf i).toNat)
      case atStart => exact ⟨0, [], Nat.zero_le _, rfl, HST.out, hide (Kf.start s), Nat.zero_le _, World.ownsRow_nil _ _ _ 1⟩
      case round =>
        clear HST
        obtain ⟨k, fr, hk2, rfl, hst, HF, hfl, hown⟩ := hrel
        obtain ⟨A5, c5, rfl, hnc5, _⟩ := own_slice hown
        have HST := hide hst
        have HO := hide hown
        by_cases hlt : k < n
        · obtain ⟨b, o, ⟨p, t⟩, rfl, hb, hkx, d0, d1⟩ := hst.at_ HL.out.symm (i := k) hlt
          have HKX := hide hkx
          have hwp := (HWE.out _ (List.mem_of_getElem? hkx)).1
          have hxl := cntE_le s p
          have hst1 := hst.alloc (.cells #[.int .i64 p, .int .i64 t] 29)
          have hlk := fun d => (hst1.drewN d).cnt.look hwp
          have hbz := hst.b.size
          obtain ⟨x, hx⟩ : ∃ x, cntE s p = x := ⟨_, rfl⟩
          rw [hx] at hlk hxl
          have HX := hide hx
          have s1 : (k : Int) < n := by omega
          have s0 : (0 : Int) ≤ k := by omega
          dsimp only at d0 d1
          clear hst hst1 hkx hx hwp hown
          generalize hm : fr.length = m at HO hfl hnc5 ⊢
          have HM := hide hm
          clear hm
          by_cases hx0 : x = 0
          · subst hx0
            rcases Nat.eq_zero_or_pos k with hk0 | hk0
            · have hb1 : ((k : Int) == 0) = true := by rw [beq_iff_eq]; omega
              have HF' := hide (HF.out.push HSO.out HKX.out HX.out (.inl hk0))
              clear hk0
              go_wp2
              go_quiet (fail)
              go_wp2_with (at_builtin; refine heldG ?_)
              refine unheldG ?_
              at_builtin
              refine wpList_append_any _ rfl _ _ _ rfl w.heap.size 3 i0 _ 1 8 Try.underlying24 hi hz0 hz1 hz2 rfl (by omega) (.slice A5 m c5) m _ rfl (((HO.out.alloc _).alloc _)) (wr.heap.size + 1 + 1) (some ⟨wr.heap.size + 1, 0, none⟩) 1 1 [.int .i64 p] rfl (Reads.of_blk (n := 1) (size := 1) (t := 3) (cs := #[.int .i64 p]) (blk_drew _ _ _ _ _) rfl) (ints_one [p]) (by unfold maxLen; omega) (by omega) (by simp; omega) ?_
              intro v4 w4 hown4 hg4 _
              have hst4 := ((HST.out.alloc _).drewN _).keepRow (HO.out.alloc _) _ hg4
              clear hg4
              have HST4 := hide hst4
              have HO4 := hide hown4
              clear hst4 hown4
              go_wp2
              go_roundw
              case rel => exact ⟨k + 1, fr ++ [p], by omega, by go_num, HST4.out, HF', by rw [List.length_append, HM.out]; simp; omega, by rw [List.length_append, HM.out, List.map_append]; exact HO4.out⟩
              case measure => simp [intOf]; omega
            · obtain ⟨j, rfl⟩ : ∃ j, k = j + 1 := ⟨k - 1, by omega⟩
              have hb1 : (((j : Int) + 1) == 0) = false := by rw [beq_eq_false_iff_ne]; omega
              obtain ⟨b', o', ⟨p', t'⟩, hA, hb', hkx', e0, e1⟩ := HST.out.at_ HL.out.symm (i := j) (by omega)
              injection hA with hA
              injection hA with h1 h2
              subst h1 h2
              have HKX' := hide hkx'
              have s4 : (j : Int) < n := by omega
              have s5 : (0 : Int) ≤ j := by omega
              dsimp only at e0 e1
              clear hkx'
              by_cases hpp : p' = p
              · have hb2 : (p' != p) = false := by simpa using hpp
                have HF' := hide (HF.out.keep HKX.out (.inr ⟨(p', t'), by
                  rw [List.take_succ_eq_append_getElem (List.getElem?_eq_some_iff.1 HKX'.out).1, (List.getElem?_eq_some_iff.1 HKX'.out).2]
                  simp, hpp⟩))
                clear hpp
                go_wp2
                go_quiet (fail)
                go_wp2
                go_roundw
                case rel => exact ⟨j + 1 + 1, fr, by omega, by go_num, (HST.out.alloc _).drewN _, HF', by rw [HM.out]; omega, by rw [HM.out]; exact HO.out.alloc _⟩
                case measure => simp [intOf]; omega
              · have hb2 : (p' != p) = true := by simpa using hpp
                have HF' := hide (HF.out.push HSO.out HKX.out HX.out (.inr ⟨(p', t'), HKX'.out, hpp⟩))
                clear hpp
                go_wp2
                go_quiet (fail)
                go_wp2_with (at_builtin; refine heldG ?_)
                refine unheldG ?_
                at_builtin
                refine wpList_append_any _ rfl _ _ _ rfl w.heap.size 3 i0 _ 1 8 Try.underlying24 hi hz0 hz1 hz2 rfl (by omega) (.slice A5 m c5) m _ rfl (((HO.out.alloc _).alloc _)) (wr.heap.size + 1 + 1) (some ⟨wr.heap.size + 1, 0, none⟩) 1 1 [.int .i64 p] rfl (Reads.of_blk (n := 1) (size := 1) (t := 3) (cs := #[.int .i64 p]) (blk_drew _ _ _ _ _) rfl) (ints_one [p]) (by unfold maxLen; omega) (by omega) (by simp; omega) ?_
                intro v4 w4 hown4 hg4 _
                have hst4 := ((HST.out.alloc _).drewN _).keepRow (HO.out.alloc _) _ hg4
                clear hg4
                have HST4 := hide hst4
                have HO4 := hide hown4
                clear hst4 hown4
                go_wp2
                go_roundw
                case rel => exact ⟨j + 1 + 1, fr ++ [p], by omega, by go_num, HST4.out, HF', by rw [List.length_append, HM.out]; simp; omega, by rw [List.length_append, HM.out, List.map_append]; exact HO4.out⟩
                case measure => simp [intOf]; omega
          · have hb0 : ((x : Int) == 0) = false := by rw [beq_eq_false_iff_ne]; omega
            have HF' := hide (HF.out.keep HKX.out (.inl (by rw [HX.out]; exact hx0)))
            go_wp2
            go_quiet (fail)
            go_wp2
            go_roundw
            case rel => exact ⟨k + 1, fr, by omega, by go_num, (HST.out.alloc _).drewN _, HF', by rw [HM.out]; omega, by rw [HM.out]; exact HO.out.alloc _⟩
            case measure => simp [intOf]; omega
        · obtain rfl : n = k := by omega
          have HKH := hide ((HL.out ▸ HF.out : Kf s s.length fr).done)
          clear hown hst
          generalize hm : fr.length = m at HO hfl hnc5 ⊢
          have HM := hide hm
          clear hm
          go_wp2
          obtain ⟨wp, rfl⟩ : ∃ wp : World, wp = wr := ⟨_, rfl⟩
          go_loopw [7, 10] (AhRel w A1 n c1 s gm) (fun f o _ => sliceLen f + (n - (intOf o).toNat))
          case atStart => exact ⟨[], fr, 0, n, cntE s, rfl, HKH, by rw [HM.out]; omega, by omega, by omega, HST.out, by rw [HM.out]; exact HO.out⟩
          case round =>
            clear HKH HM HO HST hfl hnc5
            obtain ⟨P, fr, out, kk, inn, rfl, HKH, hfl, hkk, hon, hst, hown⟩ := hrel
            obtain ⟨A5, c5, rfl, hnc5, _⟩ := own_slice hown
            have HST := hide hst
            have HO := hide hown
            clear hown
            rcases List.eq_nil_or_concat fr with rfl | ⟨fr0, p, rfl⟩
            · have HFI := hide (show ((out : Int) == n) = rb by
                have h1 := HKH.out.finish
                rw [HL.out] at h1
                have h2 : NoRing s ↔ NoRing es := by
                  have := HSE.out
                  constructor
                  · intro h e he hr
                    exact h e (by rw [← this]; exact mem_srtE.2 he) (hr.mono (fun x hx => by rw [← this]; exact mem_srtE.2 hx))
                  · intro h e he hr
                    exact h e (by rw [← this] at he; exact mem_srtE.1 he) (hr.mono (fun x hx => by rw [← this] at hx; exact mem_srtE.1 hx))
                rw [Bool.eq_iff_iff, HRB.out, ← h2, ← h1, beq_iff_eq]
                omega)
              clear hst
              go_wp2
              go_ret
              exact ⟨ret_bool HFI.out, HST.out.b⟩
            · rw [List.concat_eq_append] at *
              obtain ⟨b5, o5, p', hA5, hb5, hkp, e0⟩ := (Ints.of_own HO.out).at_ (k := fr0.length) (by simp)
              rw [List.getElem?_append_right (Nat.le_refl _), Nat.sub_self] at hkp
              injection hkp with hkp
              subst hkp hA5
              simp only [List.length_append, List.length_singleton] at HO hfl hnc5 hst
              have HF1 := hide (fun (W : World) (hW : Below wr.heap.size wr W) => first_any A1 n c1 p s W.heap.size W (Nat.le_refl _) (by omega) (Eds.of_own (own_via HST.out.row hW) HL.out.symm) HSO.out)
              have hfi : firstE s p ≤ n := by rw [← HL.out]; exact firstE_le _ _
              have HTF := hide (toAt_first HSO.out p)
              have HKI := hide HKH.out.pop
              generalize firstE s p = fi at HF1 hfi HTF
              have HOC := hide (own_cut (by simpa using HO.out) rfl)
              simp only [List.length_append, List.length_singleton] at *
              generalize hm : fr0.length = m at *
              have HM := hide hm
              have s0 : (0 : Int) ≤ m := by omega
              have s1 : (m : Int) < m + 1 := by omega
              clear hm hst
              go_wp2_with fail
              refine (HF1.out _ (Below.refl _ _)).mono ?_
              rintro e w3 ⟨rfl, hb3⟩
              have HST3 := hide (HST.out.via hb3)
              have HOC3 := hide (own_via HOC.out hb3)
              have HLN := hide HL.out
              clear HST HO HOC hb3 e0 HF1
              go_wp2
              go_loopw [7, 10, 12] (AiRel w A1 n c1 s gm P p m out) (fun _ _ i _ => n - (intOf i).toNat)
              case atStart => exact ⟨fr0, out, kk, fi, inn, rfl, rfl, hfi, hide (by rw [HTF.out]; exact HKI.out), by rw [HM.out]; omega, hkk, hon, by rw [HM.out]; omega, HST3.out, by rw [HM.out]; exact HOC3.out⟩
              case round =>
                clear HST3 HOC3 HKI hkk hon hfi HTF hfl
                obtain ⟨fr, out2, kk2, i, inn2, rfl, rfl, hin, HKI, hfl, hkk, hon, hmo, hst, hown⟩ := hrel
                obtain ⟨A5, c6, rfl, hnc6, _⟩ := own_slice hown
                have HST := hide hst
                have HO := hide hown
                clear hown
                by_cases hlt : i < n
                · obtain ⟨b, o, ⟨p', t⟩, rfl, hb, hkx, d0, d1⟩ := hst.at_ HL.out.symm (i := i) hlt
                  have HKX := hide hkx
                  have hwt := (HWE.out _ (List.mem_of_getElem? hkx)).2
                  have hbz := hst.b.size
                  have s2 : (i : Int) < n := by omega
                  have s3 : (0 : Int) ≤ i := by omega
                  dsimp only at d0 d1
                  clear hkx
                  by_cases hpp : p' = p
                  · have hne := toAt_next (p := p) HKX.out hpp
                    have HNE := hide hne
                    have HKI' : Hid (Ki s P p (t :: toAt s p (i + 1)) fr out2 inn2) := hide (by rw [← hne]; exact HKI.out)
                    have hpos := HKI'.out.pos
                    have hole := HKI'.out.le
                    rw [HL.out, List.length_cons] at hole
                    have hinb : inn2 t ≤ 1800 := by
                      have h1 := HKI'.out.hin t
                      have h2 := cntE_le (restE s (P ++ [p])) t
                      have h3 : (restE s (P ++ [p])).length ≤ s.length := List.length_filter_le _ _
                      have h4 := List.count_le_length (a := t) (l := t :: toAt s p (i + 1))
                      have h5 := HKI'.out.hout
                      rw [HL.out] at h3 h5
                      omega
                    have hlk := hst.cnt.look hwt
                    obtain ⟨x, hx⟩ : ∃ x, inn2 t = x + 1 := ⟨inn2 t - 1, by omega⟩
                    rw [hx] at hlk
                    obtain ⟨w4, hrun, hst4, hkeep⟩ := hst.put (v := t) (x := x) (inn' := less inn2 t) hwt (by omega) (by omega) hgm' (fun u => by
                      unfold less
                      by_cases hu : u = t
                      · rw [if_pos hu, if_pos hu, hx]
                        rfl
                      · rw [if_neg hu, if_neg hu])
                    have hlk4 := hst4.cnt.look hwt
                    have hlx : less inn2 t t = x := by unfold less; rw [if_pos rfl, hx]; rfl
                    rw [hlx] at hlk4
                    have hlk : (Instr.lookup 41 (.map (some gm)) (.int .i64 t) false).run Try.prog wr = .ok (.int .i64 ((x : Int) + 1)) wr := hlk
                    obtain ⟨b', o', e', hA, hb', hkx', e0, e1⟩ := hst4.at_ HL.out.symm (i := i) hlt
                    rw [HKX.out] at hkx'
                    injection hkx' with hkx'
                    subst hkx'
                    injection hA with hA
                    injection hA with h1 h2
                    subst h1 h2
                    dsimp only at e0 e1
                    have HST4 := hide hst4
                    have HO4 := hide (hkeep HO.out)
                    have s5 : (x : Int) ≤ 1800 := by omega
                    have HLX := hide hlx
                    subst hpp
                    clear hst hst4 hkeep hne hx hlx hwt
                    generalize hmf : fr.length = mf at HO HO4 hfl hnc6 hmo ⊢
                    have HMF := hide hmf
                    clear hmf
                    by_cases hx0 : x = 0
                    · have hbx : ((x : Int) == 0) = true := by rw [beq_iff_eq]; omega
                      have HP := hide (HKI'.out.push (by rw [HLX.out]; exact hx0))
                      clear hx0
                      go_wp2_with (at_builtin; refine heldG ?_)
                      refine unheldG ?_
                      at_builtin
                      refine wpList_append_any _ rfl _ _ _ rfl w.heap.size 3 i0 _ 1 8 Try.underlying24 hi hz0 hz1 hz2 rfl (by omega) (.slice A5 mf c6) mf _ rfl (HO4.out.alloc _) (w4.heap.size + 1) (some ⟨w4.heap.size, 0, none⟩) 1 1 [.int .i64 t] rfl (Reads.of_blk (n := 1) (size := 1) (Blk.new _ _ _) rfl) (ints_one [t]) (by unfold maxLen; omega) (by omega) (by have := HST4.out.b.size; simp; omega) ?_
                      intro v5 w5 hown5 hg5 _
                      have HST5 := hide (HST4.out.keepRow HO4.out _ hg5)
                      have HO5 := hide hown5
                      clear hown5 hg5
                      go_wp2
                      go_roundw
                      case rel => exact ⟨fr ++ [t], out2 + 1, kk2 + 1, i + 1, less inn2 t, by go_num, by go_num, by omega, HP, by rw [List.length_append, HMF.out]; simp; omega, by omega, by omega, by rw [List.length_append, HMF.out]; simp; omega, HST5.out, by rw [List.length_append, HMF.out, List.map_append]; exact HO5.out⟩
                      case measure => simp [intOf]; omega
                    · have hbx : ((x : Int) == 0) = false := by rw [beq_eq_false_iff_ne]; omega
                      have HP := hide (HKI'.out.pass (by rw [HLX.out]; exact hx0))
                      clear hx0
                      go_wp2
                      go_roundw
                      case rel => exact ⟨fr, out2 + 1, kk2 + 1, i + 1, less inn2 t, by go_num, by go_num, by omega, HP, by rw [HMF.out]; omega, by omega, by omega, by rw [HMF.out]; omega, HST4.out, by rw [HMF.out]; exact HO4.out⟩
                      case measure => simp [intOf]; omega
                  · have hpb : (p' == p) = false := beq_eq_false_iff_ne.2 hpp
                    have HKD := hide (show Ki s P p [] fr out2 inn2 by rw [← toAt_stop HKX.out hpp]; exact HKI.out).done
                    clear hst
                    generalize hmf : fr.length = mf at HO hfl hnc6 hmo ⊢
                    have HMF := hide hmf
                    clear hmf
                    go_wp2
                    go_roundw
                    case rel => exact ⟨P ++ [p], fr, out2, kk2, inn2, rfl, HKD, by rw [HMF.out]; exact hfl, hkk, hon, HST.out, by rw [HMF.out]; exact HO.out⟩
                    case measure => simp [sliceLen, intOf]; omega
                · have HKD := hide (show Ki s P p [] fr out2 inn2 by rw [← toAt_none (s := s) (p := p) (i := i) (by rw [HL.out]; omega)]; exact HKI.out).done
                  clear hst
                  generalize hmf : fr.length = mf at HO hfl hnc6 hmo ⊢
                  have HMF := hide hmf
                  clear hmf
                  go_wp2
                  go_roundw
                  case rel => exact ⟨P ++ [p], fr, out2, kk2, inn2, rfl, HKD, by rw [HMF.out]; exact hfl, hkk, hon, HST.out, by rw [HMF.out]; exact HO.out⟩
                  case measure => simp [sliceLen, intOf]; omega
end Go.Proofs.Ytkbcenddhcnkeaa
