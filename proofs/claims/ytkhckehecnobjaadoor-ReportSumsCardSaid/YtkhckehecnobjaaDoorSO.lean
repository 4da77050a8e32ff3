/-
  WALKS: report.text, report.Text, moneyerref40.Text.
-/
import Derived.Test.YtkhckehecnobjaaDoorSD
import Derived.Test.YtkhckehecnobjaaDoorSB
import Derived.Test.YtkhckehecnobjaaDoorSL
import Derived.Test.YtkhckehecnobjaaDoorApp
import Derived.Deep.RegionHeld3
namespace Go.Proofs.YtkhckehecnobjaaDoor
open Go.RowKit Go.Lib

/-- A number with its name. -/
structure FieldD where
  name : ByteArray
  n : Int
def FieldD.cells (f : FieldD) : List Value := [.string f.name, .int .i64 f.n]
theorem FieldD.cells_length (f : FieldD) : f.cells.length = 2 := rfl
def wordsOf (fs : List FieldD) : List ByteArray := fs.flatMap fun f => [f.name, tx (num f.n)]
theorem wordsOf_len (fs : List FieldD) : (wordsOf fs).length = fs.length * 2 := by
  induction fs with
  | nil => rfl
  | cons a t ih => simp only [wordsOf, List.flatMap_cons, List.length_append, List.length_cons, List.length_nil] at ih ⊢; omega
theorem wordsOf_snoc {fs : List FieldD} {k : Nat} {f : FieldD} (h : fs[k]? = some f) : wordsOf (fs.take (k + 1)) = wordsOf (fs.take k) ++ [f.name, tx (num f.n)] := by
  obtain ⟨hk, e⟩ := List.getElem?_eq_some_iff.1 h
  rw [List.take_succ_eq_append_getElem hk, e]
  simp [wordsOf]
theorem own_via {w w' : World} {base : Nat} {e : TypeId} {size : Nat} {v : Value} {n : Nat} {xs : List Value} (h : w.ownsRow base e size v n xs) (hb : Below w.heap.size w w') : w'.ownsRow base e size v n xs := by
  have hlt := World.ownsRow.lt h
  obtain ⟨h1, h2 | ⟨g, cap, cur, e, hg, hh, r⟩⟩ := h
  · exact ⟨h1, .inl h2⟩
  · exact ⟨h1, .inr ⟨g, cap, cur, e, hg, (hb.block g (hlt g (by rw [e]; rfl)).2).trans hh, r⟩⟩
theorem info_string : (Tryd.prog.info? 9).map (fun i => (i.zero, i.size, i.bytes)) = some (some (.string ⟨#[]⟩), 1, 16) := by kernel_rfl
/-- join over words of a row of the call's own. -/
theorem rjoin_row (g c : Nat) (xs : List ByteArray) (w : World) (hc : ∀ (j : Nat) x, xs[j]? = some x → w.cell? ⟨g, 0 + j, none⟩ = some (.string x)) (hg : g < w.heap.size) (hcap : xs.length ≤ c) (hN : xs.length ≤ 1000) (hlen : (Lib.join (xs.map (·.data.toList)) [32]).length ≤ 1000000) :
    Calls Tryd.prog 17 #[.slice (some ⟨g, 0, none⟩) xs.length c] w fun e w' => e = .returned (.string (tx (Lib.join (xs.map (·.data.toList)) [32]))) ∧ Below w.heap.size w w' := by
  have HJ := hide (Tryd.strings_Join g 0 c xs ⟨#[32]⟩ w hc hg (by omega) hcap (by show (Lib.join _ [32]).length ≤ _; omega))
  clear hlen hc
  go_enter Tryd.func17, Tryd.ntmps17
  go_wp2_with (go_at_call 32; refine HJ.out.mono ?_; rintro e w1 ⟨rfl, hb⟩)
  go_ret
  exact ⟨rfl, hb⟩
def textT (fs : List FieldD) : List UInt8 := Lib.join ((wordsOf fs).map (·.data.toList)) [32] ++ [10]
theorem cells2 {w : World} {b : Nat} {t : TypeId} {s : ByteArray} {n : Int} (h : Blk w b t #[.string s, .int .i64 n]) : w.cell? ⟨b, 0, none⟩ = some (.string s) ∧ w.cell? ⟨b, 1, none⟩ = some (.int .i64 n) := ⟨h.cell 0, h.cell 1⟩
def TxRel (w : World) (n : Nat) (fs : List FieldD) (v i : Value) (W : World) : Prop :=
  ∃ k : Nat, k ≤ n ∧ i = .int .i64 k ∧ W.ownsRow w.heap.size 9 1 v (k * 2) ((wordsOf (fs.take k)).map Value.string) ∧ Below w.heap.size w W
set_option maxHeartbeats 3200000 in
theorem rtext_any (g n : Nat) (t : TypeId) (fs : List FieldD) (w : World) (k : Blk w g t (fs.flatMap FieldD.cells).toArray) (hn : n = fs.length) (h1 : 1 ≤ n) (h2 : n ≤ 100) (hf : ∀ f ∈ fs, inI f.n) (hlen : (Lib.join ((wordsOf fs).map (·.data.toList)) [32]).length ≤ 100000) (ht : PTab w) :
    Calls Tryd.prog 30 #[.slice (some ⟨g, 0, none⟩) n n] w fun e w' => e = .returned (.string (tx (textT fs))) ∧ Below w.heap.size w w' := by
  obtain ⟨i0, hi, hz0, hz1, hz2⟩ := info_parts info_string
  have hg := k.lt
  have HC : Hid (∀ i f, fs[i]? = some f → w.cell? ⟨g, i * 2, none⟩ = some (.string f.name) ∧ w.cell? ⟨g, i * 2 + 1, none⟩ = some (.int .i64 f.n)) := fun i f hf => by
    rw [k.cell, k.cell]
    have a0 := flat_at FieldD.cells 2 FieldD.cells_length fs i 0 (by omega)
    have a1 := flat_at FieldD.cells 2 FieldD.cells_length fs i 1 (by omega)
    rw [hf] at a0 a1
    exact ⟨by rw [List.getElem?_toArray]; exact a0, by rw [List.getElem?_toArray]; exact a1⟩
  have HF := hide hf
  have HN := hide hn
  have HT := hide ht
  have HLN := hide hlen
  clear hn hlen ht hf k
  go_enter Tryd.func30, Tryd.ntmps30
  go_wp2
  go_loopw [3, 8] (TxRel w n fs) (fun _ i _ => n - (intOf i).toNat)
  case atStart => exact ⟨0, Nat.zero_le _, rfl, World.ownsRow_nil _ _ _ _, Below.refl _ _⟩
  case round =>
    obtain ⟨k, hk, rfl, hown, hbw⟩ := hrel
    have hwz := hbw.size
    have HO := hide hown
    obtain ⟨A, c, e, _⟩ := own_slice hown
    subst e
    clear hown
    by_cases hlt : k < n
    · obtain ⟨f, hfx⟩ : ∃ f, fs[k]? = some f := ⟨fs[k]'(by have := HN.out; omega), List.getElem?_eq_getElem _⟩
      have hin := HF.out f (List.mem_of_getElem? hfx)
      obtain ⟨c0, c1⟩ := HC.out k f hfx
      have d0 : wr.cell? ⟨g, k * 2, none⟩ = some (.string f.name) := (hbw.cell (p := ⟨g, k * 2, none⟩) hg).trans c0
      have d1 : wr.cell? ⟨g, k * 2 + 1, none⟩ = some (.int .i64 f.n) := (hbw.cell (p := ⟨g, k * 2 + 1, none⟩) hg).trans c1
      have HFX := hide hfx
      obtain ⟨fname, fn⟩ := f
      dsimp only at *
      obtain ⟨sn, HS1, HS2, hss⟩ := letter (num fn)
      clear c0 c1 hfx
      have s1 : (k : Int) < n := by omega
      have s2 : (0 : Int) ≤ k := by omega
      have hgz : g < wr.heap.size := by omega
      go_wp2
      refine gen1 (fun W k0 hbW hz => ?_)
      have hb1 : Below w.heap.size w W := below_via hbw hbW hwz
      have HX := hide (fun W' (hb' : Below w.heap.size w W') => HS1.out ▸ rnumber_any fn W' hin.1 hin.2 (HT.out.below hb'))
      have HFAR := hide (show some wr.heap.size ≠ (Value.slice A (k * 2) c).ownBlock from fun e => by have := (World.ownsRow.lt HO.out _ e.symm).2; omega)
      have hown := (own_via HO.out hbW).drew
      have jb := hb1.drew
      have k0 := k0.drew
      have HNW : Hid (∀ u ∈ [Value.string fname, Value.string sn], u.oneCell' = true) := fun u hu => by
        simp at hu
        rcases hu with rfl | rfl <;> rfl
      clear d0 d1 hb1
      go_region_held3 (fun w' => w'.cell? ⟨wr.heap.size, 0, none⟩ = some (.string fname) ∧ w'.cell? ⟨wr.heap.size, 1, none⟩ = some (.int .i64 fn))
        (first | (with_reducible exact cells2 k0) | (with_reducible exact cells2 (k0.alloc _)))
        (first
          | (go_at_call 18; (with_reducible refine (HX.out _ jb).mono ?_); rintro e w2 ⟨rfl, hb2⟩; have k0 := Blk.via hb2 k0; have jb := below_via jb hb2 jb.size; have hown := own_via hown hb2; have jz := jb.size)
          | ((refine step_append_any _ (by rfl) (.tmp 12) (.tmp 18) _ (by rfl) w.heap.size 9 i0 _ 1 16 Tryd.underlying79 hi hz0 hz1 hz2 rfl (by omega) (.slice A (k * 2) c) (k * 2) _ (by rfl) (hown.alloc _) (w2.heap.size + 1) (some ⟨w2.heap.size, 0, none⟩) 2 2 [.string fname, .string sn] (by rfl) (Reads.of_blk (n := 2) (size := 1) (Blk.new _ _ _) rfl) HNW.out (by unfold maxLen; omega) (by omega) (by simp; omega) ?_; intro v' w1 hown' hgr _; have k0 := (k0.alloc _).grown hgr HFAR.out; have hb3 : Below w.heap.size w w1 := (jb.alloc jz _).grown hgr (by simp; omega) (fun q hq => (World.ownsRow.lt hown q hq).1))))
      go_wp2
      go_roundw
      case rel =>
        refine ⟨k + 1, by omega, by go_num, ?_, hb3⟩
        rw [wordsOf_snoc HFX.out, List.map_append, HS1.out, Nat.succ_mul]
        exact hown'
      case measure => simp [intOf]; omega
    · obtain rfl : k = n := by omega
      have hfs : fs.take k = fs := List.take_of_length_le (by have := HN.out; omega)
      have hown := HO.out
      rw [hfs] at hown
      obtain ⟨q, cap, hv, _, hqlt⟩ := hown.form (by omega)
      injection hv with hv1 hv2 hv3
      subst hv1 hv3
      have hcells := hown.cells (g := q) rfl
      have hcap : k * 2 ≤ c := by
        obtain ⟨A', c', e', h', _⟩ := own_slice hown
        injection e' with _ _ e'
        omega
      have hwl : (wordsOf fs).length = k * 2 := by rw [wordsOf_len, HN.out]
      have HJ := hide (hwl ▸ rjoin_row q c (wordsOf fs) wr (fun j x hx => by rw [← add_plain]; exact hcells j _ (by rw [List.getElem?_map, hx]; rfl)) hqlt (by omega) (by omega) (by have := HLN.out; omega))
      obtain ⟨s, HS1, HS2, hss⟩ := letter (Lib.join ((wordsOf fs).map (·.data.toList)) [32])
      rw [HS1.out] at HJ
      have hsz : s.size ≤ 100000 := by rw [hss]; exact HLN.out
      clear hcells hown hfs hwl hss HS1
      go_wp2_with fail
      refine HJ.out.mono ?_
      rintro e w1 ⟨rfl, hb1⟩
      go_wp2
      go_ret
      refine ⟨ret_tx ?_, below_via hbw hb1 hwz⟩
      rw [ByteArray.data_append, Array.toList_append, HS2.out]
      rfl

def fieldsOf (r : RepD) : List FieldD := [⟨⟨#[101, 112, 111, 99, 104, 115]⟩, r.epochs⟩, ⟨⟨#[98, 101, 103, 117, 110]⟩, r.begun⟩, ⟨⟨#[99, 111, 109, 109, 105, 116, 116, 101, 100]⟩, r.committed⟩, ⟨⟨#[97, 98, 111, 114, 116, 101, 100]⟩, r.aborted⟩, ⟨⟨#[100, 101, 97, 100, 108, 111, 99, 107, 115]⟩, r.deadlocks⟩, ⟨⟨#[111, 112, 115]⟩, r.ops⟩, ⟨⟨#[114, 101, 102, 117, 115, 101, 100]⟩, r.refused⟩]
/-- P40.2: a report as text. -/
def reportT (r : RepD) : List UInt8 := [101, 112, 111, 99, 104, 115] ++ 32 :: (num r.epochs ++ 32 :: ([98, 101, 103, 117, 110] ++ 32 :: (num r.begun ++ 32 :: ([99, 111, 109, 109, 105, 116, 116, 101, 100] ++ 32 :: (num r.committed ++ 32 :: ([97, 98, 111, 114, 116, 101, 100] ++ 32 :: (num r.aborted ++ 32 :: ([100, 101, 97, 100, 108, 111, 99, 107, 115] ++ 32 :: (num r.deadlocks ++ 32 :: ([111, 112, 115] ++ 32 :: (num r.ops ++ 32 :: ([114, 101, 102, 117, 115, 101, 100] ++ 32 :: (num r.refused ++ [10])))))))))))))
def RepIn (r : RepD) : Prop := inI r.epochs ∧ inI r.begun ∧ inI r.committed ∧ inI r.aborted ∧ inI r.deadlocks ∧ inI r.ops ∧ inI r.refused
theorem textT_eq (r : RepD) : textT (fieldsOf r) = reportT r := by
  simp [textT, fieldsOf, wordsOf, Lib.join, List.intercalate, tx_data, reportT]
theorem reportT_len {r : RepD} (h : RepIn r) : (reportT r).length ≤ 1000 := by
  obtain ⟨h1, h2, h3, h4, h5, h6, h7⟩ := h
  have a1 := num_len h1
  have a2 := num_len h2
  have a3 := num_len h3
  have a4 := num_len h4
  have a5 := num_len h5
  have a6 := num_len h6
  have a7 := num_len h7
  unfold reportT
  simp only [List.length_append, List.length_cons, List.length_nil]
  omega
set_option maxHeartbeats 1600000 in
theorem rText_any (r : RepD) (w : World) (hr : RepIn r) (ht : PTab w) :
    Calls Tryd.prog 14 #[.agg #[.int .i64 r.epochs, .int .i64 r.begun, .int .i64 r.committed, .int .i64 r.aborted, .int .i64 r.deadlocks, .int .i64 r.ops, .int .i64 r.refused]] w fun e w' => e = .returned (.string (tx (reportT r))) ∧ Below w.heap.size w w' := by
  have hlen : (Lib.join ((wordsOf (fieldsOf r)).map (·.data.toList)) [32]).length ≤ 100000 := by
    have h1 := reportT_len hr
    rw [← textT_eq] at h1
    unfold textT at h1
    rw [List.length_append] at h1
    omega
  have HX := hide (fun g W (k : Blk W g 76 ((fieldsOf r).flatMap FieldD.cells).toArray) (hb : Below w.heap.size w W) => textT_eq r ▸ rtext_any g 7 76 (fieldsOf r) W k rfl (by omega) (by omega) (fun f hf => by
    obtain ⟨h1, h2, h3, h4, h5, h6, h7⟩ := hr
    simp only [fieldsOf, List.mem_cons, List.not_mem_nil, or_false] at hf
    rcases hf with rfl | rfl | rfl | rfl | rfl | rfl | rfl <;> assumption) hlen (ht.below hb))
  clear hlen hr ht
  go_enter Tryd.func14, Tryd.ntmps14
  go_wp2_with fail
  refine (HX.out _ _ (Blk.new2 _ _ _ _) (below2 _ _ _)).mono ?_
  rintro e w1 ⟨rfl, hb1⟩
  go_wp2
  go_ret
  exact ⟨rfl, below_via (below2 _ _ _) hb1 (by simp; omega)⟩
set_option maxHeartbeats 3200000 in
theorem fText_any (r : RepD) (w : World) (hr : RepIn r) :
    Calls Tryd.prog 15 #[.agg #[.int .i64 r.epochs, .int .i64 r.begun, .int .i64 r.committed, .int .i64 r.aborted, .int .i64 r.deadlocks, .int .i64 r.ops, .int .i64 r.refused]] w fun e w' => e = .returned (.string (tx (reportT r))) ∧ Below w.heap.size w w' := by
  obtain ⟨h1, h2, h3, h4, h5, h6, h7⟩ := hr
  obtain ⟨sa, HAa, HBa, hsa⟩ := letter (num r.epochs)
  have hla := num_len h1
  have HXa := hide (fun W : World => HAa.out ▸ Num_any r.epochs W h1.1 h1.2)
  obtain ⟨sb, HAb, HBb, hsb⟩ := letter (num r.begun)
  have hlb := num_len h2
  have HXb := hide (fun W : World => HAb.out ▸ Num_any r.begun W h2.1 h2.2)
  obtain ⟨sc, HAc, HBc, hsc⟩ := letter (num r.committed)
  have hlc := num_len h3
  have HXc := hide (fun W : World => HAc.out ▸ Num_any r.committed W h3.1 h3.2)
  obtain ⟨sd, HAd, HBd, hsd⟩ := letter (num r.aborted)
  have hld := num_len h4
  have HXd := hide (fun W : World => HAd.out ▸ Num_any r.aborted W h4.1 h4.2)
  obtain ⟨se, HAe, HBe, hse⟩ := letter (num r.deadlocks)
  have hle := num_len h5
  have HXe := hide (fun W : World => HAe.out ▸ Num_any r.deadlocks W h5.1 h5.2)
  obtain ⟨sf, HAf, HBf, hsf⟩ := letter (num r.ops)
  have hlf := num_len h6
  have HXf := hide (fun W : World => HAf.out ▸ Num_any r.ops W h6.1 h6.2)
  obtain ⟨sg, HAg, HBg, hsg⟩ := letter (num r.refused)
  have hlg := num_len h7
  have HXg := hide (fun W : World => HAg.out ▸ Num_any r.refused W h7.1 h7.2)
  go_enter Tryd.func15, Tryd.ntmps15
  go_wp2
  refine gen1 (fun W k0 hbW hz => ?_)
  have q0 : ∀ (t : In (Below W.heap.size W)) (i : Nat), t.w.cell? ⟨w.heap.size, i, none⟩ = _ := fun t => (Blk.via t.h k0).cell
  refine wp_region_in (C := (Below W.heap.size W)) (by kernel_rfl) (by kernel_rfl) (Below.refl _ _).drew ?_
  repeat (first | go_big_quiet_step (first | (go_at_call 20; with_reducible exact calls_in_same (HXa.out _)) | (go_at_call 20; with_reducible exact calls_in_same (HXb.out _)) | (go_at_call 20; with_reducible exact calls_in_same (HXc.out _)) | (go_at_call 20; with_reducible exact calls_in_same (HXd.out _))) | quiet_step (first | (go_at_call 20; with_reducible exact calls_in_same (HXa.out _)) | (go_at_call 20; with_reducible exact calls_in_same (HXb.out _)) | (go_at_call 20; with_reducible exact calls_in_same (HXc.out _)) | (go_at_call 20; with_reducible exact calls_in_same (HXd.out _))))
  refine wpQuiet_nil ?_
  intro _ hw'
  obtain ⟨t, hw''⟩ := hw'
  subst hw''
  have hbt := t.h
  have k1 := Blk.via hbt k0
  clear q0
  generalize t.w = wt at hbt k1 ⊢
  clear t
  go_wp2
  have q0 : ∀ (t : In (Below wt.heap.size wt)) (i : Nat), t.w.cell? ⟨w.heap.size, i, none⟩ = _ := fun t => (Blk.via t.h k1).cell
  refine wp_region_in (C := (Below wt.heap.size wt)) (by kernel_rfl) (by kernel_rfl) (Below.refl _ _).drew ?_
  repeat (first | go_big_quiet_step (first | (go_at_call 20; with_reducible exact calls_in_same (HXe.out _)) | (go_at_call 20; with_reducible exact calls_in_same (HXf.out _)) | (go_at_call 20; with_reducible exact calls_in_same (HXg.out _))) | quiet_step (first | (go_at_call 20; with_reducible exact calls_in_same (HXe.out _)) | (go_at_call 20; with_reducible exact calls_in_same (HXf.out _)) | (go_at_call 20; with_reducible exact calls_in_same (HXg.out _))))
  refine wpQuiet_nil ?_
  intro _ hw'
  obtain ⟨t, hw''⟩ := hw'
  subst hw''
  have hbt2 := t.h
  clear q0
  generalize t.w = wu at hbt2 ⊢
  clear t
  go_wp2
  go_ret
  refine ⟨ret_tx ?_, below_via (below_via hbW hbt hbW.size) hbt2 (below_via hbW hbt hbW.size).size⟩
  simp only [ByteArray.data_append, Array.toList_append, HBa.out, HBb.out, HBc.out, HBd.out, HBe.out, HBf.out, HBg.out]
  unfold reportT
  simp
end Go.Proofs.YtkhckehecnobjaaDoor
