/-
  WALKS: console.fault, Cell, Answer; moneyerref39.Cell, Answer.
-/
import Derived.Test.YtkhckehecnobjaaDoorSD
import Derived.Test.YtkhckehecnobjaaDoorSB
import Derived.Test.YtkhckehecnobjaaDoorWC
namespace Go.Proofs.YtkhckehecnobjaaDoor
open Go.RowKit Go.Lib

theorem lit_ret {l : List UInt8} {t : List UInt8} (h : t = l) : Ending.returned (.string ⟨l.toArray⟩) = .returned (.string (tx t)) := by rw [h]; rfl
theorem fault_any (er : Int) (w : World) (he : inI er) (ht : PTab w) :
    Calls Tryd.prog 45 #[.int .i64 er] w fun e w' => e = .returned (.string (tx ([101, 114, 114, 111, 114, 32] ++ num er))) ∧ Below w.heap.size w w' := by
  obtain ⟨s, HS1, HS2, hss⟩ := letter (num er)
  have hl := num_len he
  have HN := hide (HS1.out ▸ cnumber_any er w he.1 he.2 ht)
  clear ht HS1
  go_enter Tryd.func45, Tryd.ntmps45
  go_wp2_with (go_at_call 57; refine HN.out.mono ?_; rintro e w1 ⟨rfl, hb1⟩)
  go_ret
  exact ⟨ret_tx (by rw [ByteArray.data_append, Array.toList_append, HS2.out]; rfl), hb1⟩

set_option maxHeartbeats 1600000 in
theorem cCell_any (d : CellD) (A : Option Addr) (n c : Nat) (B : Nat) (w : World) (hB : B ≤ w.heap.size) (hs : CellSm d) (h : BytesAt w B (.slice A n c) d.data) (ht : PTab w) :
    Calls Tryd.prog 46 #[.agg #[.int .i64 d.kind, .slice A n c, .int .i64 d.lo, .int .i64 d.hi, .int .i64 d.val]] w fun e w' => e = .returned (.string (tx (cellT d))) ∧ Below w.heap.size w w' := by
  obtain ⟨kind, data, lo, hi, va⟩ := d
  obtain ⟨hd, hki, h4, h5, h6⟩ := hs
  dsimp only at *
  by_cases a1 : kind = 1
  · subst a1
    obtain ⟨s, HS1, HS2, hss⟩ := letter (hexT data)
    have hds := hexT_len data
    have HC := hide (fun W (hb' : Below w.heap.size w W) => HS1.out ▸ cdata_any (.slice A n c) data B W (Nat.le_trans hB hb'.size) (by omega) (h.below hb' hB))
    clear h ht HS1
    go_enter Tryd.func46, Tryd.ntmps46
    go_wp2_with (go_at_call 58; refine (HC.out _ ((Below.refl _ _).alloc (Nat.le_refl _) _)).mono ?_; rintro e w1 ⟨rfl, hb1⟩)
    go_ret
    exact ⟨ret_tx (by rw [ByteArray.data_append, Array.toList_append, HS2.out]; rfl), below_via ((Below.refl _ _).alloc (Nat.le_refl _) _) hb1 (by simp)⟩
  by_cases a2 : kind = 2
  · subst a2
    obtain ⟨sa, HAa, HBa, hsa⟩ := letter (num lo)
    obtain ⟨sb, HAb, HBb, hsb⟩ := letter (num hi)
    obtain ⟨sc, HAc, HBc, hsc⟩ := letter (num va)
    have hla := num_len h4
    have hlb := num_len h5
    have hlc := num_len h6
    go_enter Tryd.func46, Tryd.ntmps46
    go_wp2
    refine gen1 (fun W k0 hbW hz => ?_)
    have q0 : ∀ (t : In (Below W.heap.size W)) (i : Nat), t.w.cell? ⟨w.heap.size, i, none⟩ = _ := fun t => (Blk.via t.h k0).cell
    have HCa := hide (fun t : In (Below W.heap.size W) => HAa.out ▸ cnumber_any lo t.w h4.1 h4.2 ((ht.below hbW).below t.h))
    have HCb := hide (fun t : In (Below W.heap.size W) => HAb.out ▸ cnumber_any hi t.w h5.1 h5.2 ((ht.below hbW).below t.h))
    have HCc := hide (fun t : In (Below W.heap.size W) => HAc.out ▸ cnumber_any va t.w h6.1 h6.2 ((ht.below hbW).below t.h))
    clear h
    refine wp_region_in (C := (Below W.heap.size W)) (by kernel_rfl) (by kernel_rfl) (Below.refl _ _).drew ?_
    repeat (first | go_big_quiet_step (first | (go_at_call 57; with_reducible exact calls_in (Nat.le_refl _) (HCa.out _)) | (go_at_call 57; with_reducible exact calls_in (Nat.le_refl _) (HCb.out _)) | (go_at_call 57; with_reducible exact calls_in (Nat.le_refl _) (HCc.out _))) | quiet_step (first | (go_at_call 57; with_reducible exact calls_in (Nat.le_refl _) (HCa.out _)) | (go_at_call 57; with_reducible exact calls_in (Nat.le_refl _) (HCb.out _)) | (go_at_call 57; with_reducible exact calls_in (Nat.le_refl _) (HCc.out _))))
    refine wpQuiet_nil ?_
    intro _ hw'
    obtain ⟨t, hw''⟩ := hw'
    subst hw''
    have hbt := t.h
    generalize t.w = wt at hbt ⊢
    clear t q0
    go_wp2
    go_ret
    refine ⟨ret_tx ?_, below_via hbW hbt hbW.size⟩
    simp only [ByteArray.data_append, Array.toList_append, HBa.out, HBb.out, HBc.out]
    unfold cellT
    simp
  · have b1 : ((kind : Int) == 1) = false := by simpa using a1
    have b2 : ((kind : Int) == 2) = false := by simpa using a2
    have HE := hide (And.intro a1 a2)
    clear a1 a2 h ht
    go_enter Tryd.func46, Tryd.ntmps46
    go_wp2
    go_ret
    refine ⟨lit_ret ?_, (Below.refl _ _).alloc (Nat.le_refl _) _⟩
    unfold cellT
    simp only []
    rw [if_neg HE.out.1, if_neg HE.out.2]
set_option maxHeartbeats 1600000 in
theorem rCell_any (d : CellD) (A : Option Addr) (n c : Nat) (B : Nat) (w : World) (hB : B ≤ w.heap.size) (hs : CellSm d) (h : BytesAt w B (.slice A n c) d.data) :
    Calls Tryd.prog 39 #[.agg #[.int .i64 d.kind, .slice A n c, .int .i64 d.lo, .int .i64 d.hi, .int .i64 d.val]] w fun e w' => e = .returned (.string (tx (cellT d))) ∧ Below w.heap.size w w' := by
  obtain ⟨kind, data, lo, hi, va⟩ := d
  obtain ⟨hd, hki, h4, h5, h6⟩ := hs
  dsimp only at *
  by_cases a1 : kind = 1
  · subst a1
    obtain ⟨s, HS1, HS2, hss⟩ := letter (hexT data)
    have hds := hexT_len data
    have HC := hide (fun W (hb' : Below w.heap.size w W) => HS1.out ▸ Hex_any (.slice A n c) data B W (by omega) (h.below hb' hB))
    clear h  HS1
    go_enter Tryd.func39, Tryd.ntmps39
    go_wp2_with (go_at_call 37; refine (HC.out _ ((Below.refl _ _).alloc (Nat.le_refl _) _)).mono ?_; rintro e w1 ⟨rfl, hb1⟩)
    go_ret
    exact ⟨ret_tx (by rw [ByteArray.data_append, Array.toList_append, HS2.out]; rfl), below_via ((Below.refl _ _).alloc (Nat.le_refl _) _) hb1 (by simp)⟩
  by_cases a2 : kind = 2
  · subst a2
    obtain ⟨sa, HAa, HBa, hsa⟩ := letter (num lo)
    obtain ⟨sb, HAb, HBb, hsb⟩ := letter (num hi)
    obtain ⟨sc, HAc, HBc, hsc⟩ := letter (num va)
    have hla := num_len h4
    have hlb := num_len h5
    have hlc := num_len h6
    go_enter Tryd.func39, Tryd.ntmps39
    go_wp2
    refine gen1 (fun W k0 hbW hz => ?_)
    have q0 : ∀ (t : In (Below W.heap.size W)) (i : Nat), t.w.cell? ⟨w.heap.size, i, none⟩ = _ := fun t => (Blk.via t.h k0).cell
    have HCa := hide (fun t : In (Below W.heap.size W) => HAa.out ▸ Num_any lo t.w h4.1 h4.2  )
    have HCb := hide (fun t : In (Below W.heap.size W) => HAb.out ▸ Num_any hi t.w h5.1 h5.2  )
    have HCc := hide (fun t : In (Below W.heap.size W) => HAc.out ▸ Num_any va t.w h6.1 h6.2  )
    clear h
    refine wp_region_in (C := (Below W.heap.size W)) (by kernel_rfl) (by kernel_rfl) (Below.refl _ _).drew ?_
    repeat (first | go_big_quiet_step (first | (go_at_call 20; with_reducible exact calls_in_same (HCa.out _)) | (go_at_call 20; with_reducible exact calls_in_same (HCb.out _)) | (go_at_call 20; with_reducible exact calls_in_same (HCc.out _))) | quiet_step (first | (go_at_call 20; with_reducible exact calls_in_same (HCa.out _)) | (go_at_call 20; with_reducible exact calls_in_same (HCb.out _)) | (go_at_call 20; with_reducible exact calls_in_same (HCc.out _))))
    refine wpQuiet_nil ?_
    intro _ hw'
    obtain ⟨t, hw''⟩ := hw'
    subst hw''
    have hbt := t.h
    generalize t.w = wt at hbt ⊢
    clear t q0
    go_wp2
    go_ret
    refine ⟨ret_tx ?_, below_via hbW hbt hbW.size⟩
    simp only [ByteArray.data_append, Array.toList_append, HBa.out, HBb.out, HBc.out]
    unfold cellT
    simp
  · have b1 : ((kind : Int) == 1) = false := by simpa using a1
    have b2 : ((kind : Int) == 2) = false := by simpa using a2
    have HE := hide (And.intro a1 a2)
    clear a1 a2 h 
    go_enter Tryd.func39, Tryd.ntmps39
    go_wp2
    go_ret
    refine ⟨lit_ret ?_, (Below.refl _ _).alloc (Nat.le_refl _) _⟩
    unfold cellT
    simp only []
    rw [if_neg HE.out.1, if_neg HE.out.2]

theorem isZero_eq (d : CellD) : isZero d = cellEq d ⟨0, [], 0, 0, 0⟩ := by
  unfold isZero cellEq
  rw [Bool.eq_iff_iff]
  simp [and_assoc]
section
variable {kind lo hi va : Int} {data : List UInt8} {n : Nat}
theorem isZero_no1 (h : ((kind : Int) == 0) = false) : isZero ⟨kind, data, lo, hi, va⟩ = false := by
  simp at h
  simp [isZero, h]
theorem isZero_no2 (hn : n = data.length) (h : ((n : Int) == 0) = false) : isZero ⟨kind, data, lo, hi, va⟩ = false := by
  have hne : data ≠ [] := by
    rintro rfl
    simp at h hn
    omega
  simp [isZero, hne]
theorem isZero_no3 (h : ((lo : Int) == 0) = false) : isZero ⟨kind, data, lo, hi, va⟩ = false := by
  simp at h
  simp [isZero, h]
theorem isZero_no4 (h : ((hi : Int) == 0) = false) : isZero ⟨kind, data, lo, hi, va⟩ = false := by
  simp at h
  simp [isZero, h]
theorem isZero_no5 (h : ((va : Int) == 0) = false) : isZero ⟨kind, data, lo, hi, va⟩ = false := by
  simp at h
  simp [isZero, h]
theorem isZero_yes (hn : n = data.length) (e1 : ((kind : Int) == 0) = true) (e2 : ((n : Int) == 0) = true) (e3 : ((lo : Int) == 0) = true) (e4 : ((hi : Int) == 0) = true) (e5 : ((va : Int) == 0) = true) : isZero ⟨kind, data, lo, hi, va⟩ = true := by
  simp at e1 e2 e3 e4 e5
  have hd : data = [] := List.eq_nil_of_length_eq_zero (by omega)
  simp [isZero, e1, e3, e4, e5, hd]
end
set_option maxHeartbeats 3200000 in
theorem cAnswer_any (er : Int) (d : CellD) (A : Option Addr) (n c : Nat) (B : Nat) (w : World) (hB : B ≤ w.heap.size) (he : inI er) (hs : CellSm d) (h : BytesAt w B (.slice A n c) d.data) (ht : PTab w) :
    Calls Tryd.prog 35 #[.agg #[.int .i64 er, .int .i64 d.kind, .slice A n c, .int .i64 d.lo, .int .i64 d.hi, .int .i64 d.val]] w fun e w' => e = .returned (.string (tx (ansT er d))) ∧ Below w.heap.size w w' := by
  have hn : n = d.data.length := by
    obtain ⟨A', n', c', e, _, _, hnl, _⟩ := h
    injection e with _ e
    rw [e, hnl]
  by_cases h0 : er = 0
  · subst h0
    have HC := hide (fun W (hb' : Below w.heap.size w W) => cCell_any d A n c B W (Nat.le_trans hB hb'.size) hs (h.below hb' hB) (ht.below hb'))
    clear h ht hs he
    obtain ⟨kind, data, lo, hi, va⟩ := d
    dsimp only at *
    cases e1 : ((kind : Int) == 0)
    · have HZ := hide (show isZero ⟨kind, data, lo, hi, va⟩ = false from isZero_no1 e1)
      clear hn
      go_enter Tryd.func35, Tryd.ntmps35
      go_wp2_with fail
      refine (HC.out _ (below2 _ _ _)).mono ?_
      rintro e w1 ⟨rfl, hb1⟩
      go_wp2
      go_ret
      refine ⟨ret_txt ?_, below_via (below2 _ _ _) hb1 (by simp; omega)⟩
      unfold ansT
      rw [if_neg (by simp), HZ.out]
      rfl
    cases e2 : ((n : Int) == 0)
    · have HZ := hide (show isZero ⟨kind, data, lo, hi, va⟩ = false from isZero_no2 hn e2)
      clear hn
      go_enter Tryd.func35, Tryd.ntmps35
      go_wp2_with fail
      refine (HC.out _ (below2 _ _ _)).mono ?_
      rintro e w1 ⟨rfl, hb1⟩
      go_wp2
      go_ret
      refine ⟨ret_txt ?_, below_via (below2 _ _ _) hb1 (by simp; omega)⟩
      unfold ansT
      rw [if_neg (by simp), HZ.out]
      rfl
    cases e3 : ((lo : Int) == 0)
    · have HZ := hide (show isZero ⟨kind, data, lo, hi, va⟩ = false from isZero_no3 e3)
      clear hn
      go_enter Tryd.func35, Tryd.ntmps35
      go_wp2_with fail
      refine (HC.out _ (below2 _ _ _)).mono ?_
      rintro e w1 ⟨rfl, hb1⟩
      go_wp2
      go_ret
      refine ⟨ret_txt ?_, below_via (below2 _ _ _) hb1 (by simp; omega)⟩
      unfold ansT
      rw [if_neg (by simp), HZ.out]
      rfl
    cases e4 : ((hi : Int) == 0)
    · have HZ := hide (show isZero ⟨kind, data, lo, hi, va⟩ = false from isZero_no4 e4)
      clear hn
      go_enter Tryd.func35, Tryd.ntmps35
      go_wp2_with fail
      refine (HC.out _ (below2 _ _ _)).mono ?_
      rintro e w1 ⟨rfl, hb1⟩
      go_wp2
      go_ret
      refine ⟨ret_txt ?_, below_via (below2 _ _ _) hb1 (by simp; omega)⟩
      unfold ansT
      rw [if_neg (by simp), HZ.out]
      rfl
    cases e5 : ((va : Int) == 0)
    · have HZ := hide (show isZero ⟨kind, data, lo, hi, va⟩ = false from isZero_no5 e5)
      clear hn
      go_enter Tryd.func35, Tryd.ntmps35
      go_wp2_with fail
      refine (HC.out _ (below2 _ _ _)).mono ?_
      rintro e w1 ⟨rfl, hb1⟩
      go_wp2
      go_ret
      refine ⟨ret_txt ?_, below_via (below2 _ _ _) hb1 (by simp; omega)⟩
      unfold ansT
      rw [if_neg (by simp), HZ.out]
      rfl
    have HZ := hide (isZero_yes (kind := kind) (lo := lo) (hi := hi) (va := va) hn e1 e2 e3 e4 e5)
    clear hn
    go_enter Tryd.func35, Tryd.ntmps35
    go_wp2
    go_ret
    refine ⟨lit_ret ?_, below2 _ _ _⟩
    unfold ansT
    rw [if_neg (by simp), if_pos HZ.out]
  · have HF := hide (fun W (hb' : Below w.heap.size w W) => fault_any er W he (ht.below hb'))
    have b0 : ((er : Int) != 0) = true := by simpa using h0
    have HN := hide h0
    clear h ht hn h0
    go_enter Tryd.func35, Tryd.ntmps35
    go_wp2_with (go_at_call 45; refine (HF.out _ (below2 _ _ _)).mono ?_; rintro e w1 ⟨rfl, hb1⟩)
    go_ret
    refine ⟨ret_txt ?_, below_via (below2 _ _ _) hb1 (by simp; omega)⟩
    unfold ansT
    rw [if_pos HN.out]
    rfl

theorem bytes_nil (w : World) (B : Nat) : BytesAt w B (.slice none 0 0) [] := ⟨none, 0, 0, rfl, Nat.le_refl _, Nat.zero_le _, rfl, fun _ => rfl, Reads.none_⟩
set_option maxHeartbeats 1600000 in
theorem rAnswer_any (er : Int) (d : CellD) (A : Option Addr) (n c : Nat) (B : Nat) (w : World) (hB : B ≤ w.heap.size) (he : inI er) (hs : CellSm d) (h : BytesAt w B (.slice A n c) d.data) :
    Calls Tryd.prog 23 #[.agg #[.int .i64 er, .int .i64 d.kind, .slice A n c, .int .i64 d.lo, .int .i64 d.hi, .int .i64 d.val]] w fun e w' => e = .returned (.string (tx (ansT er d))) ∧ Below w.heap.size w w' := by
  by_cases h0 : er = 0
  · subst h0
    have HC := hide (fun W (hb' : Below w.heap.size w W) => rCell_any d A n c B W (Nat.le_trans hB hb'.size) hs (h.below hb' hB))
    have HS := hide (fun W (hb' : Below w.heap.size w W) => isZero_eq d ▸ rSame_any d ⟨0, [], 0, 0, 0⟩ (.slice A n c) (.slice none 0 0) B W (Nat.le_trans hB hb'.size) (h.below hb' hB) (bytes_nil W B))
    clear h hs he
    cases hz : isZero d
    all_goals
      rw [hz] at HS
      have HZ := hide hz
      clear hz
      go_enter Tryd.func23, Tryd.ntmps23
      go_wp2_with fail
      refine (HS.out _ ((Below.refl _ _).alloc (Nat.le_refl _) _)).mono ?_
      rintro e w1 ⟨rfl, hb1⟩
      have k1 := Blk.via hb1 (Blk.new _ _ _)
      have q1 := k1.cell
      have hb01 : Below w.heap.size w w1 := below_via ((Below.refl _ _).alloc (Nat.le_refl _) _) hb1 (by simp)
    · go_wp2_with fail
      refine (HC.out _ hb01).mono ?_
      rintro e w2 ⟨rfl, hb2⟩
      go_wp2
      go_ret
      refine ⟨ret_txt ?_, below_via hb01 hb2 hb01.size⟩
      unfold ansT
      rw [if_neg (by simp), HZ.out]
      rfl
    · go_wp2
      go_ret
      refine ⟨lit_ret ?_, hb01⟩
      unfold ansT
      rw [if_neg (by simp), if_pos HZ.out]
  · obtain ⟨s, HS1, HS2, hss⟩ := letter (num er)
    have hl := num_len he
    have HF := hide (fun W => HS1.out ▸ Num_any er W he.1 he.2)
    have b0 : ((er : Int) != 0) = true := by simpa using h0
    have HN := hide h0
    clear h h0 HS1
    go_enter Tryd.func23, Tryd.ntmps23
    go_wp2_with (go_at_call 20; refine (HF.out _).mono ?_; rintro e w' ⟨rfl, rfl⟩)
    go_ret
    refine ⟨ret_tx ?_, (Below.refl _ _).alloc (Nat.le_refl _) _⟩
    rw [ByteArray.data_append, Array.toList_append, HS2.out]
    unfold ansT
    rw [if_pos HN.out]
end Go.Proofs.YtkhckehecnobjaaDoor
