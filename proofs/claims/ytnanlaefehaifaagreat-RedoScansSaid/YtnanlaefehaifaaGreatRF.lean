/-
  WALKS OF THE PROGRAM: cell.Check, cell.Put.
-/
import Derived.Test.YtnanlaefehaifaaGreatRE
import Derived.Test.YtnanlaefehaifaaGreatPA
import Derived.Test.YtnanlaefehaifaaGreatPN
import Derived.Deep.QuietTactic
import Derived.BigQuiet
namespace Go.Proofs.YtnanlaefehaifaaGreat
open Go.RowKit

/-- The error's number of a cell. -/
def cellE (d : CellD) : Int := if rightC d = true then 0 else 1
set_option maxHeartbeats 3200000 in
set_option maxRecDepth 100000 in
theorem cellCheck_any (d : CellD) (A : Option Addr) (n c : Nat) (w : World) (hn : n = d.data.length) :
    Calls Tryz.prog 240 #[.agg #[.int .i64 d.kind, .slice A n c, .int .i64 d.lo, .int .i64 d.hi, .int .i64 d.val]] w fun e w' => e = .returned (.int .i64 (cellE d)) ∧ Below w.heap.size w w' := by
  have HN := hide hn
  clear hn
  go_enter Tryz.func240, Tryz.ntmps240
  go_wp2
  all_goals
    go_ret
    refine ⟨ret_int ?_, (Below.refl _ _).alloc (Nat.le_refl _) _⟩
    have hn := HN.out
    clear HN
    unfold cellE rightC
    simp_all <;> omega
/-- While bytes are put one behind the other: the list's box, the argument's box. -/
structure AddS (W0 : World) (bo bc : Nat) (t : TypeId) (cs : Array Value) (bs : List UInt8) (W : World) : Prop where
  hb : W0.heap.size ≤ bo
  he : bo ≠ bc
  hd : bc < bo
  ht : t ≠ 5
  kO : ∃ v, Blk W bo 33 #[v] ∧ OwnB W W0.heap.size v bs
  kC : Blk W bc t cs
  bw : Below W0.heap.size W0 W
theorem AddS.via {W0 W W' : World} {bo bc : Nat} {t : TypeId} {cs : Array Value} {bs : List UInt8} (h : AddS W0 bo bc t cs bs W) (hb : Below W.heap.size W W') : AddS W0 bo bc t cs bs W' := by
  obtain ⟨v, k, o⟩ := h.kO
  exact ⟨h.hb, h.he, h.hd, h.ht, ⟨v, Blk.via hb k, o.via hb⟩, Blk.via hb h.kC, below_via h.bw hb h.bw.size⟩
theorem AddS.row5 {W0 W : World} {bo bc : Nat} {t : TypeId} {a b c d e : Value} {bs : List UInt8} (h : AddS W0 bo bc t #[a, b, c, d, e] bs W) : W.cell? ⟨bc, 0, none⟩ = some a ∧ W.cell? ⟨bc, 1, none⟩ = some b ∧ W.cell? ⟨bc, 2, none⟩ = some c ∧ W.cell? ⟨bc, 3, none⟩ = some d ∧ W.cell? ⟨bc, 4, none⟩ = some e :=
  ⟨h.kC.cell 0, h.kC.cell 1, h.kC.cell 2, h.kC.cell 3, h.kC.cell 4⟩
/-- Behind such a put. -/
def AddP (W0 : World) (bo bc : Nat) (t : TypeId) (cs : Array Value) (bs : List UInt8) (e : Ending) (w' : World) : Prop := (∃ v, e = .returned v) ∧ AddS W0 bo bc t cs bs w'
set_option maxHeartbeats 3200000 in
set_option maxRecDepth 100000 in
theorem cellAdd (W0 : World) (bo bc : Nat) (t : TypeId) (cs : Array Value) (bs : List UInt8) (width : Nat) (n : Int) (w : World) (hw1 : 1 ≤ width) (hw8 : width ≤ 8) (hS : AddS W0 bo bc t cs bs w) (hl : bs.length ≤ 10000000) :
    Calls Tryz.prog 250 #[.int .i64 (width : Nat), .int .i64 n, .pointer (some ⟨bo, 0, none⟩)] w (AddP W0 bo bc t cs (bs ++ beB width n)) := by
  obtain ⟨v, k0, o0⟩ := hS.kO
  have kC := hS.kC
  have hbw := hS.bw
  have hB0 := hS.hb
  have hne := hS.he
  have hlt := hS.hd
  have HTn := hide hS.ht
  have hz0 := hbw.size
  obtain ⟨A, c, rfl, junk⟩ := own_slice o0
  have HO := hide o0
  have HK := hide k0
  have HC := hide kC
  have HQ := hide (fun W (hW : Below w.heap.size w W) => (show W.cell? ⟨bo, 0, none⟩ = some (.slice A bs.length c) from (hW.cell (p := ⟨bo, 0, none⟩) k0.lt).trans (k0.cell 0)))
  have HP := hide (fun W => put_gives width n W hw1 hw8)
  obtain ⟨i0, hi, hz0', hz1, hz2⟩ := info_parts info_u8R
  have jb := (Below.refl w.heap.size w).drew
  clear hS o0 k0 kC junk
  go_enter Tryz.func250, Tryz.ntmps250
  have e1 := HQ.out _ jb
  go_region_law (first
    | (go_simp; go_at_call 113; (with_reducible refine (HP.out _).mono ?_); rintro e w3 ⟨A3, c3, rfl, hn3, ho3, hr3, hb3⟩; clear hn3; have jb3 := below_via jb hb3 jb.size; have e3 := HQ.out _ jb3; have own3 := HO.out.via jb3; have k3 := Blk.via jb3 HK.out; have kc3 := Blk.via jb3 HC.out; have bw3 := below_via hbw jb3 hbw.size; have jz3 := bw3.size; have HR3 := hide hr3; clear hr3 ho3)
    | (refine step_append_any _ (by rfl) (.tmp 5) (.tmp 8) _ (by rfl) W0.heap.size 5 i0 _ 1 1 Tryz.underlying33 hi hz0' hz1 hz2 rfl (by omega) (.slice A bs.length c) bs.length _ (by rfl) own3 _ A3 width c3 _ (by rfl) HR3.out (bytes_one _) (by unfold maxLen; omega) (by omega) (by omega) ?_; intro v4 w4 hown4 hg4 _; obtain ⟨A4, d4, hv4, _⟩ := own_slice hown4; subst hv4; have k4 := k3.keepB own3 (by decide) hg4; have kc4 := kc3.keepB own3 HTn.out hg4; have f4 := k4.frozen 0; have l4 := k4.lt; have e4 := k4.cell 0; have bw4 := bw3.grown hg4 (by omega) (fun q hq => (own3.lt q hq).1)))
  all_goals go_wp2_with fail
  all_goals
    go_end0
    have ho4 : OwnB w4 W0.heap.size (.slice A4 (bs.length + width) d4) (bs ++ beB width n) := by
      unfold OwnB
      rw [List.length_append, beB_length, List.map_append]
      exact hown4
    exact ⟨⟨_, rfl⟩, hB0, hne, hlt, HTn.out, ⟨_, k4.set_ 0 _, ho4.far k4 (by decide) _⟩, kc4.far (p := ⟨bo, 0, none⟩) hne.symm _, bw4.setCell (p := ⟨bo, 0, none⟩) hB0 _⟩
theorem nameW {w : World} {R : World → Prop} (h : ∀ W, W = w → R W) : R w := h w rfl
/-- The bytes of a cell. -/
def cellB (d : CellD) : List UInt8 := if rightC d = true then (if d.kind = 1 then beB 1 d.kind ++ beB 1 (d.data.length : Nat) ++ d.data else beB 1 d.kind ++ beB 8 d.lo ++ beB 8 d.hi ++ beB 8 d.val) else []
theorem cellB_length (d : CellD) : (cellB d).length ≤ 66 := by
  unfold cellB
  split
  · rename_i h
    have := rightC_kind h
    split <;> simp [beB_length] <;> omega
  · simp
set_option maxHeartbeats 3200000 in
set_option maxRecDepth 100000 in
/-- cell.Put behind a nil list. -/
theorem cellPut_any (d : CellD) (A : Option Addr) (n c : Nat) (B : Nat) (w : World) (hB : B ≤ w.heap.size) (hn : n = d.data.length) (hr : Reads w B 1 A n (d.data.map byteV)) :
    Calls Tryz.prog 227 #[.slice none 0 0, .agg #[.int .i64 d.kind, .slice A n c, .int .i64 d.lo, .int .i64 d.hi, .int .i64 d.val]] w (GivesB w (cellB d).length (cellB d)) := by
  have HC := hide (fun W => cellCheck_any d A n c W hn)
  have HR := hide hr
  have HN := hide hn
  obtain ⟨i0, hi, hz0, hz1, hz2⟩ := info_parts info_u8R
  obtain ⟨X, hX⟩ := make_room Tryz.prog 34 (by omega) Tryz.underlying33 info_u8R
  have hmk : ∀ W : World, (Instr.makeSlice 33 (.int .i64 0) (.int .i64 34)).run Tryz.prog W = .ok (.slice (some ⟨W.heap.size, 0, none⟩) 0 34) (W.alloc (.cells X 5)) := fun W => (hX W).1
  have HX := hide (fun W => (hX W).2)
  clear hr hn hX
  go_enter Tryz.func227, Tryz.ntmps227
  go_wp2_with (first
    | (refine (HC.out _).mono ?_; rintro e w2 ⟨rfl, hb2⟩)
    | (at_builtin; refine heldG ?_))
  have kc1 := (Blk.new w 35 #[.int .i64 d.kind, .slice A n c, .int .i64 d.lo, .int .i64 d.hi, .int .i64 d.val]).alloc (.cells X 5)
  have o1 : OwnB ((w.alloc (.cells #[.int .i64 d.kind, .slice A n c, .int .i64 d.lo, .int .i64 d.hi, .int .i64 d.val] 35)).alloc (.cells X 5)) w.heap.size (.slice (some ⟨w.heap.size + 1, 0, none⟩) 0 34) [] := by
    have h := (HX.out (w.alloc (.cells #[.int .i64 d.kind, .slice A n c, .int .i64 d.lo, .int .i64 d.hi, .int .i64 d.val] 35))).low (base' := w.heap.size) (by simp)
    rwa [show (w.alloc (.cells #[.int .i64 d.kind, .slice A n c, .int .i64 d.lo, .int .i64 d.hi, .int .i64 d.val] 35)).heap.size = w.heap.size + 1 by simp] at h
  refine unheldG ?_
  at_builtin
  refine wpList_append_any _ rfl _ _ _ rfl w.heap.size 5 i0 _ 1 1 Tryz.underlying33 hi hz0 hz1 hz2 rfl (by omega) _ 0 _ rfl o1 0 none 0 0 [] rfl Reads.none_ (fun _ h => absurd h (by simp)) (by unfold maxLen; omega) (by omega) (by simp; omega) ?_
  intro v4 w4 ho4 hg4 _
  have kc4 := kc1.keepB o1 (by decide) hg4
  have hb1 : Below w.heap.size w ((w.alloc (.cells #[.int .i64 d.kind, .slice A n c, .int .i64 d.lo, .int .i64 d.hi, .int .i64 d.val] 35)).alloc (.cells X 5)) := below2 w _ _
  have hb4 : Below w.heap.size w w4 := hb1.grown hg4 (by simp; omega) (fun q hq => (o1.lt q hq).1)
  have ho4 : OwnB w4 w.heap.size v4 [] := ho4
  obtain ⟨A4, c4, rfl, junk⟩ := own_slice ho4
  have KC4 := hide kc4
  have HO4 := hide ho4
  have hz4 := kc4.lt
  clear junk kc4 ho4 hg4 o1 kc1 hb1
  go_upto_region 2 with (fail)
  refine gen1 (R := fun W => Code.wp _ _ _ _ W) (fun W5 k5 hb5 hz5 => ?_)
  have hS5 : AddS w w4.heap.size w.heap.size 35 #[.int .i64 d.kind, .slice A n c, .int .i64 d.lo, .int .i64 d.hi, .int .i64 d.val] [] W5 :=
    ⟨hb4.size, by omega, by omega, by decide, ⟨_, k5, HO4.out.via hb5⟩, Blk.via hb5 KC4.out, below_via hb4 hb5 hb4.size⟩
  clear hb4
  obtain ⟨q0, q1, q2, q3, q4⟩ := hS5.row5
  have HS5 := hide hS5
  have HA1 := hide (fun (bs : List UInt8) (x : Int) (W : World) (hS : AddS w w4.heap.size w.heap.size 35 #[.int .i64 d.kind, .slice A n c, .int .i64 d.lo, .int .i64 d.hi, .int .i64 d.val] bs W) (hl : bs.length ≤ 10000000) => (show Calls Tryz.prog 250 #[.int .i64 1, .int .i64 x, .pointer (some ⟨w4.heap.size, 0, none⟩)] W (AddP w w4.heap.size w.heap.size 35 #[.int .i64 d.kind, .slice A n c, .int .i64 d.lo, .int .i64 d.hi, .int .i64 d.val] (bs ++ beB 1 x)) from cellAdd w w4.heap.size w.heap.size _ _ bs 1 x W (by omega) (by omega) hS hl))
  have HA8 := hide (fun (bs : List UInt8) (x : Int) (W : World) (hS : AddS w w4.heap.size w.heap.size 35 #[.int .i64 d.kind, .slice A n c, .int .i64 d.lo, .int .i64 d.hi, .int .i64 d.val] bs W) (hl : bs.length ≤ 10000000) => (show Calls Tryz.prog 250 #[.int .i64 8, .int .i64 x, .pointer (some ⟨w4.heap.size, 0, none⟩)] W (AddP w w4.heap.size w.heap.size 35 #[.int .i64 d.kind, .slice A n c, .int .i64 d.lo, .int .i64 d.hi, .int .i64 d.val] (bs ++ beB 8 x)) from cellAdd w w4.heap.size w.heap.size _ _ bs 8 x W (by omega) (by omega) hS hl))
  clear hS5 k5 hb5
  cases hc : rightC d
  · have HE := hide (show cellE d = 1 by unfold cellE; rw [hc]; rfl)
    have HB := hide (show cellB d = [] by unfold cellB; rw [hc]; rfl)
    clear hc
    go_wp2_with fail
    refine (HC.out _).mono ?_
    rintro e w6 ⟨rfl, hb6⟩
    have hS6 := HS5.out.via hb6
    obtain ⟨v6, k6, o6⟩ := hS6.kO
    obtain ⟨A6, c6, rfl, junk⟩ := own_slice o6
    clear junk
    have e6 := k6.cell 0
    have HO6 := hide (show OwnB w6 w.heap.size (.slice A6 0 c6) [] from o6)
    have hbw6 := hS6.bw
    simp only [List.length_nil] at e6
    rw [HE.out]
    clear hS6 k6 o6
    go_wp2
    go_ret
    rw [HB.out]
    exact ⟨A6, c6, rfl, rfl, HO6.out, HO6.out.reads.2, hbw6⟩
  · have HE := hide (show cellE d = 0 by unfold cellE; rw [hc]; rfl)
    have hkd := rightC_kind hc
    have hlen : d.data.length ≤ 32 := by
      rcases hkd with h | h
      · exact h.2
      · rw [h.2]; exact Nat.zero_le _
    cases hk : decide (d.kind = 1)
    · have hk1 : ¬ d.kind = 1 := by simpa using hk
      have HB := hide (show cellB d = beB 1 d.kind ++ beB 8 d.lo ++ beB 8 d.hi ++ beB 8 d.val by unfold cellB; rw [hc, if_pos rfl, if_neg hk1])
      clear hc hk hkd
      go_wp2_with fail
      refine (HC.out _).mono ?_
      rintro e w6 ⟨rfl, hb6⟩
      have HS6 := hide (HS5.out.via hb6)
      obtain ⟨q0, q1, q2, q3, q4⟩ := HS6.out.row5
      rw [HE.out]
      go_wp2_with fail
      refine (HA1.out _ _ _ HS6.out (by simp)).mono ?_
      rintro e w7 ⟨⟨v7, rfl⟩, hS7⟩
      have HS7 := hide hS7
      clear q0 q1 q2 q3 q4
      obtain ⟨q0, q1, q2, q3, q4⟩ := hS7.row5
      clear hS7
      go_wp2_with fail
      refine (HA8.out _ _ _ HS7.out (by simp [beB_length])).mono ?_
      rintro e w8 ⟨⟨v8, rfl⟩, hS8⟩
      have HS8 := hide hS8
      clear q0 q1 q2 q3 q4
      obtain ⟨q0, q1, q2, q3, q4⟩ := hS8.row5
      clear hS8
      go_wp2_with fail
      refine (HA8.out _ _ _ HS8.out (by simp [beB_length])).mono ?_
      rintro e w9 ⟨⟨v9, rfl⟩, hS9⟩
      have HS9 := hide hS9
      clear q0 q1 q2 q3 q4
      obtain ⟨q0, q1, q2, q3, q4⟩ := hS9.row5
      clear hS9
      go_wp2_with fail
      refine (HA8.out _ _ _ HS9.out (by simp [beB_length])).mono ?_
      rintro e w10 ⟨⟨v10, rfl⟩, hS10⟩
      obtain ⟨v, k10, o10⟩ := hS10.kO
      obtain ⟨A10, c10, rfl, junk⟩ := own_slice o10
      have e10 := k10.cell 0
      have hbw10 := hS10.bw
      have HO10 := hide o10
      clear junk o10 k10 hS10
      go_wp2
      go_ret
      rw [HB.out]
      refine ⟨A10, c10, by simp, rfl, HO10.out, HO10.out.reads.2, hbw10⟩
    · obtain hk1 : d.kind = 1 := by simpa using hk
      have HB := hide (show cellB d = beB 1 d.kind ++ beB 1 (d.data.length : Nat) ++ d.data by unfold cellB; rw [hc, if_pos rfl, if_pos hk1])
      have hkb : (d.kind == 1) = true := by rw [hk1]; rfl
      clear hc hk hkd hk1
      go_wp2_with fail
      refine (HC.out _).mono ?_
      rintro e w6 ⟨rfl, hb6⟩
      have HS6 := hide (HS5.out.via hb6)
      obtain ⟨q0, q1, q2, q3, q4⟩ := HS6.out.row5
      rw [HE.out]
      go_wp2_with fail
      refine (HA1.out _ _ _ HS6.out (by simp)).mono ?_
      rintro e w7 ⟨⟨v7, rfl⟩, hS7⟩
      have HS7 := hide hS7
      clear q0 q1 q2 q3 q4
      obtain ⟨q0, q1, q2, q3, q4⟩ := hS7.row5
      clear hS7
      go_wp2_with fail
      refine (HA1.out _ _ _ HS7.out (by simp [beB_length])).mono ?_
      rintro e w8 ⟨⟨v8, rfl⟩, hS8⟩
      have HS8 := hide hS8
      clear q0 q1 q2 q3 q4
      obtain ⟨q0, q1, q2, q3, q4⟩ := hS8.row5
      clear hS8
      obtain ⟨v, k8, o8⟩ := HS8.out.kO
      obtain ⟨A8, c8, rfl, junk⟩ := own_slice o8
      have e8 := k8.cell 0
      have hbw8 := HS8.out.bw
      have HO8 := hide o8
      clear junk o8 k8
      go_wp2_with (at_builtin; refine heldG ?_)
      have hr8 := HR.out.below hbw8 hB
      have hz8 := hbw8.size
      have hl8 : (beB 1 d.kind ++ beB 1 (n : Nat)).length = 2 := by simp [beB_length]
      have HO8' := hide (show OwnB w8 w.heap.size (.slice A8 2 c8) (beB 1 d.kind ++ beB 1 (n : Nat)) by have h := HO8.out; simp only [List.nil_append] at h; rw [hl8] at h; exact h)
      have hnn := HN.out
      refine unheldG ?_
      at_builtin
      refine wpList_append_any _ rfl _ _ _ rfl w.heap.size 5 i0 _ 1 1 Tryz.underlying33 hi hz0 hz1 hz2 rfl (by omega) _ 2 _ rfl HO8'.out B _ n c _ rfl hr8 (bytes_one _) (by unfold maxLen; omega) (by omega) (by omega) ?_
      intro v9 w9 ho9 hg9 _
      have hbw9 : Below w.heap.size w w9 := hbw8.grown hg9 hz8 (fun q hq => (HO8'.out.lt q hq).1)
      have hl9 : (beB 1 d.kind ++ beB 1 (n : Nat) ++ d.data).length = 2 + n := by rw [List.length_append, hl8, hnn]
      have ho9 : OwnB w9 w.heap.size v9 (beB 1 d.kind ++ beB 1 (n : Nat) ++ d.data) := by
        unfold OwnB
        rw [hl9, List.map_append]
        exact ho9
      obtain ⟨A9, c9, rfl, junk⟩ := own_slice ho9
      rw [hl9] at ho9 ⊢
      have HO9 := hide ho9
      have HL9 := hide hl9
      clear junk ho9 hg9 hr8 hl8 hl9 hnn
      go_wp2
      go_ret
      have hl9 := HL9.out
      rw [HN.out] at hl9
      rw [HB.out]
      refine ⟨A9, c9, by rw [← HN.out, HL9.out]; rfl, rfl, ?_, ?_, hbw9⟩
      · rw [← HN.out, HL9.out]; exact HO9.out
      · rw [← HN.out, HL9.out]; exact HO9.out.reads.2
end Go.Proofs.YtnanlaefehaifaaGreat
