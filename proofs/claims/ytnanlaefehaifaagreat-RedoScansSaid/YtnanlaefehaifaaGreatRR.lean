/-
  WALKS OF THE PROGRAM: patch.Put (some bytes, with their number).
-/
import Derived.Test.YtnanlaefehaifaaGreatRQ
namespace Go.Proofs.YtnanlaefehaifaaGreat
open Go.RowKit

theorem AddT.swap {W0 W : World} {bo bc bd : Nat} {t t' : TypeId} {cs cs' : Array Value} {bs : List UInt8} (h : AddT W0 bo bc t cs bs W) (k : Blk W bd t' cs') (hne : bo ≠ bd) (ht : t' ≠ 5) : AddT W0 bo bd t' cs' bs W := ⟨h.hb, hne, ht, h.kO, k, h.bw⟩
theorem AddT.same {W0 W : World} {bo bc : Nat} {t : TypeId} {cs : Array Value} {bs bs' : List UInt8} (h : AddT W0 bo bc t cs bs W) (e : bs = bs') : AddT W0 bo bc t cs bs' W := e ▸ h
/-- The list alone. -/
def AddO (W0 : World) (bo : Nat) (bs : List UInt8) (W : World) : Prop := W0.heap.size ≤ bo ∧ (∃ v, Blk W bo 33 #[v] ∧ OwnB W W0.heap.size v bs) ∧ Below W0.heap.size W0 W
theorem AddT.only {W0 W : World} {bo bc : Nat} {t : TypeId} {cs : Array Value} {bs : List UInt8} (h : AddT W0 bo bc t cs bs W) : AddO W0 bo bs W := ⟨h.hb, h.kO, h.bw⟩
theorem AddO.via {W0 W W' : World} {bo : Nat} {bs : List UInt8} (h : AddO W0 bo bs W) (hb : Below W.heap.size W W') : AddO W0 bo bs W' := by
  obtain ⟨h1, ⟨v, k, o⟩, h3⟩ := h
  exact ⟨h1, ⟨v, Blk.via hb k, o.via hb⟩, below_via h3 hb h3.size⟩
theorem AddO.with_ {W0 W : World} {bo bd : Nat} {t' : TypeId} {cs' : Array Value} {bs : List UInt8} (h : AddO W0 bo bs W) (k : Blk W bd t' cs') (hne : bo ≠ bd) (ht : t' ≠ 5) : AddT W0 bo bd t' cs' bs W := ⟨h.1, hne, ht, h.2.1, k, h.2.2⟩
def patC (t : TypeId) (W0 : World) (bo bc : Nat) (cs : Array Value) : Prop := ∀ (width : Nat) (bs : List UInt8) (n : Int) (W : World), 1 ≤ width → width ≤ 8 → AddT W0 bo bc t cs bs W → bs.length ≤ 10000000 → Calls Tryz.prog 178 #[.int .i64 (width : Nat), .int .i64 n, .pointer (some ⟨bo, 0, none⟩)] W (AddQ W0 bo bc t cs (bs ++ beB width n))
set_option maxHeartbeats 6400000 in
set_option maxRecDepth 100000 in
theorem patPut_any (x : PatV) (B : Nat) (w : World) (hs : PatSm x) (hB : B ≤ w.heap.size) (ha : Runs w B x.rv x.runs) :
    Calls Tryz.prog 114 #[.slice none 0 0, patV x] w (SomeB w fun n => n ≤ 40000) := by
  have HC := hide (fun W (hb : Below w.heap.size w W) => patCheck_any x B W hs (Nat.le_trans hB hb.size) (ha.below hb hB))
  obtain ⟨page, fresh, rs, rv⟩ := x
  obtain ⟨hsa, hok⟩ := ha
  obtain ⟨hs1, hs2⟩ := hs
  dsimp only at *
  have HSA := hide hsa
  have HOK := hide hok
  have HS2 := hide hs2
  obtain ⟨A, c, rfl, hc, hm, hnil, _⟩ := hsa
  have hl60 : rs.length ≤ 60 := hs1
  obtain ⟨m, hm'⟩ : ∃ m, m = rs.length := ⟨_, rfl⟩
  have HM := hide hm'
  rw [← hm'] at hl60
  unfold patV at *
  dsimp only at *
  rw [← hm'] at HC ⊢
  clear hm' hs1 hs2 hok hc hm hnil
  have hnn := fun W : World => run_append_of_nil (P := Tryz.prog) W W.heap.size 33 33 5 
  obtain ⟨i0, hi, hz0, hz1, hz2⟩ := info_parts info_u8R
  have hap : ∀ W : World, (Builtin.append_ #[33, 33] 33 #[.slice none 0 0, .slice none 0 0]).run Tryz.prog W = .ok (.slice none 0 0) W := fun W => run_append_of_nil (P := Tryz.prog) W W.heap.size 33 33 5 i0 1 Tryz.underlying33 hi (.slice none 0 0) 0 [] (World.ownsRow_nil _ _ _ _) 0
  clear hnn hi hz0 hz1 hz2
  go_enter Tryz.func114, Tryz.ntmps114
  go_upto_region 2 with (fail)
  refine gen2 (R := fun W => Code.wp _ _ _ _ W) (fun W1 kC kO hb1 hz1 => ?_)
  have hS1 : AddT w (w.heap.size + 1) w.heap.size 111 #[.int .i64 page, .bool fresh, .slice A m c] [] W1 := ⟨by omega, by omega, by decide, ⟨_, kO, OwnB.nil _ _⟩, kC, hb1⟩
  have p0 : W1.cell? ⟨w.heap.size, 0, none⟩ = some _ := kC.cell 0
  have p1 : W1.cell? ⟨w.heap.size, 1, none⟩ = some _ := kC.cell 1
  have p2 : W1.cell? ⟨w.heap.size, 2, none⟩ = some _ := kC.cell 2
  have HS1 := hide hS1
  clear hS1 kC kO
  go_wp2_with fail
  refine (HC.out _ hb1).mono ?_
  rintro e w2 ⟨rfl | rfl, hb2⟩
  · have hS2 := HS1.out.via hb2
    have HS2' := hide hS2
    clear p0 p1 p2
    have p0 : w2.cell? ⟨w.heap.size, 0, none⟩ = some _ := hS2.kC.cell 0
    have p1 : w2.cell? ⟨w.heap.size, 1, none⟩ = some _ := hS2.kC.cell 1
    have p2 : w2.cell? ⟨w.heap.size, 2, none⟩ = some _ := hS2.kC.cell 2
    clear hS2
    cases fresh
    · go_wp2_with fail
      refine (patAdd w (w.heap.size + 1) w.heap.size _ _ _ 2 page w2 (by omega) (by omega) HS2'.out (by simp)).mono ?_
      rintro e w3 ⟨⟨v3, rfl⟩, hS3⟩
      have HS3 := hide hS3
      clear p0 p1 p2
      have p0 : w3.cell? ⟨w.heap.size, 0, none⟩ = some _ := hS3.kC.cell 0
      have p1 : w3.cell? ⟨w.heap.size, 1, none⟩ = some _ := hS3.kC.cell 1
      have p2 : w3.cell? ⟨w.heap.size, 2, none⟩ = some _ := hS3.kC.cell 2
      clear hS3
      go_wp2_with fail
      refine (patAdd w (w.heap.size + 1) w.heap.size _ _ _ 1 0 w3 (by omega) (by omega) HS3.out (by simp [beB_length])).mono ?_
      rintro e w4 ⟨⟨v4, rfl⟩, hS4⟩
      have HS4 := hide hS4
      clear p0 p1 p2
      have p0 : w4.cell? ⟨w.heap.size, 0, none⟩ = some _ := hS4.kC.cell 0
      have p1 : w4.cell? ⟨w.heap.size, 1, none⟩ = some _ := hS4.kC.cell 1
      have p2 : w4.cell? ⟨w.heap.size, 2, none⟩ = some _ := hS4.kC.cell 2
      clear hS4
      go_wp2_with fail
      refine (patAdd w (w.heap.size + 1) w.heap.size _ _ _ 2 (m : Nat) w4 (by omega) (by omega) HS4.out (by simp [beB_length])).mono ?_
      rintro e w5 ⟨⟨v5, rfl⟩, hS5⟩
      have HS5 := hide hS5
      clear p0 p1 p2
      have p0 : w5.cell? ⟨w.heap.size, 0, none⟩ = some _ := hS5.kC.cell 0
      have p1 : w5.cell? ⟨w.heap.size, 1, none⟩ = some _ := hS5.kC.cell 1
      have p2 : w5.cell? ⟨w.heap.size, 2, none⟩ = some _ := hS5.kC.cell 2
      clear hS5
      have hO5 := HS5.out.only
      go_wp2_with fail
      clear p0 p1 p2
      go_loopw [34] (fun iv wr => ∃ (k : Nat) (bs : List UInt8), k ≤ m ∧ iv = .int .i64 k ∧ bs.length ≤ 5 + k * 604 ∧ AddO w (w.heap.size + 1) bs wr) (fun iv _ => m - (intOf iv).toNat)
      case atStart => exact ⟨0, _, Nat.zero_le _, rfl, by simp [beB_length], hO5⟩
      case round =>
        obtain ⟨k, bs, hk, rfl, hbl, hO⟩ := hrel
        have hbw := hO.2.2
        by_cases hlt : k < m
        · have hlt' : k < rs.length := by have := HM.out; omega
          obtain ⟨b, o, c', x, e0, hb, hx, _, _, hcell⟩ := SliceAt.at_ RunV.cells_length (by omega) (HSA.out.keep (w' := wr) (fun p hp => hbw.cell (by omega))) hlt'
          injection e0 with e1 e2 e3
          subst e1 e3
          have c0 : wr.cell? ⟨b, o + k * 2, none⟩ = some (.int .i64 x.place) := hcell 0 _ rfl
          have c1 : wr.cell? ⟨b, o + k * 2 + 1, none⟩ = some x.dv := hcell 1 _ rfl
          obtain ⟨A1, n1, c1', hdv, _, _, hn1, _, hrd⟩ := HOK.out x (List.mem_of_getElem? hx)
          have hn6 := HS2.out x (List.mem_of_getElem? hx)
          rw [hdv] at c1
          have hn16 : n1 ≤ 600 := by unfold RunSm at hn6; omega
          have hzb := hbw.size
          have HRD := hide hrd
          have HN1 := hide hn1
          have HO := hide hO
          have hbl' : bs.length ≤ 100000 := by omega
          obtain ⟨pl, hpl⟩ : ∃ pl, pl = x.place := ⟨_, rfl⟩
          rw [← hpl] at c0
          clear hcell hx hn6 hdv hn1 hrd hO hO5 hpl
          go_wp2_with fail
          refine gen1 (R := fun W => Calls Tryz.prog 178 _ W _) (fun W6 kr hb6 hz6 => ?_)
          have hne : w.heap.size + 1 ≠ wr.heap.size := by
            obtain ⟨_, ⟨v, kb, _⟩, _⟩ := HO.out
            have := kb.lt
            omega
          have hS6 := (HO.out.via hb6).with_ kr hne (by decide)
          refine (patAdd w (w.heap.size + 1) wr.heap.size _ _ bs 2 pl W6 (by omega) (by omega) hS6 (by omega)).mono ?_
          rintro e w7 ⟨⟨v7, rfl⟩, hS7⟩
          have r1 : w7.cell? ⟨wr.heap.size, 1, none⟩ = some _ := hS7.kC.cell 1
          have HS7 := hide hS7
          clear hS6 hS7 kr hb6
          go_wp2_with fail
          refine (patAdd w (w.heap.size + 1) wr.heap.size _ _ (bs ++ beB 2 pl) 2 (n1 : Nat) w7 (by omega) (by omega) HS7.out (by simp [beB_length]; omega)).mono ?_
          rintro e w8 ⟨⟨v8, rfl⟩, hS8⟩
          clear r1
          have r1 : w8.cell? ⟨wr.heap.size, 1, none⟩ = some _ := hS8.kC.cell 1
          obtain ⟨v, k8, o8⟩ := hS8.kO
          have hbw8 := hS8.bw
          have hz8 := hbw8.size
          generalize hbs8 : bs ++ beB 2 pl ++ beB 2 (n1 : Nat) = bs8 at *
          have hl8 : bs8.length = bs.length + 4 := by rw [← hbs8]; simp [beB_length]
          obtain ⟨A8, c8, rfl, junk⟩ := own_slice o8
          have e8 := k8.cell 0
          have f8 := k8.frozen 0
          have l8 := k8.lt
          have HO8 := hide o8
          have HK8 := hide k8
          have HL8 := hide hl8
          have hl8' : bs8.length ≤ 200000 := by omega
          clear junk o8 k8 hS8 hbs8 hl8
          go_wp2_with (at_builtin; refine heldG ?_)
          refine unheldG ?_
          at_builtin
          obtain ⟨i0, hi, hz0, hz1, hz2⟩ := info_parts info_u8R
          refine wpList_append_any _ rfl _ _ _ rfl w.heap.size 5 i0 _ 1 1 Tryz.underlying33 hi hz0 hz1 hz2 rfl (by omega) _ bs8.length _ rfl HO8.out B _ n1 c1' _ rfl (HRD.out.below hbw8 hB) (bytes_one _) (by unfold maxLen; omega) (by omega) (by omega) ?_
          intro v9 w9 ho9 hg9 _
          have hbw9 : Below w.heap.size w w9 := hbw8.grown hg9 hz8 (fun q hq => (HO8.out.lt q hq).1)
          have k9 := HK8.out.keepB HO8.out (by decide) hg9
          have hl9 : (bs8 ++ x.data).length = bs8.length + n1 := by rw [List.length_append, HN1.out]
          have ho9 : OwnB w9 w.heap.size v9 (bs8 ++ x.data) := by
            unfold OwnB
            rw [hl9, List.map_append]
            exact ho9
          generalize bs8 ++ x.data = bs9 at *
          have f9 := k9.frozen 0
          have l9 := k9.lt
          have e9 := k9.cell 0
          have HO9 := hide (show AddO w (w.heap.size + 1) bs9 (w9.setCell ⟨w.heap.size + 1, 0, none⟩ v9) from ⟨by omega, ⟨_, k9.set_ 0 _, ho9.far k9 (by decide) _⟩, hbw9.setCell (p := ⟨w.heap.size + 1, 0, none⟩) (by simp) _⟩)
          obtain ⟨A9, c9, rfl, junk⟩ := own_slice ho9
          have HL9 := hide hl9
          clear junk ho9 hg9 k9 e8 f8 r1 hi hz0 hz1 hz2 hl9
          go_wp2
          go_roundw
          case rel => exact ⟨k + 1, bs9, by omega, by go_num, by have := HL8.out; rw [HL9.out]; omega, HO9.out⟩
          case measure => simp [intOf]; omega
        · obtain rfl : k = m := by omega
          obtain ⟨_, ⟨v, kE, oE⟩, _⟩ := hO
          obtain ⟨AE, cE, rfl, junk⟩ := own_slice oE
          have eE := kE.cell 0
          have HOE := hide oE
          have hblE : bs.length ≤ 40000 := by omega
          clear junk oE kE hO5
          go_wp2
          go_ret
          exact ⟨bs, hblE, AE, cE, rfl, rfl, HOE.out, HOE.out.reads.2, hbw⟩
    · go_wp2_with fail
      refine (patAdd w (w.heap.size + 1) w.heap.size _ _ _ 2 page w2 (by omega) (by omega) HS2'.out (by simp)).mono ?_
      rintro e w3 ⟨⟨v3, rfl⟩, hS3⟩
      have HS3 := hide hS3
      clear p0 p1 p2
      have p0 : w3.cell? ⟨w.heap.size, 0, none⟩ = some _ := hS3.kC.cell 0
      have p1 : w3.cell? ⟨w.heap.size, 1, none⟩ = some _ := hS3.kC.cell 1
      have p2 : w3.cell? ⟨w.heap.size, 2, none⟩ = some _ := hS3.kC.cell 2
      clear hS3
      go_wp2_with fail
      refine (patAdd w (w.heap.size + 1) w.heap.size _ _ _ 1 1 w3 (by omega) (by omega) HS3.out (by simp [beB_length])).mono ?_
      rintro e w4 ⟨⟨v4, rfl⟩, hS4⟩
      have HS4 := hide hS4
      clear p0 p1 p2
      have p0 : w4.cell? ⟨w.heap.size, 0, none⟩ = some _ := hS4.kC.cell 0
      have p1 : w4.cell? ⟨w.heap.size, 1, none⟩ = some _ := hS4.kC.cell 1
      have p2 : w4.cell? ⟨w.heap.size, 2, none⟩ = some _ := hS4.kC.cell 2
      clear hS4
      go_wp2_with fail
      refine (patAdd w (w.heap.size + 1) w.heap.size _ _ _ 2 (m : Nat) w4 (by omega) (by omega) HS4.out (by simp [beB_length])).mono ?_
      rintro e w5 ⟨⟨v5, rfl⟩, hS5⟩
      have HS5 := hide hS5
      clear p0 p1 p2
      have p0 : w5.cell? ⟨w.heap.size, 0, none⟩ = some _ := hS5.kC.cell 0
      have p1 : w5.cell? ⟨w.heap.size, 1, none⟩ = some _ := hS5.kC.cell 1
      have p2 : w5.cell? ⟨w.heap.size, 2, none⟩ = some _ := hS5.kC.cell 2
      clear hS5
      have hO5 := HS5.out.only
      go_wp2_with fail
      clear p0 p1 p2
      go_loopw [34] (fun iv wr => ∃ (k : Nat) (bs : List UInt8), k ≤ m ∧ iv = .int .i64 k ∧ bs.length ≤ 5 + k * 604 ∧ AddO w (w.heap.size + 1) bs wr) (fun iv _ => m - (intOf iv).toNat)
      case atStart => exact ⟨0, _, Nat.zero_le _, rfl, by simp [beB_length], hO5⟩
      case round =>
        obtain ⟨k, bs, hk, rfl, hbl, hO⟩ := hrel
        have hbw := hO.2.2
        by_cases hlt : k < m
        · have hlt' : k < rs.length := by have := HM.out; omega
          obtain ⟨b, o, c', x, e0, hb, hx, _, _, hcell⟩ := SliceAt.at_ RunV.cells_length (by omega) (HSA.out.keep (w' := wr) (fun p hp => hbw.cell (by omega))) hlt'
          injection e0 with e1 e2 e3
          subst e1 e3
          have c0 : wr.cell? ⟨b, o + k * 2, none⟩ = some (.int .i64 x.place) := hcell 0 _ rfl
          have c1 : wr.cell? ⟨b, o + k * 2 + 1, none⟩ = some x.dv := hcell 1 _ rfl
          obtain ⟨A1, n1, c1', hdv, _, _, hn1, _, hrd⟩ := HOK.out x (List.mem_of_getElem? hx)
          have hn6 := HS2.out x (List.mem_of_getElem? hx)
          rw [hdv] at c1
          have hn16 : n1 ≤ 600 := by unfold RunSm at hn6; omega
          have hzb := hbw.size
          have HRD := hide hrd
          have HN1 := hide hn1
          have HO := hide hO
          have hbl' : bs.length ≤ 100000 := by omega
          obtain ⟨pl, hpl⟩ : ∃ pl, pl = x.place := ⟨_, rfl⟩
          rw [← hpl] at c0
          clear hcell hx hn6 hdv hn1 hrd hO hO5 hpl
          go_wp2_with fail
          refine gen1 (R := fun W => Calls Tryz.prog 178 _ W _) (fun W6 kr hb6 hz6 => ?_)
          have hne : w.heap.size + 1 ≠ wr.heap.size := by
            obtain ⟨_, ⟨v, kb, _⟩, _⟩ := HO.out
            have := kb.lt
            omega
          have hS6 := (HO.out.via hb6).with_ kr hne (by decide)
          refine (patAdd w (w.heap.size + 1) wr.heap.size _ _ bs 2 pl W6 (by omega) (by omega) hS6 (by omega)).mono ?_
          rintro e w7 ⟨⟨v7, rfl⟩, hS7⟩
          have r1 : w7.cell? ⟨wr.heap.size, 1, none⟩ = some _ := hS7.kC.cell 1
          have HS7 := hide hS7
          clear hS6 hS7 kr hb6
          go_wp2_with fail
          refine (patAdd w (w.heap.size + 1) wr.heap.size _ _ (bs ++ beB 2 pl) 2 (n1 : Nat) w7 (by omega) (by omega) HS7.out (by simp [beB_length]; omega)).mono ?_
          rintro e w8 ⟨⟨v8, rfl⟩, hS8⟩
          clear r1
          have r1 : w8.cell? ⟨wr.heap.size, 1, none⟩ = some _ := hS8.kC.cell 1
          obtain ⟨v, k8, o8⟩ := hS8.kO
          have hbw8 := hS8.bw
          have hz8 := hbw8.size
          generalize hbs8 : bs ++ beB 2 pl ++ beB 2 (n1 : Nat) = bs8 at *
          have hl8 : bs8.length = bs.length + 4 := by rw [← hbs8]; simp [beB_length]
          obtain ⟨A8, c8, rfl, junk⟩ := own_slice o8
          have e8 := k8.cell 0
          have f8 := k8.frozen 0
          have l8 := k8.lt
          have HO8 := hide o8
          have HK8 := hide k8
          have HL8 := hide hl8
          have hl8' : bs8.length ≤ 200000 := by omega
          clear junk o8 k8 hS8 hbs8 hl8
          go_wp2_with (at_builtin; refine heldG ?_)
          refine unheldG ?_
          at_builtin
          obtain ⟨i0, hi, hz0, hz1, hz2⟩ := info_parts info_u8R
          refine wpList_append_any _ rfl _ _ _ rfl w.heap.size 5 i0 _ 1 1 Tryz.underlying33 hi hz0 hz1 hz2 rfl (by omega) _ bs8.length _ rfl HO8.out B _ n1 c1' _ rfl (HRD.out.below hbw8 hB) (bytes_one _) (by unfold maxLen; omega) (by omega) (by omega) ?_
          intro v9 w9 ho9 hg9 _
          have hbw9 : Below w.heap.size w w9 := hbw8.grown hg9 hz8 (fun q hq => (HO8.out.lt q hq).1)
          have k9 := HK8.out.keepB HO8.out (by decide) hg9
          have hl9 : (bs8 ++ x.data).length = bs8.length + n1 := by rw [List.length_append, HN1.out]
          have ho9 : OwnB w9 w.heap.size v9 (bs8 ++ x.data) := by
            unfold OwnB
            rw [hl9, List.map_append]
            exact ho9
          generalize bs8 ++ x.data = bs9 at *
          have f9 := k9.frozen 0
          have l9 := k9.lt
          have e9 := k9.cell 0
          have HO9 := hide (show AddO w (w.heap.size + 1) bs9 (w9.setCell ⟨w.heap.size + 1, 0, none⟩ v9) from ⟨by omega, ⟨_, k9.set_ 0 _, ho9.far k9 (by decide) _⟩, hbw9.setCell (p := ⟨w.heap.size + 1, 0, none⟩) (by simp) _⟩)
          obtain ⟨A9, c9, rfl, junk⟩ := own_slice ho9
          have HL9 := hide hl9
          clear junk ho9 hg9 k9 e8 f8 r1 hi hz0 hz1 hz2 hl9
          go_wp2
          go_roundw
          case rel => exact ⟨k + 1, bs9, by omega, by go_num, by have := HL8.out; rw [HL9.out]; omega, HO9.out⟩
          case measure => simp [intOf]; omega
        · obtain rfl : k = m := by omega
          obtain ⟨_, ⟨v, kE, oE⟩, _⟩ := hO
          obtain ⟨AE, cE, rfl, junk⟩ := own_slice oE
          have eE := kE.cell 0
          have HOE := hide oE
          have hblE : bs.length ≤ 40000 := by omega
          clear junk oE kE hO5
          go_wp2
          go_ret
          exact ⟨bs, hblE, AE, cE, rfl, rfl, HOE.out, HOE.out.reads.2, hbw⟩
  · have hS2 := HS1.out.via hb2
    obtain ⟨v2, k2, o2⟩ := hS2.kO
    obtain ⟨A2, c2, rfl, junk⟩ := own_slice o2
    have e2 := k2.cell 0
    have HO2 := hide o2
    have hbw2 := hS2.bw
    clear junk o2 k2 hS2
    simp only [List.length_nil] at e2 HO2
    go_wp2
    go_ret
    exact ⟨[], Nat.zero_le _, A2, c2, rfl, rfl, HO2.out, HO2.out.reads.2, hbw2⟩
end Go.Proofs.YtnanlaefehaifaaGreat
