/-
  WALKS OF THE PROGRAM: undo.Put (some bytes, with their number).
-/
import Derived.Test.YtnanlaefehaifaaGreatRL
import Derived.Test.YtnanlaefehaifaaGreatRM
import Derived.Test.YtnanlaefehaifaaGreatRN
import Derived.Lib.AppendStr
namespace Go.Proofs.YtnanlaefehaifaaGreat
open Go.RowKit

/-- Some bytes are given whose number is as told. -/
def SomeB (w : World) (p : Nat → Prop) (e : Ending) (w' : World) : Prop := ∃ bs : List UInt8, p bs.length ∧ GivesB w bs.length bs e w'
theorem SomeB.imp {w : World} {p q : Nat → Prop} {e : Ending} {w' : World} (h : SomeB w p e w') (hpq : ∀ n, p n → q n) : SomeB w q e w' := let ⟨bs, h1, h2⟩ := h; ⟨bs, hpq _ h1, h2⟩
theorem bytes_blk {W : World} {g : Nat} {t : TypeId} {bs : List UInt8} {B c : Nat} (k : Blk W g t (bs.map byteV).toArray) (hB : g < B) (hc : bs.length ≤ c) (hm : c ≤ maxLen) : BytesAt W B (.slice (some ⟨g, 0, none⟩) bs.length c) bs :=
  ⟨some ⟨g, 0, none⟩, bs.length, c, rfl, hc, hm, rfl, fun h => (by cases h), ((Reads.of_blk (size := 1) (n := bs.length) k (by simp)).more hB)⟩
theorem undoZ_right {x : UndoV} (h : undoZ x = true) : rightU x = true ∧ x.act = 0 := by
  have h0 : x.act = 0 := by
    unfold undoZ at h
    simp only [Bool.and_eq_true, beq_iff_eq] at h
    exact h.1.1.1
  exact ⟨by unfold rightU; rw [if_pos h0]; exact h, h0⟩
theorem rightU_key {x : UndoV} (h : rightU x = true) (h0 : ¬ x.act = 0) : (x.act = 1 ∨ x.act = 2 ∨ x.act = 3) ∧ x.key.size ≤ 16 := by
  have hg : ∀ {k : ByteArray}, goodKey k = true → k.size ≤ 16 := fun {k} hk => by
    unfold goodKey at hk
    simp only [Bool.and_eq_true, decide_eq_true_eq] at hk
    exact hk.2.2
  unfold rightU at h
  rw [if_neg h0] at h
  split at h
  · rename_i h1
    simp only [Bool.and_eq_true] at h
    exact ⟨.inl h1, hg h.1⟩
  · simp only [Bool.and_eq_true, decide_eq_true_eq] at h
    exact ⟨.inr h.1, hg h.2.1⟩
set_option maxHeartbeats 6400000 in
set_option maxRecDepth 100000 in
theorem undoPut_any (x : UndoV) (B : Nat) (w : World) (hs : UndoSm x) (hB : B ≤ w.heap.size) (ha : UndoOk w B x) :
    Calls Tryz.prog 115 #[.slice none 0 0, undoV x] w (SomeB w fun n => n ≤ 400 ∧ (undoZ x = true → n = 1)) := by
  obtain ⟨i0, hi, hz0, hz1, hz2'⟩ := info_parts info_u8R
  have HZ2 := hide hz2'
  clear hz2'
  have HC := hide (fun W (hb : Below w.heap.size w W) => undoCheck_any x B W (by have := hs.1; omega) (by have := hs.2.1; omega) (Nat.le_trans hB hb.size) (ha.below hb hB))
  have HCL := hide (fun W => cloneB_any none 0 0 [] 0 W (Nat.zero_le _) (by omega) Reads.none_ (fun _ => rfl) (fun _ h => by cases h))
  have HA := hide ha
  have hb1 := fun o => (Below.refl w.heap.size w).alloc (Nat.le_refl _) o
  cases hr : rightU x
  · have HE := hide (show undoE x = 1 by unfold undoE; rw [hr]; rfl)
    have HZ := hide (show undoZ x = true → (0 : Nat) = 1 from fun h => by rw [(undoZ_right h).1] at hr; cases hr)
    clear hr
    unfold undoV at *
    go_enter Tryz.func115, Tryz.ntmps115
    go_wp2_with fail
    refine (HC.out _ (hb1 _)).mono ?_
    rintro e w1 ⟨rfl, hb2⟩
    have hb2' := below_via (hb1 _) hb2 (by simp)
    rw [HE.out]
    go_wp2_with fail
    refine (HCL.out _).mono ?_
    rintro e w2 ⟨A2, c2, rfl, ho2, hb3⟩
    have HO2 := hide (show OwnB w2 w1.heap.size (.slice A2 0 c2) [] from ho2)
    have hb3' := below_via hb2' hb3 hb2'.size
    have hz := hb2'.size
    clear ho2
    go_wp2
    go_ret
    exact ⟨[], ⟨Nat.zero_le _, HZ.out⟩, A2, c2, rfl, rfl, HO2.out.low hz, HO2.out.reads.2, hb3'⟩
  · have HE := hide (show undoE x = 0 by unfold undoE; rw [hr]; rfl)
    have HSM := hide hs
    have HR := hide hr
    obtain ⟨a1, a2, a3, a4, ⟨c1, c2, c3, c4, c5⟩, cv, a7⟩ := x
    cases h0 : (a1 == 0)
    · have h0' : ¬ a1 = 0 := by simpa using h0
      obtain ⟨h13, hk16⟩ := rightU_key hr h0'
      replace h13 : a1 = 1 ∨ a1 = 2 ∨ a1 = 3 := h13
      replace hk16 : a2.size ≤ 16 := hk16
      have HZ := hide (show ∀ n : Nat, undoZ ⟨a1, a2, a3, a4, ⟨c1, c2, c3, c4, c5⟩, cv, a7⟩ = true → n = 1 from fun n h => absurd (undoZ_right h).2 h0')
      obtain ⟨A, n, c, hcv, _, _, hn, _⟩ := HA.out
      dsimp only at hcv hn
      subst hcv
      have HSP := hide (fun W (hb : Below w.heap.size w W) => slotPut_any a3 a4 ⟨c1, c2, c3, c4, c5⟩ A n c B W (by have := HSM.out.2.1; dsimp only at this; omega) (Nat.le_trans hB hb.size) hn (BytesAt.below HA.out hb hB))
      clear hn
      have hib : (itemB a3 a4 ⟨c1, c2, c3, c4, c5⟩).length ≤ 64 := by
        unfold itemB
        split
        · rename_i hh
          have h2 := hh.2
          unfold rightI at h2
          rw [if_neg hh.1] at h2
          simp only [Bool.and_eq_true] at h2
          have h3 := h2.2.1
          unfold goodKey at h3
          simp only [Bool.and_eq_true, decide_eq_true_eq] at h3
          have h4 := cellB_le34 h2.2.2
          have h5 : a4.data.toList.length = a4.size := by rw [Array.length_toList]; rfl
          simp only [List.length_append, List.length_cons, List.length_nil]
          omega
        · simp
      have hpl := pad64_length hib
      generalize pad64 (itemB a3 a4 ⟨c1, c2, c3, c4, c5⟩) = ib at *
      have b1 : (0 : Int) ≤ a1 := by omega
      have b2 : a1 ≤ 3 := by omega
      have HH := hide h13
      have HP := hide (fun W => put_gives 8 a7 W (by omega) (by omega))
      clear hr hs h13 hib
      unfold undoV at *
      dsimp only [itemV] at *
      have hk16' : (a2.size : Int) ≤ 16 := by omega
      go_enter Tryz.func115, Tryz.ntmps115
      go_wp2_with fail
      refine (HC.out _ (hb1 _)).mono ?_
      rintro e w1 ⟨rfl, hb2⟩
      have kb := Blk.via hb2 (Blk.new w 39 _)
      have q0 : w1.cell? ⟨w.heap.size, 0, none⟩ = some _ := kb.cell 0
      have q1 : w1.cell? ⟨w.heap.size, 1, none⟩ = some _ := kb.cell 1
      have l0 := kb.lt
      have hb2' := below_via (hb1 _) hb2 (by simp)
      have KB := hide kb
      clear kb hb2
      rw [HE.out]
      go_wp2_with (at_builtin; refine heldG ?_)
      refine gen2 (R := fun W => HeldG (wpList _ _ _ _ _ W)) (fun W kD kN hbW hzW => ?_)
      have hbw : Below w.heap.size w W := below_via hb2' hbW hb2'.size
      have hzw := hbw.size
      have hz2 := hb2'.size
      have hdb : Value.int .u8 a1 = byteV (UInt8.ofNat a1.toNat) := by
        rw [← byteV_ofNat (by omega)]
        congr 1
        omega
      rw [hdb] at kD
      rw [byteV_ofNat (m := a2.size) (by omega)] at kN
      have hoN : W.ownsRow w.heap.size 5 1 (.slice (some ⟨w1.heap.size + 1, 0, none⟩) 1 1) 1 [byteV (UInt8.ofNat a2.size)] := ownB_new (bs := [UInt8.ofNat a2.size]) (cur := [byteV (UInt8.ofNat a2.size)]) kN (by omega) rfl (Nat.le_refl _) (by unfold maxLen; omega) rfl rfl
      refine unheldG ?_
      at_builtin
      refine Lib.wpList_append_own_string _ rfl _ _ _ _ rfl w.heap.size 5 i0 Tryz.underlying33 Tryz.underlying9 hi hz0 hz1 HZ2.out _ 1 _ rfl hoN a2 rfl (by unfold maxLen; omega) (by omega) (by omega) ?_
      intro v3 w3 ho3 hg3 _
      replace hg3 : W.grownBy w3 (some (w1.heap.size + 1)) := hg3
      have hkl : a2.data.toList.length = a2.size := by rw [Array.length_toList]; rfl
      have hb3 : Below w.heap.size w w3 := hbw.grown hg3 hbw.size (fun q hq => by
        injection hq with hq
        omega)
      have kb3 := (Blk.via hbW KB.out).grown hg3 (by simp; omega)
      have kD3 := kD.grown hg3 (by simp)
      have ho3 : OwnB w3 w.heap.size v3 (UInt8.ofNat a2.size :: a2.data.toList) := by
        unfold OwnB
        rw [List.length_cons, hkl, Nat.add_comm]
        exact ho3
      obtain ⟨A3, c3', rfl, junk⟩ := own_slice ho3
      have hl3 : (UInt8.ofNat a2.size :: a2.data.toList).length = 1 + a2.size := by rw [List.length_cons, hkl, Nat.add_comm]
      have HN3 := hide ho3.bytes
      have HD3 := hide kD3
      have HL3 := hide hl3
      generalize (UInt8.ofNat a2.size :: a2.data.toList) = nb at *
      rw [hl3] at HN3 ⊢
      have hz3 := hb3.size
      have l3 := kD3.lt
      have hl3' : nb.length ≤ 17 := by omega
      clear junk ho3 hg3 q0 q1 hl3 hkl kD kN hoN kD3 hbW hzW
      have q0 : w3.cell? ⟨w.heap.size, 0, none⟩ = some _ := kb3.cell 0
      have q2 : w3.cell? ⟨w.heap.size, 2, none⟩ = some _ := kb3.cell 2
      have q3 : w3.cell? ⟨w.heap.size, 3, none⟩ = some _ := kb3.cell 3
      have q4 : w3.cell? ⟨w.heap.size, 4, none⟩ = some _ := kb3.cell 4
      have q5 : w3.cell? ⟨w.heap.size, 5, none⟩ = some _ := kb3.cell 5
      have q6 : w3.cell? ⟨w.heap.size, 6, none⟩ = some _ := kb3.cell 6
      have q7 : w3.cell? ⟨w.heap.size, 7, none⟩ = some _ := kb3.cell 7
      have q8 : w3.cell? ⟨w.heap.size, 8, none⟩ = some _ := kb3.cell 8
      have q9 : w3.cell? ⟨w.heap.size, 9, none⟩ = some _ := kb3.cell 9
      have l0 := kb3.lt
      clear kb3
      have HB3 := hide hb3
      clear hb3 hbw
      cases h1 : (a1 == 1)
      · go_wp2_with fail
        refine (HP.out _).mono ?_
        rintro e w4 ⟨A4, c4', rfl, hn4, ho4, hr4, hb4⟩
        have HO4 := hide ho4.bytes
        have hb4' := below_via HB3.out hb4 hz3
        have hz4 := hb4.size
        have HN4 := hide ((HN3.out.below hb4 (Nat.le_refl _)).more hz4)
        have HD4 := hide (Blk.via hb4 HD3.out)
        clear hn4 ho4 hr4
        go_wp2_with fail
        refine gen1 (R := fun W => Calls Tryz.prog 179 _ W _) (fun W kP hbP hzP => ?_)
        skip
        have hzw4 : w.heap.size ≤ w4.heap.size := (hb4').size
        have hl4 : (allB [((.slice none 0 0 : Value), []), (.slice (some ⟨w1.heap.size, 0, none⟩) 1 1, [UInt8.ofNat a1.toNat]), (.slice A3 (1 + a2.size) c3', nb), (.slice A4 8 c4', beB 8 a7)]).length ≤ 400 := by
          simp [allB, beB_length]; omega
        refine (concat_any _ 4 4 [(.slice none 0 0, []), (.slice (some ⟨w1.heap.size, 0, none⟩) 1 1, [UInt8.ofNat a1.toNat]), (.slice A3 (1 + a2.size) c3', nb), (.slice A4 8 c4', beB 8 a7)] W.heap.size W (Nat.le_refl _) (by omega) (by omega) ⟨rfl, (Reads.of_blk (size := 1) (n := 4) kP rfl).more (by omega), ?_⟩).mono ?_
        · intro p hp
          simp only [List.mem_cons, List.not_mem_nil, or_false] at hp
          rcases hp with rfl | rfl | rfl | rfl
          · exact bytes_none _ _
          · exact bytes_blk (bs := [UInt8.ofNat a1.toNat]) (Blk.via hbP HD4.out) (by have := HD4.out.lt; omega) (by simp) (by unfold maxLen; omega)
          · exact (HN4.out.below hbP (Nat.le_refl _)).more (by omega)
          · exact (HO4.out.below hbP (Nat.le_refl _)).more (by omega)
        · generalize allB _ = bs at hl4
          rintro e w6 ⟨A6, c6', rfl, hn6, ho6, hr6, hb6⟩
          have HO6 := hide ho6
          have HR6 := hide hr6
          have hbE := below_via (below_via hb4' hbP hzw4) hb6 (by omega)
          have hz6 : w.heap.size ≤ W.heap.size := by omega
          clear ho6 hr6 hn6
          have HL4 := hide hl4
          clear hl4
          go_wp2
          go_ret
          exact ⟨bs, ⟨HL4.out, HZ.out _⟩, A6, c6', rfl, rfl, HO6.out.low hz6, HR6.out, hbE⟩
      · have hi64 : (Tryz.prog.info? 233).map (·.size) = some (ib.map byteV).toArray.size := by
          rw [List.size_toArray, List.length_map, hpl]
          kernel_rfl
        have HI64 := hide hi64
        have HO64 := hide (row_one ib)
        have HZ64 := hide (show (64 : Nat) = (ib.map byteV).toArray.size by rw [List.size_toArray, List.length_map, hpl])
        obtain ⟨X, hX⟩ : ∃ X, X = (ib.map byteV).toArray := ⟨_, rfl⟩
        rw [← hX] at HSP HI64 HO64 HZ64
        have HX := hide hX
        clear hX hi64
        go_wp2_with fail
        refine (HSP.out _ HB3.out).mono ?_
        rintro e w4 ⟨rfl, hb4⟩
        go_wp2_with (refine wpList_store_row rfl 233 (.tmp 7) (.tmp 37) rfl w4.heap.size X rfl rfl 233 _ (Blk.new w4 _ _) HI64.out HZ64.out HO64.out ?_)
        refine nameW (w := World.setRow _ w4.heap.size X) (R := fun W => Calls Tryz.prog 179 _ (World.alloc W _) _) (fun w5 hw5 => ?_)
        have hs5 : w5.heap.size = w4.heap.size + 1 := by
          rw [hw5]
          simp [World.setRow]
        have kX5 : Blk w5 w4.heap.size 233 X := by
          rw [hw5]
          exact setRow_heap _ w4.heap.size _ _ _ _ (Blk.new w4 _ _)
        have hb5 : Below w4.heap.size w4 w5 := by
          rw [hw5]
          exact (touch_setRow _ w4.heap.size X).below ((Below.refl w4.heap.size w4).alloc (Nat.le_refl _) _) (Nat.le_refl _)
        have hx5 : BytesAt w5 w5.heap.size (.slice (some ⟨w4.heap.size, 0, none⟩) 64 64) ib := by
          rw [HX.out] at kX5
          have h := bytes_blk (B := w5.heap.size) (c := 64) kX5 kX5.lt (by omega) (by unfold maxLen; omega)
          rw [hpl] at h
          exact h
        have HO5 := hide hx5
        have hb45 := below_via (below_via HB3.out hb4 hz3) hb5 (by have := hb4.size; omega)
        have hz45 := hb45.size
        have hz5 := hb5.size
        have hz4 := hb4.size
        have HN5 := hide (((HN3.out.below hb4 (Nat.le_refl _)).more hz4).below hb5 (Nat.le_refl _) |>.more hz5)
        have HD5 := hide (Blk.via hb5 (Blk.via hb4 HD3.out))
        clear hw5 kX5 hb5 hx5 hb4 HSP HI64 HO64 HZ64
        have hib : ib.length = 64 := hpl
        refine gen1 (R := fun W => Calls Tryz.prog 179 _ W _) (fun W kP hbP hzP => ?_)
        rw [hs5] at kP
        have hzw4 : w.heap.size ≤ w5.heap.size := (hb45).size
        have hl4 : (allB [((.slice none 0 0 : Value), []), (.slice (some ⟨w1.heap.size, 0, none⟩) 1 1, [UInt8.ofNat a1.toNat]), (.slice A3 (1 + a2.size) c3', nb), (.slice (some ⟨w4.heap.size, 0, none⟩) 64 64, ib)]).length ≤ 400 := by
          (simp only [allB, List.flatMap_cons, List.flatMap_nil, List.length_append, List.length_nil, List.length_cons, hib]; omega)
        refine (concat_any _ 4 4 [(.slice none 0 0, []), (.slice (some ⟨w1.heap.size, 0, none⟩) 1 1, [UInt8.ofNat a1.toNat]), (.slice A3 (1 + a2.size) c3', nb), (.slice (some ⟨w4.heap.size, 0, none⟩) 64 64, ib)] W.heap.size W (Nat.le_refl _) (by omega) (by omega) ⟨rfl, (Reads.of_blk (size := 1) (n := 4) kP rfl).more (by omega), ?_⟩).mono ?_
        · intro p hp
          simp only [List.mem_cons, List.not_mem_nil, or_false] at hp
          rcases hp with rfl | rfl | rfl | rfl
          · exact bytes_none _ _
          · exact bytes_blk (bs := [UInt8.ofNat a1.toNat]) (Blk.via hbP HD5.out) (by have := HD5.out.lt; omega) (by simp) (by unfold maxLen; omega)
          · exact (HN5.out.below hbP (Nat.le_refl _)).more (by omega)
          · exact (HO5.out.below hbP (Nat.le_refl _)).more (by omega)
        · generalize allB _ = bs at hl4
          rintro e w6 ⟨A6, c6', rfl, hn6, ho6, hr6, hb6⟩
          have HO6 := hide ho6
          have HR6 := hide hr6
          have hbE := below_via (below_via hb45 hbP hzw4) hb6 (by omega)
          have hz6 : w.heap.size ≤ W.heap.size := by omega
          clear ho6 hr6 hn6
          have HL4 := hide hl4
          clear hl4
          go_wp2
          go_ret
          exact ⟨bs, ⟨HL4.out, HZ.out _⟩, A6, c6', rfl, rfl, HO6.out.low hz6, HR6.out, hbE⟩
    · have h0' : a1 = 0 := by simpa using h0
      subst h0'
      clear hr hs
      unfold undoV at *
      dsimp only at *
      go_enter Tryz.func115, Tryz.ntmps115
      go_wp2_with fail
      refine (HC.out _ (hb1 _)).mono ?_
      rintro e w1 ⟨rfl, hb2⟩
      have kb := Blk.via hb2 (Blk.new w 39 _)
      have q0 : w1.cell? ⟨w.heap.size, 0, none⟩ = some _ := kb.cell 0
      have l0 := kb.lt
      have hb2' := below_via (hb1 _) hb2 (by simp)
      clear kb
      rw [HE.out]
      go_wp2_with fail
      refine gen2 (R := fun W => Calls Tryz.prog 179 _ W _) (fun W kD kP hb hz => ?_)
      refine (concat_any _ 2 2 [(.slice none 0 0, []), (.slice (some ⟨w1.heap.size, 0, none⟩) 1 1, [0])] W.heap.size W (Nat.le_refl _) (by omega) (by simp [allB]) ⟨rfl, (Reads.of_blk (size := 1) (n := 2) kP rfl).more (by omega), ?_⟩).mono ?_
      · intro p hp
        simp only [List.mem_cons, List.not_mem_nil, or_false] at hp
        rcases hp with rfl | rfl
        · exact bytes_none _ _
        · exact bytes_blk (bs := [0]) kD (by omega) (by simp) (by unfold maxLen; omega)
      · rintro e w5 ⟨A5, c5', rfl, hn5, ho5, hr5, hb5⟩
        have HO5 := hide ho5
        have HR5 := hide hr5
        have hbW := below_via (below_via hb2' hb hb2'.size) hb5 (by have := hb2'.size; omega)
        have hz5 : w.heap.size ≤ W.heap.size := by have := hb2'.size; omega
        clear ho5 hr5 hn5
        go_wp2
        go_ret
        exact ⟨[0], ⟨by decide, fun _ => rfl⟩, A5, c5', rfl, rfl, HO5.out.low hz5, HR5.out, hbW⟩
end Go.Proofs.YtnanlaefehaifaaGreat
