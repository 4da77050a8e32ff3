/-
  Texts of this claim, joined: KQ, KR, KS.
-/
import Derived.Test.YtnanlaefehaifaaGreatAu06
set_option maxHeartbeats 6400000
set_option maxRecDepth 100000
namespace Go.Proofs.YtnanlaefehaifaaGreat
open Go.RowKit
theorem wpList_appS {ops : Array Oper} {rest : List Oper} {o : Oper} {a : Act} {w : World} {Q : Exit → Act → World → Prop} (hgd : o.guard = none) (s x : Operand)
    (ho : o.op = .call { callee := .builtin .append, args := #[s, x], argTypes := #[33, 9] })
    (L : Nat) (A : Option Addr) (n c : Nat) (bs : List UInt8) (hs : a.eval s = .slice A n c) (hown : OwnB w L (.slice A n c) bs) (hn : n = bs.length)
    (k : ByteArray) (hx : a.eval x = .string k) (h63 : n + k.size ≤ 1000000)
    (w0 : World) (hb : Below L w0 w) (hL : L ≤ w.heap.size)
    (h : ∀ A' c' w', OwnB w' L (.slice A' (n + k.size) c') (bs ++ k.data.toList) → Below L w0 w' → w.grownBy w' (Value.slice A n c).ownBlock → wpList Tryz.prog ops Q rest (a.put o.dst (.slice A' (n + k.size) c')) w') : wpList Tryz.prog ops Q (o :: rest) a w := by
  obtain ⟨i0, hi, hz0, hz1, hz2⟩ := info_parts info_u8R
  subst hn
  refine Lib.wpList_append_own_string w hgd s x _ _ ho L 5 i0 Tryz.underlying33 Tryz.underlying9 hi hz0 hz1 hz2 _ bs.length _ hs hown k hx (by unfold maxLen; omega) (by omega) hL ?_
  intro v' w' ho' hg' _
  have hkl : k.data.toList.length = k.size := by rw [Array.length_toList]; rfl
  have ho9 : OwnB w' L v' (bs ++ k.data.toList) := by
    unfold OwnB
    rw [List.length_append, hkl, List.map_append]
    exact ho'
  obtain ⟨A', c', rfl, _⟩ := own_slice ho9
  rw [List.length_append, hkl] at ho9 ⊢
  exact h A' c' w' ho9 (hb.grown hg' hL (fun q hq => (OwnB.lt hown q hq).1)) hg'
theorem two_own {W W' : World} {L : Nat} {x y : UInt8} (k : Blk W' W.heap.size 5 #[byteV x, byteV y]) (hL : L ≤ W.heap.size) : OwnB W' L (.slice (some ⟨W.heap.size, 0, none⟩) 2 2) [x, y] :=
  own_new (cur := [byteV x, byteV y]) k hL rfl (Nat.le_refl _) (by unfold maxLen; omega) rfl rfl
def lenV : Value → Nat
  | .slice _ n _ => n
  | _ => 0
theorem rightI_st {st : Int} {k : ByteArray} {d : CellD} (h : rightI st k d = true) (h0 : st ≠ 0) : st = 1 ∨ st = 2 := by
  unfold rightI at h
  rw [if_neg h0] at h
  simp only [Bool.and_eq_true, decide_eq_true_eq] at h
  exact h.1
theorem itemBytesR_any (st : Int) (k : ByteArray) (d : CellD) (A : Option Addr) (n c : Nat) (B : Nat) (w : World) (hk : k.size ≤ 1000000) (hB : B ≤ w.heap.size) (hn : n = d.data.length) (ha : BytesAt w B (.slice A n c) d.data) :
    Calls Tryz.prog 193 #[itemV st k d (.slice A n c)] w (GivesB w 64 (pad64 (itemB st k d))) := by
  have HRT := hide (fun W (hb : Below w.heap.size w W) => itemRightR_any st k d (.slice A n c) B W hk (Nat.le_trans hB hb.size) (ha.below hb hB))
  have HCB := hide (fun W (hb : Below w.heap.size w W) => cellBytesR_any d A n c B W (Nat.le_trans hB hb.size) hn (by
    obtain ⟨A', n', c', e, _, _, _, _, hr⟩ := ha.below hb hB
    injection e with e1 e2 e3
    subst e1 e2
    exact hr))
  unfold itemV at *
  clear ha hn
  go_enter Tryz.func193, Tryz.ntmps193
  go_upto_region 2 with (fail)
  refine gen1 (R := fun W => Code.wp _ _ _ _ W) (fun W1 kb hb1 hz1 => ?_)
  have HK1 := hide kb
  have HB1 := hide hb1
  clear kb hb1
  have q0 := (HK1.out).cell 0
  have q1 := (HK1.out).cell 1
  have q2 := (HK1.out).cell 2
  have q3 := (HK1.out).cell 3
  have q4 := (HK1.out).cell 4
  have q5 := (HK1.out).cell 5
  have q6 := (HK1.out).cell 6
  have lq := (HK1.out).lt
  cases h0 : (st != 0)
  · have HI := hide (show itemB st k d = [] by
      have h1 : st = 0 := by simpa using h0
      unfold itemB
      rw [if_neg (fun h => h.1 h1)])
    go_wp2
    go_loopw [3] (fun v wr => ∃ (kk : Nat) (A : Option Addr) (m c : Nat), v = .slice A m c ∧ m = ([]).length + kk ∧ m ≤ 64 ∧ Hid (OwnB wr w.heap.size (.slice A m c) (([]) ++ List.replicate kk 0)) ∧ Hid (Below w.heap.size w wr)) (fun v _ => 64 - lenV v)
    case atStart => exact ⟨0, _, _, _, rfl, by simp, by simp, hide (by rw [List.replicate_zero, List.append_nil]; exact (OwnB.nil _ _)), hide HB1.out⟩
    case round =>
      obtain ⟨kk, A1, m, c1, rfl, hm, hm64, hO, hL⟩ := hrel
      have hM := hide hm
      clear hm
      have hz := hL.out.size
      by_cases hlt : (m : Int) < 64
      · have hq3 := Blk.new wr 5 #[byteV 0]
        have hr3 := Reads.of_blk (n := 1) (size := 1) hq3 rfl
        have HR3 := hide hr3
        clear hq3 hr3
        go_wp2_with (at_builtin; refine heldG ?_)
        refine unheldG ?_
        at_builtin
        have ha3 : Below wr.heap.size wr (wr.alloc (.cells #[.int .u8 0] 5)) := (Below.refl _ _).alloc (Nat.le_refl _) _
        refine wpList_app rfl _ _ rfl w.heap.size _ m _ _ rfl (hO.out.via ha3) (by rw [List.length_append, List.length_replicate, hM.out]) (wr.heap.size + 1) _ 1 1 [0] rfl HR3.out rfl (by omega) w (hL.out.trans (ha3.mono hz)) (by simp; omega) ?_
        intro A4 c4 w4 ho4 hb4 hg4
        have HO4 := hide (show OwnB w4 w.heap.size (.slice A4 (m + 1) c4) (([]) ++ List.replicate (kk + 1) 0) by
          rw [List.replicate_succ', ← List.append_assoc]
          exact ho4)
        have HB4 := hide hb4
        clear ho4 hb4 hg4 ha3
        go_wp2
        go_roundw
        case rel => exact ⟨kk + 1, A4, m + 1, c4, rfl, by rw [hM.out]; omega, by omega, HO4, HB4⟩
        case measure => simp [lenV]; omega
      · obtain rfl : m = 64 := by omega
        go_wp2
        go_ret
        have hp : pad64 ([]) = ([]) ++ List.replicate kk 0 := by
          unfold pad64
          rw [show 64 - ([]).length = kk by have := hM.out; omega]
        rw [HI.out, hp]
        exact ⟨A1, c1, rfl, by rw [List.length_append, List.length_replicate, ← hM.out], hO.out, hO.out.reads.2, hL.out⟩
  have hst0 : st ≠ 0 := by simpa using h0
  cases hr : rightI st k d
  · have HI := hide (show itemB st k d = [] by
      unfold itemB
      rw [hr, if_neg (by simp)])
    rw [hr] at HRT
    clear hr
    go_wp2_with (go_at_call 195; refine (HRT.out _ HB1.out).mono ?_; rintro e W2 ⟨rfl, hb2⟩)
    have HL2 := hide (HB1.out.trans (hb2.mono HB1.out.size))
    clear hb2
    go_loopw [3] (fun v wr => ∃ (kk : Nat) (A : Option Addr) (m c : Nat), v = .slice A m c ∧ m = ([]).length + kk ∧ m ≤ 64 ∧ Hid (OwnB wr w.heap.size (.slice A m c) (([]) ++ List.replicate kk 0)) ∧ Hid (Below w.heap.size w wr)) (fun v _ => 64 - lenV v)
    case atStart => exact ⟨0, _, _, _, rfl, by simp, by simp, hide (by rw [List.replicate_zero, List.append_nil]; exact (OwnB.nil _ _)), hide HL2.out⟩
    case round =>
      obtain ⟨kk, A1, m, c1, rfl, hm, hm64, hO, hL⟩ := hrel
      have hM := hide hm
      clear hm
      have hz := hL.out.size
      by_cases hlt : (m : Int) < 64
      · have hq3 := Blk.new wr 5 #[byteV 0]
        have hr3 := Reads.of_blk (n := 1) (size := 1) hq3 rfl
        have HR3 := hide hr3
        clear hq3 hr3
        go_wp2_with (at_builtin; refine heldG ?_)
        refine unheldG ?_
        at_builtin
        have ha3 : Below wr.heap.size wr (wr.alloc (.cells #[.int .u8 0] 5)) := (Below.refl _ _).alloc (Nat.le_refl _) _
        refine wpList_app rfl _ _ rfl w.heap.size _ m _ _ rfl (hO.out.via ha3) (by rw [List.length_append, List.length_replicate, hM.out]) (wr.heap.size + 1) _ 1 1 [0] rfl HR3.out rfl (by omega) w (hL.out.trans (ha3.mono hz)) (by simp; omega) ?_
        intro A4 c4 w4 ho4 hb4 hg4
        have HO4 := hide (show OwnB w4 w.heap.size (.slice A4 (m + 1) c4) (([]) ++ List.replicate (kk + 1) 0) by
          rw [List.replicate_succ', ← List.append_assoc]
          exact ho4)
        have HB4 := hide hb4
        clear ho4 hb4 hg4 ha3
        go_wp2
        go_roundw
        case rel => exact ⟨kk + 1, A4, m + 1, c4, rfl, by rw [hM.out]; omega, by omega, HO4, HB4⟩
        case measure => simp [lenV]; omega
      · obtain rfl : m = 64 := by omega
        go_wp2
        go_ret
        have hp : pad64 ([]) = ([]) ++ List.replicate kk 0 := by
          unfold pad64
          rw [show 64 - ([]).length = kk by have := hM.out; omega]
        rw [HI.out, hp]
        exact ⟨A1, c1, rfl, by rw [List.length_append, List.length_replicate, ← hM.out], hO.out, hO.out.reads.2, hL.out⟩
  have hst := rightI_st hr hst0
  have hks : k.size ≤ 16 := by
    unfold rightI at hr
    rw [if_neg hst0] at hr
    simp only [Bool.and_eq_true] at hr
    have h3 := hr.2.1
    unfold goodKey at h3
    simp only [Bool.and_eq_true, decide_eq_true_eq] at h3
    exact h3.2.2
  have hcl : (cellB d).length ≤ 34 := by
    unfold rightI at hr
    rw [if_neg hst0] at hr
    simp only [Bool.and_eq_true] at hr
    exact cellB_le34 hr.2.2
  have HI := hide (show itemB st k d = [UInt8.ofNat st.toNat, UInt8.ofNat k.size] ++ k.data.toList ++ cellB d by unfold itemB; rw [hr, if_pos ⟨hst0, rfl⟩])
  rw [hr] at HRT
  have hsb : Value.int .u8 st = byteV (UInt8.ofNat st.toNat) := by
    rw [← byteV_ofNat (by rcases hst with rfl | rfl <;> decide)]
    rcases hst with rfl | rfl <;> rfl
  have hst1 : 1 ≤ st := by rcases hst with rfl | rfl <;> decide
  have hst2 : st ≤ 2 := by rcases hst with rfl | rfl <;> decide
  have HSB := hide hsb
  clear hr hst hsb hst0
  go_upto_region 3 with (go_at_call 195; refine (HRT.out _ HB1.out).mono ?_; rintro e W2 ⟨rfl, hb2⟩)
  have HL2 := hide (HB1.out.trans (hb2.mono HB1.out.size))
  have HK2 := hide (Blk.via hb2 HK1.out)
  clear hb2 q0 q1 q2 q3 q4 q5 q6 lq
  have q0 := (HK2.out).cell 0
  have q1 := (HK2.out).cell 1
  have q2 := (HK2.out).cell 2
  have q3 := (HK2.out).cell 3
  have q4 := (HK2.out).cell 4
  have q5 := (HK2.out).cell 5
  have q6 := (HK2.out).cell 6
  have lq := (HK2.out).lt
  have hw2 := HL2.out.size
  have hk0 : (0 : Int) ≤ k.size := by omega
  have hk1 : (k.size : Int) < 256 := by omega
  go_upto_region 4 with (at_builtin; refine heldG ?_)
  have hq3 := Blk.new W2 5 #[.int .u8 st, .int .u8 ((k.size : Nat) : Int)]
  rw [HSB.out, byteV_ofNat (show k.size < 256 by omega)] at hq3
  have hr3 := Reads.of_blk (n := 2) (size := 1) hq3 rfl
  have ha3 : Below W2.heap.size W2 (W2.alloc (.cells #[.int .u8 st, .int .u8 ((k.size : Nat) : Int)] 5)) := (Below.refl _ _).alloc (Nat.le_refl _) _
  refine unheldG ?_
  at_builtin
  refine wpList_app rfl _ _ rfl w.heap.size _ 0 0 [] rfl (OwnB.nil _ _) rfl (W2.heap.size + 1) _ 2 2 [UInt8.ofNat st.toNat, UInt8.ofNat k.size] rfl (by rw [HSB.out, byteV_ofNat (show k.size < 256 by omega)]; exact hr3) rfl (by omega) w (HL2.out.trans (ha3.mono hw2)) (by simp; omega) ?_
  intro A4 c4 W4 ho4 hl4 hg4
  have HK4 := hide ((Blk.via ha3 HK2.out).grown hg4 (by simp [Value.ownBlock]))
  have HO4 := hide (show OwnB W4 w.heap.size (.slice A4 2 c4) [UInt8.ofNat st.toNat, UInt8.ofNat k.size] from ho4)
  have HL4 := hide hl4
  clear hq3 hr3 ha3 ho4 hl4 hg4 q0 q1 q2 q3 q4 q5 q6 lq
  have q0 := (HK4.out).cell 0
  have q1 := (HK4.out).cell 1
  have q2 := (HK4.out).cell 2
  have q3 := (HK4.out).cell 3
  have q4 := (HK4.out).cell 4
  have q5 := (HK4.out).cell 5
  have q6 := (HK4.out).cell 6
  have lq := (HK4.out).lt
  go_upto_region 5 with (at_builtin; refine heldG ?_)
  refine unheldG ?_
  at_builtin
  refine wpList_appS rfl _ _ rfl w.heap.size _ 2 _ _ rfl HO4.out rfl k rfl (by omega) w HL4.out HL4.out.size ?_
  intro A5 c5 W5 ho5 hl5 hg5
  have HK5 := hide (HK4.out.keepB HO4.out (by decide) hg5)
  have HO5 := hide ho5
  have HL5 := hide hl5
  clear ho5 hl5 hg5 q0 q1 q2 q3 q4 q5 q6 lq
  have q0 := (HK5.out).cell 0
  have q1 := (HK5.out).cell 1
  have q2 := (HK5.out).cell 2
  have q3 := (HK5.out).cell 3
  have q4 := (HK5.out).cell 4
  have q5 := (HK5.out).cell 5
  have q6 := (HK5.out).cell 6
  have lq := (HK5.out).lt
  go_upto_region 5 with (fail)
  go_wp2_with (first
    | (go_at_call 234; refine (HCB.out _ HL5.out).mono ?_; rintro e W6 ⟨A6, c6, rfl, hn6, ho6, hr6, hb6⟩)
    | (at_builtin; refine heldG ?_))
  have HR6 := hide hr6
  have HN6 := hide hn6
  have hl6 : Below w.heap.size w W6 := HL5.out.trans (hb6.mono HL5.out.size)
  have HL6 := hide hl6
  have HO6 := hide (HO5.out.via hb6)
  clear hn6 ho6 hr6 hb6 hl6
  refine unheldG ?_
  at_builtin
  refine wpList_app rfl _ _ rfl w.heap.size _ (2 + k.size) _ _ rfl HO6.out (by simp; omega) W6.heap.size _ _ _ (cellB d) rfl HR6.out rfl (by omega) w HL6.out HL6.out.size ?_
  intro A7 c7 W7 ho7 hl7 hg7
  have HO7 := hide ho7
  have HL7 := hide hl7
  have hil : ([UInt8.ofNat st.toNat, UInt8.ofNat k.size] ++ k.data.toList ++ cellB d).length = 2 + k.size + (cellB d).length := by
    have hkl : k.data.toList.length = k.size := by rw [Array.length_toList]; rfl
    rw [List.length_append, List.length_append, hkl]
    simp
  have HIL := hide hil
  clear ho7 hl7 hg7 q0 q1 q2 q3 q4 q5 q6 lq hil
  generalize hX : ([UInt8.ofNat st.toNat, UInt8.ofNat k.size] ++ k.data.toList ++ cellB d) = X at *
  generalize (cellB d).length = cl at *
  clear hX
  generalize hm7 : 2 + k.size + cl = m7 at *
  have hm7' : m7 ≤ 64 := by omega
  go_wp2
  go_loopw [3] (fun v wr => ∃ (kk : Nat) (A : Option Addr) (m c : Nat), v = .slice A m c ∧ m = (X).length + kk ∧ m ≤ 64 ∧ Hid (OwnB wr w.heap.size (.slice A m c) ((X) ++ List.replicate kk 0)) ∧ Hid (Below w.heap.size w wr)) (fun v _ => 64 - lenV v)
  case atStart => exact ⟨0, _, _, _, rfl, by have := HIL.out; omega, by have := HIL.out; omega, hide (by rw [List.replicate_zero, List.append_nil]; exact HO7.out), hide HL7.out⟩
  case round =>
    obtain ⟨kk, A1, m, c1, rfl, hm, hm64, hO, hL⟩ := hrel
    have hM := hide hm
    clear hm
    have hz := hL.out.size
    by_cases hlt : (m : Int) < 64
    · have hq3 := Blk.new wr 5 #[byteV 0]
      have hr3 := Reads.of_blk (n := 1) (size := 1) hq3 rfl
      have HR3 := hide hr3
      clear hq3 hr3
      go_wp2_with (at_builtin; refine heldG ?_)
      refine unheldG ?_
      at_builtin
      have ha3 : Below wr.heap.size wr (wr.alloc (.cells #[.int .u8 0] 5)) := (Below.refl _ _).alloc (Nat.le_refl _) _
      refine wpList_app rfl _ _ rfl w.heap.size _ m _ _ rfl (hO.out.via ha3) (by rw [List.length_append, List.length_replicate, hM.out]) (wr.heap.size + 1) _ 1 1 [0] rfl HR3.out rfl (by omega) w (hL.out.trans (ha3.mono hz)) (by simp; omega) ?_
      intro A4 c4 w4 ho4 hb4 hg4
      have HO4 := hide (show OwnB w4 w.heap.size (.slice A4 (m + 1) c4) ((X) ++ List.replicate (kk + 1) 0) by
        rw [List.replicate_succ', ← List.append_assoc]
        exact ho4)
      have HB4 := hide hb4
      clear ho4 hb4 hg4 ha3
      go_wp2
      go_roundw
      case rel => exact ⟨kk + 1, A4, m + 1, c4, rfl, by rw [hM.out]; omega, by omega, HO4, HB4⟩
      case measure => simp [lenV]; omega
    · obtain rfl : m = 64 := by omega
      go_wp2
      go_ret
      have hp : pad64 (X) = (X) ++ List.replicate kk 0 := by
        unfold pad64
        rw [show 64 - (X).length = kk by have := hM.out; omega]
      rw [HI.out, hp]
      exact ⟨A1, c1, rfl, by rw [List.length_append, List.length_replicate, ← hM.out], hO.out, hO.out.reads.2, hL.out⟩
end Go.Proofs.YtnanlaefehaifaaGreat
namespace Go.Proofs.YtnanlaefehaifaaGreat
open Go.RowKit
theorem itemB_zero (k : ByteArray) (d : CellD) : itemB 0 k d = [] := by unfold itemB; rw [if_neg (fun h => h.1 rfl)]
theorem slotGetR_any (A0 : Option Addr) (c : Nat) (bs : List UInt8) (B : Nat) (w : World) (hB : B ≤ w.heap.size) (hc64 : 64 ≤ c) (hcm : c ≤ maxLen) (hl : bs.length = 64) (hr : Reads w B 1 A0 64 (bs.map byteV)) :
    Calls Tryz.prog 133 #[.slice A0 64 c] w (SlotGP w (slotG bs)) := by
  have HAT := hide (fun (at_ : Nat) (W : World) (hin : at_ + 1 ≤ 64) (hb : Below w.heap.size w W) => atR_any A0 64 c bs at_ 1 B W (by omega) hl.symm (hr.below hb hB) (by omega) (by omega) hin)
  have HRW := hide (fun (W : World) (hb : Below w.heap.size w W) => hr.below hb hB)
  obtain ⟨b, o, rfl, hbB, _⟩ := hr.plain (by omega) (by omega)
  obtain ⟨x0, hx0⟩ : ∃ x, bs[0]? = some x := ⟨_, List.getElem?_eq_getElem (by omega)⟩
  obtain ⟨x1, hx1⟩ : ∃ x, bs[1]? = some x := ⟨_, List.getElem?_eq_getElem (by omega)⟩
  have H0 := hide (show slotS bs = x0.toNat by unfold slotS; rw [List.getD_eq_getElem?_getD, hx0]; rfl)
  have H1 := hide (show slotN bs = x1.toNat by unfold slotN; rw [List.getD_eq_getElem?_getD, hx1]; rfl)
  have N0 := hide (numI_one bs 0 x0 hx0)
  have N1 := hide (numI_one bs 1 x1 hx1)
  have hxl0 := x0.toNat_lt
  have hxl1 := x1.toNat_lt
  have HL := hide hl
  have HCM := hide hcm
  have HRD := hide (fun (W : World) (m : Nat) (hb : Below w.heap.size w W) (hm : m ≤ 16) => (show Reads W B 1 (some ⟨b, o + (2 + m), none⟩) (62 - m) ((bs.drop (2 + m)).map byteV) by
    have h := (hr.below hb hB).cut (k := 2 + m) (cap := c) (by omega) (by omega)
    rw [if_neg (by omega), Option.map_some, add_plain, Nat.mul_one] at h
    rw [List.map_drop, show 62 - m = 64 - (2 + m) by omega]
    exact h))
  have HKY := hide (fun (W : World) (m : Nat) (hb : Below w.heap.size w W) (hm : m ≤ 16) => (show Reads W B 1 (some ⟨b, o + 2, none⟩) m ((cutB bs 2 m).map byteV) by
    have h := ((hr.below hb hB).cut (k := 2) (cap := c) (by omega) (by omega)).take (k := m) (by omega)
    rw [if_neg (by omega), Option.map_some, add_plain, Nat.mul_one, Nat.mul_one] at h
    unfold cutB
    rw [List.map_take, List.map_drop]
    exact h))
  generalize x0.toNat = n0 at *
  generalize x1.toNat = n1 at *
  clear hx0 hx1 hr hl hcm
  go_enter Tryz.func133, Tryz.ntmps133
  go_upto_region 1 with (fail)
  refine gen1 (R := fun W => Code.wp _ _ _ _ W) (fun W1 kR hb1 hz1 => ?_)
  have HKR := hide kR
  have HB1 := hide hb1
  have hA0 := HAT.out 0 W1 (by omega) hb1
  have hA1 := HAT.out 1 W1 (by omega) hb1
  rw [N0.out] at hA0
  rw [N1.out] at hA1
  have HA0 := hide hA0
  have HA1 := hide hA1
  clear kR hb1 hA0 hA1
  go_upto_region 2 with (go_at_call 132; refine HA0.out.mono ?_; rintro e w' ⟨rfl, hw'⟩; obtain rfl := hw'.symm)
  go_upto_region 3 with (go_at_call 132; refine HA1.out.mono ?_; rintro e w' ⟨rfl, hw'⟩; obtain rfl := hw'.symm)
  cases h0 : (((n0 : Nat) : Int) == 0)
  rotate_left
  · have hn0 : n0 = 0 := by have := h0; simp at this; omega
    have HBY := hide (show Calls Tryz.prog 193 #[.agg #[.int .i64 0, .string ⟨#[]⟩, .int .i64 0, .slice none 0 0, .int .i64 0, .int .i64 0, .int .i64 0]] W1 (GivesB W1 64 (pad64 [])) from by
      have h := itemBytesR_any 0 ⟨#[]⟩ cell0 none 0 0 0 W1 (by decide) (Nat.zero_le _) rfl (bytes_none _ _)
      rw [itemB_zero] at h
      exact h)
    have hss : slotS bs = 0 := by rw [H0.out, hn0]
    have HSS := hide hss
    clear hss hn0
    go_upto_region 4 with (fail)
    go_wp2_with fail
    refine HBY.out.mono ?_
    rintro e W2 ⟨A2, c2, rfl, hn2, ho2, hr2, hb2⟩
    have HSM := hide (Same_any (some ⟨b, o, none⟩) A2 64 c 64 c2 bs (pad64 []) W2.heap.size W2 ((HRW.out W2 (HB1.out.trans (hb2.mono HB1.out.size))).more (Nat.le_trans hB (HB1.out.trans (hb2.mono HB1.out.size)).size)) hr2)
    have HKR2 := hide (Blk.via hb2 HKR.out)
    have HL2 := hide (HB1.out.trans (hb2.mono HB1.out.size))
    clear hn2 ho2 hr2 hb2
    have c20 := (HKR2.out).cell 0
    have c21 := (HKR2.out).cell 1
    have c22 := (HKR2.out).cell 2
    have c23 := (HKR2.out).cell 3
    have c24 := (HKR2.out).cell 4
    have c25 := (HKR2.out).cell 5
    have c26 := (HKR2.out).cell 6
    have f20 := (HKR2.out).frozen 0
    have f21 := (HKR2.out).frozen 1
    have f22 := (HKR2.out).frozen 2
    have f23 := (HKR2.out).frozen 3
    have f24 := (HKR2.out).frozen 4
    have f25 := (HKR2.out).frozen 5
    have f26 := (HKR2.out).frozen 6
    have l20 := (HKR2.out).lt
    by_cases hz : bs = pad64 []
    · have HGG := hide (show slotG bs = some item0 by unfold slotG; rw [zeros64K, if_pos hz])
      rw [show (bs == pad64 []) = true by rw [hz]; exact beq_self_eq_true _] at HSM
      clear hz
      go_wp2_with (go_at_call 69; refine HSM.out.mono ?_; rintro e w' ⟨rfl, hw'⟩; obtain rfl := hw'.symm)
      refine bodyPost_ret (results_row_1 Tryz.results133 _ _ w.heap.size #[.int .i64 0, .string ⟨#[]⟩, .int .i64 0, .slice none 0 0, .int .i64 0, .int .i64 0, .int .i64 0] rfl (run_loadVar_row _ _ _ _ #[.int .i64 0, .string ⟨#[]⟩, .int .i64 0, .slice none 0 0, .int .i64 0, .int .i64 0, .int .i64 0] (0, 0) _ (((((((Blk.set_ HKR2.out 0 _).set_ 1 _).set_ 2 _).set_ 3 _).set_ 4 _).set_ 5 _).set_ 6 _) Tryz.underlying37 rfl info_itemK)) rfl ⟨?_, (((((((Below.setCell HL2.out (p := ⟨w.heap.size, 0, none⟩) (Nat.le_refl _) _).setCell (p := ⟨w.heap.size, 1, none⟩) (Nat.le_refl _) _).setCell (p := ⟨w.heap.size, 2, none⟩) (Nat.le_refl _) _).setCell (p := ⟨w.heap.size, 3, none⟩) (Nat.le_refl _) _).setCell (p := ⟨w.heap.size, 4, none⟩) (Nat.le_refl _) _).setCell (p := ⟨w.heap.size, 5, none⟩) (Nat.le_refl _) _).setCell (p := ⟨w.heap.size, 6, none⟩) (Nat.le_refl _) _)⟩
      exact .inr ⟨item0, .slice none 0 0, HGG.out, rfl, bytes_none _ _⟩
    · have HGG := hide (show slotG bs = none from slotG_zero HSS.out hz)
      rw [show (bs == pad64 []) = false by rw [beq_eq_false_iff_ne]; exact hz] at HSM
      clear hz
      go_wp2_with (go_at_call 69; refine HSM.out.mono ?_; rintro e w' ⟨rfl, hw'⟩; obtain rfl := hw'.symm)
      refine bodyPost_ret (results_row_1 Tryz.results133 _ _ w.heap.size #[.int .i64 0, .string ⟨#[]⟩, .int .i64 0, .slice none 0 0, .int .i64 0, .int .i64 0, .int .i64 0] rfl (run_loadVar_row _ _ _ _ #[.int .i64 0, .string ⟨#[]⟩, .int .i64 0, .slice none 0 0, .int .i64 0, .int .i64 0, .int .i64 0] (0, 0) _ (((((((Blk.set_ HKR2.out 0 _).set_ 1 _).set_ 2 _).set_ 3 _).set_ 4 _).set_ 5 _).set_ 6 _) Tryz.underlying37 rfl info_itemK)) rfl ⟨?_, (((((((Below.setCell HL2.out (p := ⟨w.heap.size, 0, none⟩) (Nat.le_refl _) _).setCell (p := ⟨w.heap.size, 1, none⟩) (Nat.le_refl _) _).setCell (p := ⟨w.heap.size, 2, none⟩) (Nat.le_refl _) _).setCell (p := ⟨w.heap.size, 3, none⟩) (Nat.le_refl _) _).setCell (p := ⟨w.heap.size, 4, none⟩) (Nat.le_refl _) _).setCell (p := ⟨w.heap.size, 5, none⟩) (Nat.le_refl _) _).setCell (p := ⟨w.heap.size, 6, none⟩) (Nat.le_refl _) _)⟩
      exact .inl ⟨HGG.out, rfl⟩
  have hbz : bs ≠ pad64 [] := by
    intro hz
    have h1 := H0.out
    rw [hz] at h1
    have h2 : n0 = 0 := by rw [← h1]; rfl
    rw [h2] at h0
    cases h0
  have HG1 := hide (show slotG bs = (if 16 < n1 then none else slotD bs (cellG (bs.drop (2 + n1)))) by
    unfold slotG
    rw [zeros64K, if_neg hbz, H1.out])
  clear hbz
  by_cases h16 : (16 : Int) < n1
  · have HGG := hide (show slotG bs = none by rw [HG1.out, if_pos (by omega)])
    have c20 := (HKR.out).cell 0
    have c21 := (HKR.out).cell 1
    have c22 := (HKR.out).cell 2
    have c23 := (HKR.out).cell 3
    have c24 := (HKR.out).cell 4
    have c25 := (HKR.out).cell 5
    have c26 := (HKR.out).cell 6
    have f20 := (HKR.out).frozen 0
    have f21 := (HKR.out).frozen 1
    have f22 := (HKR.out).frozen 2
    have f23 := (HKR.out).frozen 3
    have f24 := (HKR.out).frozen 4
    have f25 := (HKR.out).frozen 5
    have f26 := (HKR.out).frozen 6
    have l20 := (HKR.out).lt
    go_wp2
    refine bodyPost_ret (results_row_1 Tryz.results133 _ _ w.heap.size #[.int .i64 0, .string ⟨#[]⟩, .int .i64 0, .slice none 0 0, .int .i64 0, .int .i64 0, .int .i64 0] rfl (run_loadVar_row _ _ _ _ #[.int .i64 0, .string ⟨#[]⟩, .int .i64 0, .slice none 0 0, .int .i64 0, .int .i64 0, .int .i64 0] (0, 0) _ (((((((Blk.set_ HKR.out 0 _).set_ 1 _).set_ 2 _).set_ 3 _).set_ 4 _).set_ 5 _).set_ 6 _) Tryz.underlying37 rfl info_itemK)) rfl ⟨?_, (((((((Below.setCell HB1.out (p := ⟨w.heap.size, 0, none⟩) (Nat.le_refl _) _).setCell (p := ⟨w.heap.size, 1, none⟩) (Nat.le_refl _) _).setCell (p := ⟨w.heap.size, 2, none⟩) (Nat.le_refl _) _).setCell (p := ⟨w.heap.size, 3, none⟩) (Nat.le_refl _) _).setCell (p := ⟨w.heap.size, 4, none⟩) (Nat.le_refl _) _).setCell (p := ⟨w.heap.size, 5, none⟩) (Nat.le_refl _) _).setCell (p := ⟨w.heap.size, 6, none⟩) (Nat.le_refl _) _)⟩
    exact .inl ⟨HGG.out, rfl⟩
  have HGC := hide (show slotG bs = slotD bs (cellG (bs.drop (2 + n1))) by rw [HG1.out, if_neg (by omega)])
  have h16n : n1 ≤ 16 := by omega
  have i1 : (2 : Int) ≤ 2 + (n1 : Int) := by omega
  have i2 : 2 + (n1 : Int) ≤ 64 := by omega
  have i3 : 2 + (n1 : Int) ≤ c := by omega
  have i0 : (0 : Int) ≤ 2 + (n1 : Int) := by omega
  have i4 : ¬ (c = 2 + n1) := by omega
  have i5 : ¬ (c = 2) := by omega
  go_upto_region 9 with (fail)
  have HCG := hide (fun (n cc : Nat) (hn : n = 62 - n1) (hc : cc = c - (2 + n1)) => (show Calls Tryz.prog 194 #[.slice (some ⟨b, o + (2 + n1), none⟩) n cc] W1 (CellGP W1 (cellG (bs.drop (2 + n1)))) by
    subst hn hc
    exact cellGetR_any (some ⟨b, o + (2 + n1), none⟩) (62 - n1) (c - (2 + n1)) (bs.drop (2 + n1)) B W1 (Nat.le_trans hB HB1.out.size) (by omega) (by omega) (by omega) (by have := HCM.out; omega) (by rw [List.length_drop, HL.out]; omega) (HRD.out W1 n1 HB1.out h16n)))
  go_wp2_with fail
  refine (HCG.out _ _ (by omega) (by omega)).mono ?_
  rintro e W3 ⟨hcase, hb3⟩
  have hcase' : ∃ dk A nn cc dl dh dv sz er, e = .returned (.tuple #[.agg #[.int .i64 dk, .slice A nn cc, .int .i64 dl, .int .i64 dh, .int .i64 dv], .int .i64 sz, .int .i64 er]) ∧ (((er != 0) = true ∧ cellG (bs.drop (2 + n1)) = none) ∨ ((er != 0) = false ∧ ∃ dd, cellG (bs.drop (2 + n1)) = some ⟨dk, dd, dl, dh, dv⟩ ∧ BytesAt W3 W3.heap.size (.slice A nn cc) dd)) := by
    rcases hcase with ⟨hno, sz, er, rfl, her⟩ | ⟨d, A, nn, cc, sz, hyes, rfl, hbytes⟩
    · exact ⟨0, none, 0, 0, 0, 0, 0, sz, er, rfl, .inl ⟨by simpa using her, hno⟩⟩
    · exact ⟨d.kind, A, nn, cc, d.lo, d.hi, d.val, sz, 0, rfl, .inr ⟨rfl, d.data, hyes, hbytes⟩⟩
  clear hcase
  obtain ⟨dk, A, nn, cc, dl, dh, dv, sz, er, rfl, hgen⟩ := hcase'
  have HGEN := hide hgen
  have HB3 := hide hb3
  have HL3 := hide (HB1.out.trans (hb3.mono HB1.out.size))
  have HKR3 := hide (Blk.via hb3 HKR.out)
  clear hgen hb3
  go_upto_region 10 with (fail)
  refine gen1 (R := fun W => Code.wp _ _ _ _ W) (fun W4 kC hb4 hz4 => ?_)
  have HKC := hide kC
  have HB4 := hide hb4
  have HKR4 := hide (Blk.via hb4 HKR3.out)
  have hl4 := HL3.out.trans (hb4.mono HL3.out.size)
  have HL4 := hide hl4
  obtain ⟨K, hK⟩ : ∃ K, K = slotK bs := ⟨_, rfl⟩
  have hKb : K = ⟨(cutB bs 2 n1).toArray⟩ := by rw [hK]; unfold slotK; rw [H1.out]
  have HK := hide hK
  have HST := hide (fun (W : World) (hb : Below W4.heap.size W4 W) => (show (convert 33 9 (.slice (some ⟨b, o + 2, none⟩) n1 (c - 2))).run Tryz.prog W = .ok (.string K) W from hKb ▸ run_string_of (HKY.out W n1 (hl4.trans (hb.mono hl4.size)) h16n) 33 5 9 Tryz.underlying33 Tryz.underlying5 Tryz.underlying9))
  clear hK hKb kC hb4 hl4
  refine wp_region_inv_tail 9 [fun v _ => v = .int .i64 ((n0 : Nat) : Int), fun v _ => v = .slice (some ⟨b, o, none⟩) 64 c, fun v _ => v = .int .i64 ((n1 : Nat) : Int), fun v _ => v = .int .i64 (2 + ((n1 : Nat) : Int)), fun v _ => v = .slice (some ⟨b, o + 2, none⟩) n1 (c - 2), fun v _ => v = .string K, fun v _ => v = .agg #[.int .i64 dk, .slice A nn cc, .int .i64 dl, .int .i64 dh, .int .i64 dv], fun v _ => v = .agg #[.int .i64 ((n0 : Nat) : Int), .string K, .int .i64 dk, .slice A nn cc, .int .i64 dl, .int .i64 dh, .int .i64 dv], fun v W => ∃ g, v = .pointer (some ⟨g, 0, none⟩) ∧ W4.heap.size ≤ g ∧ Blk W g 37 #[.int .i64 0, .string ⟨#[]⟩, .int .i64 0, .slice none 0 0, .int .i64 0, .int .i64 0, .int .i64 0]] (by kernel_rfl) (by kernel_rfl) (by kernel_rfl) (by kernel_rfl) (by kernel_rfl) (by first | simp | decide) (by kernel_rfl) ?st ?steps ?fin
  case st =>
    intro i v W W' hWW h
    match i with
    | 0 | 1 | 2 | 3 | 4 | 5 | 6 | 7 => exact h
    | 8 => obtain ⟨g, h1, h2, h3⟩ := h; exact ⟨g, h1, h2, Blk.via hWW h3⟩
    | (i + 9) => exact h
  case steps =>
    simp only [stepsT, List.take_succ_cons, List.take_zero]
    refine ⟨?_, ?_, ?_, ?_, ?_, ?_, ?_, ?_, ?_, trivial⟩
    · intro f W hbW hdp
      simp only [fS, Nat.reduceAdd]
      go_wp2
      exact ⟨rfl, _, rfl, rfl, Below.refl _ _⟩
    · intro f W hbW hdp
      simp only [fS, Nat.reduceAdd]
      go_wp2
      exact ⟨rfl, _, rfl, rfl, Below.refl _ _⟩
    · intro f W hbW hdp
      simp only [fS, Nat.reduceAdd]
      go_wp2
      exact ⟨rfl, _, rfl, rfl, Below.refl _ _⟩
    · intro f W hbW hdp
      have e2 : f 2 = .int .i64 ((n1 : Nat) : Int) := hdp ⟨2, .data⟩ (mfl (by simp) rfl)
      simp only [fS, Nat.reduceAdd, e2]
      go_wp2
      exact ⟨rfl, _, rfl, rfl, Below.refl _ _⟩
    · intro f W hbW hdp
      have e1 : f 1 = .slice (some ⟨b, o, none⟩) 64 c := hdp ⟨1, .data⟩ (mfl (by simp) rfl)
      have e3 : f 3 = .int .i64 (2 + ((n1 : Nat) : Int)) := hdp ⟨3, .data⟩ (mfl (by simp) rfl)
      simp only [fS, Nat.reduceAdd, e1, e3]
      go_wp2
      exact ⟨rfl, _, rfl, rfl, Below.refl _ _⟩
    · intro f W hbW hdp
      have e4 : f 4 = .slice (some ⟨b, o + 2, none⟩) n1 (c - 2) := hdp ⟨4, .data⟩ (mfl (by simp) rfl)
      have hs := HST.out W hbW
      simp only [fS, Nat.reduceAdd, e4]
      go_wp2
      exact ⟨rfl, _, rfl, rfl, Below.refl _ _⟩
    · intro f W hbW hdp
      have kc := Blk.via hbW HKC.out
      have z0 := kc.cell 0
      have z1 := kc.cell 1
      have z2 := kc.cell 2
      have z3 := kc.cell 3
      have z4 := kc.cell 4
      clear kc
      simp only [fS, Nat.reduceAdd]
      go_wp2
      exact ⟨rfl, _, rfl, rfl, Below.refl _ _⟩
    · intro f W hbW hdp
      have e0 : f 0 = .int .i64 ((n0 : Nat) : Int) := hdp ⟨0, .data⟩ (mfl (by simp) rfl)
      have e5 : f 5 = .string K := hdp ⟨5, .data⟩ (mfl (by simp) rfl)
      have e6 : f 6 = .agg #[.int .i64 dk, .slice A nn cc, .int .i64 dl, .int .i64 dh, .int .i64 dv] := hdp ⟨6, .data⟩ (mfl (by simp) rfl)
      simp only [fS, Nat.reduceAdd, e0, e5, e6]
      go_wp2
      exact ⟨rfl, _, rfl, rfl, Below.refl _ _⟩
    · intro f W hbW hdp
      simp only [fS, Nat.reduceAdd]
      go_wp2
      exact ⟨rfl, _, rfl, ⟨_, rfl, hbW.size, Blk.new _ _ _⟩, (Below.refl _ _).alloc (Nat.le_refl _) _⟩
  case fin =>
    intro f W hbW hA
    have a8 : ∃ g, (f 8) = .pointer (some ⟨g, 0, none⟩) ∧ W4.heap.size ≤ g ∧ Blk W g 37 #[.int .i64 0, .string ⟨#[]⟩, .int .i64 0, .slice none 0 0, .int .i64 0, .int .i64 0, .int .i64 0] := hA 8 (by omega)
    have e7 : f 7 = .agg #[.int .i64 ((n0 : Nat) : Int), .string K, .int .i64 dk, .slice A nn cc, .int .i64 dl, .int .i64 dh, .int .i64 dv] := hA 7 (by omega)
    simp only [List.drop_succ_cons, List.drop_zero, List.take_succ_cons, List.take_zero, fillF, Act.put, List.setIfInBounds_toArray, List.set_cons_succ, List.set_cons_zero, Nat.reduceAdd, e7]
    clear hA e7
    obtain ⟨g, e8, hg, kg⟩ := a8
    have HKG := hide kg
    have HBW := hide hbW
    clear hbW kg
    simp only [e8]
    clear e8
    have c20 := (HKG.out).cell 0
    have c21 := (HKG.out).cell 1
    have c22 := (HKG.out).cell 2
    have c23 := (HKG.out).cell 3
    have c24 := (HKG.out).cell 4
    have c25 := (HKG.out).cell 5
    have c26 := (HKG.out).cell 6
    have f20 := (HKG.out).frozen 0
    have f21 := (HKG.out).frozen 1
    have f22 := (HKG.out).frozen 2
    have f23 := (HKG.out).frozen 3
    have f24 := (HKG.out).frozen 4
    have f25 := (HKG.out).frozen 5
    have f26 := (HKG.out).frozen 6
    have l20 := (HKG.out).lt
    go_upto_region 11 with (fail)
    refine nameW (w := World.setCell _ _ _) (R := fun V => Code.wp _ _ _ _ V) (fun W5 hW5 => ?_)
    have hg4 : w.heap.size < g := by have := HKR4.out.lt; omega
    have kg5 : Blk W5 g 37 #[.int .i64 ((n0 : Nat) : Int), .string K, .int .i64 dk, .slice A nn cc, .int .i64 dl, .int .i64 dh, .int .i64 dv] := hW5 ▸ (((((((Blk.set_ HKG.out 0 _).set_ 1 _).set_ 2 _).set_ 3 _).set_ 4 _).set_ 5 _).set_ 6 _)
    have hb5 : Below W4.heap.size W4 W5 := hW5 ▸ (((((((Below.setCell HBW.out (p := ⟨g, 0, none⟩) hg _).setCell (p := ⟨g, 1, none⟩) hg _).setCell (p := ⟨g, 2, none⟩) hg _).setCell (p := ⟨g, 3, none⟩) hg _).setCell (p := ⟨g, 4, none⟩) hg _).setCell (p := ⟨g, 5, none⟩) hg _).setCell (p := ⟨g, 6, none⟩) hg _)
    have HKG5 := hide kg5
    have HKR5 := hide (Blk.via hb5 HKR4.out)
    have HL5 := hide (HL4.out.trans (hb5.mono HL4.out.size))
    have H35 := hide (HB4.out.trans (hb5.mono HB4.out.size))
    clear hW5 kg5 hb5 c20 c21 c22 c23 c24 c25 c26 f20 f21 f22 f23 f24 f25 f26 l20
    have y0 := (HKG5.out).cell 0
    have y1 := (HKG5.out).cell 1
    have y2 := (HKG5.out).cell 2
    have y3 := (HKG5.out).cell 3
    have y4 := (HKG5.out).cell 4
    have y5 := (HKG5.out).cell 5
    have y6 := (HKG5.out).cell 6
    have ly := (HKG5.out).lt
    rcases HGEN.out with ⟨her, hno⟩ | ⟨her, dd, hyes, hbytes⟩
    · have HGG := hide (show slotG bs = none by rw [HGC.out, hno]; rfl)
      clear hno
      have c20 := (HKR5.out).cell 0
      have c21 := (HKR5.out).cell 1
      have c22 := (HKR5.out).cell 2
      have c23 := (HKR5.out).cell 3
      have c24 := (HKR5.out).cell 4
      have c25 := (HKR5.out).cell 5
      have c26 := (HKR5.out).cell 6
      have f20 := (HKR5.out).frozen 0
      have f21 := (HKR5.out).frozen 1
      have f22 := (HKR5.out).frozen 2
      have f23 := (HKR5.out).frozen 3
      have f24 := (HKR5.out).frozen 4
      have f25 := (HKR5.out).frozen 5
      have f26 := (HKR5.out).frozen 6
      have l20 := (HKR5.out).lt
      go_wp2
      refine bodyPost_ret (results_row_1 Tryz.results133 _ _ w.heap.size #[.int .i64 0, .string ⟨#[]⟩, .int .i64 0, .slice none 0 0, .int .i64 0, .int .i64 0, .int .i64 0] rfl (run_loadVar_row _ _ _ _ #[.int .i64 0, .string ⟨#[]⟩, .int .i64 0, .slice none 0 0, .int .i64 0, .int .i64 0, .int .i64 0] (0, 0) _ (((((((Blk.set_ HKR5.out 0 _).set_ 1 _).set_ 2 _).set_ 3 _).set_ 4 _).set_ 5 _).set_ 6 _) Tryz.underlying37 rfl info_itemK)) rfl ⟨?_, (((((((Below.setCell HL5.out (p := ⟨w.heap.size, 0, none⟩) (Nat.le_refl _) _).setCell (p := ⟨w.heap.size, 1, none⟩) (Nat.le_refl _) _).setCell (p := ⟨w.heap.size, 2, none⟩) (Nat.le_refl _) _).setCell (p := ⟨w.heap.size, 3, none⟩) (Nat.le_refl _) _).setCell (p := ⟨w.heap.size, 4, none⟩) (Nat.le_refl _) _).setCell (p := ⟨w.heap.size, 5, none⟩) (Nat.le_refl _) _).setCell (p := ⟨w.heap.size, 6, none⟩) (Nat.le_refl _) _)⟩
      exact .inl ⟨HGG.out, rfl⟩
    have hnn : nn = dd.length := by
      obtain ⟨A', n', c', e, _, _, hn', _⟩ := hbytes
      injection e with _ e2 _
      omega
    have hby5 : BytesAt W5 W5.heap.size (.slice A nn cc) dd := (hbytes.below H35.out (Nat.le_refl _)).more H35.out.size
    have hks : K.size ≤ 16 := by
      rw [HK.out]
      unfold slotK cutB
      show ((bs.drop 2).take (slotN bs)).toArray.size ≤ 16
      rw [List.size_toArray, List.length_take, H1.out]
      omega
    have HYES := hide (show slotG bs = if slotOk bs ⟨dk, dd, dl, dh, dv⟩ then some ⟨slotS bs, slotK bs, ⟨dk, dd, dl, dh, dv⟩⟩ else none by rw [HGC.out, hyes]; rfl)
    have HRT := hide (itemRightR_any ((n0 : Nat) : Int) K ⟨dk, dd, dl, dh, dv⟩ (.slice A nn cc) W5.heap.size W5 (by omega) (Nat.le_refl _) hby5)
    have HBT := hide (fun W (hb : Below W5.heap.size W5 W) => itemBytesR_any ((n0 : Nat) : Int) K ⟨dk, dd, dl, dh, dv⟩ A nn cc W5.heap.size W (by omega) hb.size hnn (hby5.below hb (Nat.le_refl _)))
    have HBY := hide hby5
    unfold itemV at HRT HBT
    dsimp only at HRT HBT
    have hpl := pad64_length (itemB_le ((n0 : Nat) : Int) K ⟨dk, dd, dl, dh, dv⟩)
    clear hyes hbytes hnn hby5 hks
    cases hri : rightI ((n0 : Nat) : Int) K ⟨dk, dd, dl, dh, dv⟩
    · rw [hri] at HRT
      have HGG := hide (show slotG bs = none by
        rw [HYES.out, if_neg]
        rintro ⟨h, _⟩
        rw [H0.out, ← HK.out, hri] at h
        cases h)
      clear hri hpl
      go_wp2_with fail
      refine HRT.out.mono ?_
      rintro e W6 ⟨rfl, hb6⟩
      have HKR6 := hide (Blk.via hb6 HKR5.out)
      have HL6 := hide (HL5.out.trans (hb6.mono HL5.out.size))
      clear hb6 y0 y1 y2 y3 y4 y5 y6 ly
      have c20 := (HKR6.out).cell 0
      have c21 := (HKR6.out).cell 1
      have c22 := (HKR6.out).cell 2
      have c23 := (HKR6.out).cell 3
      have c24 := (HKR6.out).cell 4
      have c25 := (HKR6.out).cell 5
      have c26 := (HKR6.out).cell 6
      have f20 := (HKR6.out).frozen 0
      have f21 := (HKR6.out).frozen 1
      have f22 := (HKR6.out).frozen 2
      have f23 := (HKR6.out).frozen 3
      have f24 := (HKR6.out).frozen 4
      have f25 := (HKR6.out).frozen 5
      have f26 := (HKR6.out).frozen 6
      have l20 := (HKR6.out).lt
      go_wp2_with fail
      refine bodyPost_ret (results_row_1 Tryz.results133 _ _ w.heap.size #[.int .i64 0, .string ⟨#[]⟩, .int .i64 0, .slice none 0 0, .int .i64 0, .int .i64 0, .int .i64 0] rfl (run_loadVar_row _ _ _ _ #[.int .i64 0, .string ⟨#[]⟩, .int .i64 0, .slice none 0 0, .int .i64 0, .int .i64 0, .int .i64 0] (0, 0) _ (((((((Blk.set_ HKR6.out 0 _).set_ 1 _).set_ 2 _).set_ 3 _).set_ 4 _).set_ 5 _).set_ 6 _) Tryz.underlying37 rfl info_itemK)) rfl ⟨?_, (((((((Below.setCell HL6.out (p := ⟨w.heap.size, 0, none⟩) (Nat.le_refl _) _).setCell (p := ⟨w.heap.size, 1, none⟩) (Nat.le_refl _) _).setCell (p := ⟨w.heap.size, 2, none⟩) (Nat.le_refl _) _).setCell (p := ⟨w.heap.size, 3, none⟩) (Nat.le_refl _) _).setCell (p := ⟨w.heap.size, 4, none⟩) (Nat.le_refl _) _).setCell (p := ⟨w.heap.size, 5, none⟩) (Nat.le_refl _) _).setCell (p := ⟨w.heap.size, 6, none⟩) (Nat.le_refl _) _)⟩
      exact .inl ⟨HGG.out, rfl⟩
    rw [hri] at HRT
    have HGG := hide (show slotG bs = if (pad64 (itemB ((n0 : Nat) : Int) K ⟨dk, dd, dl, dh, dv⟩) == bs) = true then some ⟨((n0 : Nat) : Int), K, ⟨dk, dd, dl, dh, dv⟩⟩ else none by
      rw [HYES.out]
      have h1 : slotOk bs ⟨dk, dd, dl, dh, dv⟩ ↔ (pad64 (itemB ((n0 : Nat) : Int) K ⟨dk, dd, dl, dh, dv⟩) == bs) = true := by
        unfold slotOk
        rw [H0.out, ← HK.out, hri, beq_iff_eq]
        simp
      by_cases h2 : slotOk bs ⟨dk, dd, dl, dh, dv⟩
      · rw [if_pos h2, if_pos (h1.1 h2), H0.out, ← HK.out]
      · rw [if_neg h2, if_neg (fun h => h2 (h1.2 h))])
    generalize pad64 (itemB ((n0 : Nat) : Int) K ⟨dk, dd, dl, dh, dv⟩) = pb at *
    have HPL := hide hpl
    clear hri hpl
    go_wp2_with fail
    refine HRT.out.mono ?_
    rintro e W6 ⟨rfl, hb6⟩
    have HB6 := hide hb6
    have HKG6 := hide (Blk.via hb6 HKG5.out)
    have HKR6 := hide (Blk.via hb6 HKR5.out)
    have HL6 := hide (HL5.out.trans (hb6.mono HL5.out.size))
    clear hb6 y0 y1 y2 y3 y4 y5 y6 ly
    have y0 := (HKG6.out).cell 0
    have y1 := (HKG6.out).cell 1
    have y2 := (HKG6.out).cell 2
    have y3 := (HKG6.out).cell 3
    have y4 := (HKG6.out).cell 4
    have y5 := (HKG6.out).cell 5
    have y6 := (HKG6.out).cell 6
    have ly := (HKG6.out).lt
    go_wp2_with fail
    refine (HBT.out _ HB6.out).mono ?_
    rintro e W7 ⟨A7, c7, rfl, hn7, ho7, hr7, hb7⟩
    have hl7 := HL6.out.trans (hb7.mono HL6.out.size)
    have HSM := hide (Same_any A7 (some ⟨b, o, none⟩) 64 c7 64 c pb bs W7.heap.size W7 hr7 ((HRW.out W7 hl7).more (Nat.le_trans hB hl7.size)))
    have H57 := hide (HB6.out.trans (hb7.mono HB6.out.size))
    have HKG7 := hide (Blk.via hb7 HKG6.out)
    have HKR7 := hide (Blk.via hb7 HKR6.out)
    have HL7 := hide hl7
    clear hn7 ho7 hr7 hb7 hl7 y0 y1 y2 y3 y4 y5 y6 ly
    generalize (pb == bs) = beq at *
    have y0 := (HKG7.out).cell 0
    have y1 := (HKG7.out).cell 1
    have y2 := (HKG7.out).cell 2
    have y3 := (HKG7.out).cell 3
    have y4 := (HKG7.out).cell 4
    have y5 := (HKG7.out).cell 5
    have y6 := (HKG7.out).cell 6
    have ly := (HKG7.out).lt
    have c20 := (HKR7.out).cell 0
    have c21 := (HKR7.out).cell 1
    have c22 := (HKR7.out).cell 2
    have c23 := (HKR7.out).cell 3
    have c24 := (HKR7.out).cell 4
    have c25 := (HKR7.out).cell 5
    have c26 := (HKR7.out).cell 6
    have f20 := (HKR7.out).frozen 0
    have f21 := (HKR7.out).frozen 1
    have f22 := (HKR7.out).frozen 2
    have f23 := (HKR7.out).frozen 3
    have f24 := (HKR7.out).frozen 4
    have f25 := (HKR7.out).frozen 5
    have f26 := (HKR7.out).frozen 6
    have l20 := (HKR7.out).lt
    cases beq
    · have HGN := hide (show slotG bs = none from HGG.out)
      go_wp2_with (go_at_call 69; refine HSM.out.mono ?_; rintro e w' ⟨rfl, hw'⟩; obtain rfl := hw'.symm)
      refine bodyPost_ret (results_row_1 Tryz.results133 _ _ w.heap.size #[.int .i64 0, .string ⟨#[]⟩, .int .i64 0, .slice none 0 0, .int .i64 0, .int .i64 0, .int .i64 0] rfl (run_loadVar_row _ _ _ _ #[.int .i64 0, .string ⟨#[]⟩, .int .i64 0, .slice none 0 0, .int .i64 0, .int .i64 0, .int .i64 0] (0, 0) _ (((((((Blk.set_ HKR7.out 0 _).set_ 1 _).set_ 2 _).set_ 3 _).set_ 4 _).set_ 5 _).set_ 6 _) Tryz.underlying37 rfl info_itemK)) rfl ⟨?_, (((((((Below.setCell HL7.out (p := ⟨w.heap.size, 0, none⟩) (Nat.le_refl _) _).setCell (p := ⟨w.heap.size, 1, none⟩) (Nat.le_refl _) _).setCell (p := ⟨w.heap.size, 2, none⟩) (Nat.le_refl _) _).setCell (p := ⟨w.heap.size, 3, none⟩) (Nat.le_refl _) _).setCell (p := ⟨w.heap.size, 4, none⟩) (Nat.le_refl _) _).setCell (p := ⟨w.heap.size, 5, none⟩) (Nat.le_refl _) _).setCell (p := ⟨w.heap.size, 6, none⟩) (Nat.le_refl _) _)⟩
      exact .inl ⟨HGN.out, rfl⟩
    · have HGN := hide (show slotG bs = some ⟨((n0 : Nat) : Int), K, ⟨dk, dd, dl, dh, dv⟩⟩ from HGG.out)
      go_wp2_with (go_at_call 69; refine HSM.out.mono ?_; rintro e w' ⟨rfl, hw'⟩; obtain rfl := hw'.symm)
      refine bodyPost_ret (results_row_1 Tryz.results133 _ _ w.heap.size #[.int .i64 ((n0 : Nat) : Int), .string K, .int .i64 dk, .slice A nn cc, .int .i64 dl, .int .i64 dh, .int .i64 dv] rfl (run_loadVar_row _ _ _ _ #[.int .i64 ((n0 : Nat) : Int), .string K, .int .i64 dk, .slice A nn cc, .int .i64 dl, .int .i64 dh, .int .i64 dv] (0, 0) _ (((((((Blk.set_ HKR7.out 0 _).set_ 1 _).set_ 2 _).set_ 3 _).set_ 4 _).set_ 5 _).set_ 6 _) Tryz.underlying37 rfl info_itemK)) rfl ⟨?_, (((((((Below.setCell HL7.out (p := ⟨w.heap.size, 0, none⟩) (Nat.le_refl _) _).setCell (p := ⟨w.heap.size, 1, none⟩) (Nat.le_refl _) _).setCell (p := ⟨w.heap.size, 2, none⟩) (Nat.le_refl _) _).setCell (p := ⟨w.heap.size, 3, none⟩) (Nat.le_refl _) _).setCell (p := ⟨w.heap.size, 4, none⟩) (Nat.le_refl _) _).setCell (p := ⟨w.heap.size, 5, none⟩) (Nat.le_refl _) _).setCell (p := ⟨w.heap.size, 6, none⟩) (Nat.le_refl _) _)⟩
      refine .inr ⟨⟨((n0 : Nat) : Int), K, ⟨dk, dd, dl, dh, dv⟩⟩, .slice A nn cc, HGN.out, rfl, ?_⟩
      have HY7 := hide (HBY.out.below H57.out (Nat.le_refl _))
      have h7 := (((((((HY7.out.setOther HKR7.out rfl 0 (.int .i64 ((n0 : Nat) : Int))).setOther (HKR7.out.set_ 0 (.int .i64 ((n0 : Nat) : Int))) rfl 1 (.string K)).setOther ((HKR7.out.set_ 0 (.int .i64 ((n0 : Nat) : Int))).set_ 1 (.string K)) rfl 2 (.int .i64 dk)).setOther (((HKR7.out.set_ 0 (.int .i64 ((n0 : Nat) : Int))).set_ 1 (.string K)).set_ 2 (.int .i64 dk)) rfl 3 (.slice A nn cc)).setOther ((((HKR7.out.set_ 0 (.int .i64 ((n0 : Nat) : Int))).set_ 1 (.string K)).set_ 2 (.int .i64 dk)).set_ 3 (.slice A nn cc)) rfl 4 (.int .i64 dl)).setOther (((((HKR7.out.set_ 0 (.int .i64 ((n0 : Nat) : Int))).set_ 1 (.string K)).set_ 2 (.int .i64 dk)).set_ 3 (.slice A nn cc)).set_ 4 (.int .i64 dl)) rfl 5 (.int .i64 dh)).setOther ((((((HKR7.out.set_ 0 (.int .i64 ((n0 : Nat) : Int))).set_ 1 (.string K)).set_ 2 (.int .i64 dk)).set_ 3 (.slice A nn cc)).set_ 4 (.int .i64 dl)).set_ 5 (.int .i64 dh)) rfl 6 (.int .i64 dv))
      refine h7.more ?_
      have := H57.out.size
      simp [World.setCell]
      omega
end Go.Proofs.YtnanlaefehaifaaGreat
namespace Go.Proofs.YtnanlaefehaifaaGreat
open Go.RowKit
def itemC (x : ItemD) (cv : Value) : Array Value := #[.int .i64 x.st, .string x.key, .int .i64 x.cell.kind, cv, .int .i64 x.cell.lo, .int .i64 x.cell.hi, .int .i64 x.cell.val]
theorem slotGP_one {w w' : World} {o : Option ItemD} {e : Ending} (h : SlotGP w o e w') : ∃ (x : ItemD) (A : Option Addr) (n c : Nat) (er : Int), e = .returned (.tuple #[.agg (itemC x (.slice A n c)), .int .i64 er]) ∧ BytesAt w' w'.heap.size (.slice A n c) x.cell.data ∧ ((o = none ∧ x = item0 ∧ A = none ∧ n = 0 ∧ c = 0 ∧ er = 12) ∨ (o = some x ∧ er = 0)) := by
  rcases h.1 with ⟨h1, rfl⟩ | ⟨x, cv, h1, rfl, h2⟩
  · exact ⟨item0, none, 0, 0, 12, rfl, bytes_none _ _, .inl ⟨h1, rfl, rfl, rfl, rfl, rfl⟩⟩
  · have h3 := h2
    obtain ⟨A, n, c, rfl, _⟩ := h2
    exact ⟨x, A, n, c, 0, rfl, h3, .inr ⟨h1, rfl⟩⟩
theorem slotGP_of {w w' : World} {o : Option ItemD} {x : ItemD} {A : Option Addr} {n c : Nat} {er : Int} (h : (o = none ∧ x = item0 ∧ A = none ∧ n = 0 ∧ c = 0 ∧ er = 12) ∨ (o = some x ∧ er = 0)) (hy : BytesAt w' w'.heap.size (.slice A n c) x.cell.data) (hb : Below w.heap.size w w') : SlotGP w o (.returned (.tuple #[.agg (itemC x (.slice A n c)), .int .i64 er])) w' := by
  refine ⟨?_, hb⟩
  rcases h with ⟨h1, rfl, rfl, rfl, rfl, rfl⟩ | ⟨h1, rfl⟩
  · exact .inl ⟨h1, rfl⟩
  · exact .inr ⟨x, _, h1, rfl, hy⟩
theorem BytesAt.set7 {w : World} {B : Nat} {v : Value} {bs : List UInt8} (h : BytesAt w B v bs) {g : Nat} {t : TypeId} {cs : Array Value} (k : Blk w g t cs) (hc : cs.toList.all (fun v => !isU8 v) = true) (hz : cs.size = 7) (x : ItemD) (A : Option Addr) (n c : Nat) :
    BytesAt (((((((w.setCell ⟨g, 0, none⟩ (.int .i64 x.st)).setCell ⟨g, 1, none⟩ (.string x.key)).setCell ⟨g, 2, none⟩ (.int .i64 x.cell.kind)).setCell ⟨g, 3, none⟩ (.slice A n c)).setCell ⟨g, 4, none⟩ (.int .i64 x.cell.lo)).setCell ⟨g, 5, none⟩ (.int .i64 x.cell.hi)).setCell ⟨g, 6, none⟩ (.int .i64 x.cell.val)) B v bs := by
  obtain ⟨l⟩ := cs
  match l, hz with
  | [a0, a1, a2, a3, a4, a5, a6], _ =>
    simp only [List.all_cons, List.all_nil, Bool.and_eq_true, Bool.and_true] at hc
    obtain ⟨h0, h1, h2, h3, h4, h5, h6⟩ := hc
    have e0 : ∀ (i : Nat) (cs' : Array Value), cs'.toList.all (fun v => !isU8 v) = true → ∀ u, isU8 u = false → (cs'.setIfInBounds i u).toList.all (fun v => !isU8 v) = true := by
      intro i cs' hh u hu
      rw [List.all_eq_true] at hh ⊢
      intro y hy
      rcases Array.mem_or_eq_of_mem_setIfInBounds (Array.mem_toList_iff.1 hy) with hy | rfl
      · exact hh y (Array.mem_toList_iff.2 hy)
      · rw [hu]; rfl
    have hc0 : (#[a0, a1, a2, a3, a4, a5, a6] : Array Value).toList.all (fun v => !isU8 v) = true := by simp [h0, h1, h2, h3, h4, h5, h6]
    have k1 := k.set_ 0 (.int .i64 x.st)
    have c1 := e0 0 _ hc0 (.int .i64 x.st) rfl
    have k2 := k1.set_ 1 (.string x.key)
    have c2 := e0 1 _ c1 (.string x.key) rfl
    have k3 := k2.set_ 2 (.int .i64 x.cell.kind)
    have c3 := e0 2 _ c2 (.int .i64 x.cell.kind) rfl
    have k4 := k3.set_ 3 (.slice A n c)
    have c4 := e0 3 _ c3 (.slice A n c) rfl
    have k5 := k4.set_ 4 (.int .i64 x.cell.lo)
    have c5 := e0 4 _ c4 (.int .i64 x.cell.lo) rfl
    have k6 := k5.set_ 5 (.int .i64 x.cell.hi)
    have c6 := e0 5 _ c5 (.int .i64 x.cell.hi) rfl
    exact ((((((h.setOther k hc0 0 _).setOther k1 c1 1 _).setOther k2 c2 2 _).setOther k3 c3 3 _).setOther k4 c4 4 _).setOther k5 c5 5 _).setOther k6 c6 6 _
theorem spl_whole (bs : List UInt8) (h : bs.length = 64) : (spl ((pad64 []).map byteV) 0 (bs.map byteV)).toArray = (bs.map byteV).toArray := by
  unfold spl
  rw [List.take_zero, List.nil_append, List.length_map, Nat.zero_add, List.drop_of_length_le (by rw [List.length_map, pad64_length (by simp), h]; exact Nat.le_refl _), List.append_nil]
theorem pSlot_any (bs : List UInt8) (hl : bs.length = 512) (i : Nat) (hi : i < 7) (w : World) : Calls Tryz.prog 93 #[pgV bs, .int .i64 (i : Nat)] w (SlotGP w (slotG (slotB bs i))) := by
  have hsb := slotB_length hl hi
  have HG := hide (fun W => slotGet_any (slotB bs i) hsb W)
  have HII := hide (row64_info (slotB bs i) (by omega))
  have hpp : pad64 (slotB bs i) = slotB bs i := by unfold pad64; rw [hsb]; simp
  rw [hpp] at HII
  have HSB := hide hsb
  have HRD := hide (fun (W : World) (g : Nat) (k : Blk W g 63 (bs.map byteV).toArray) => (show ∀ j v, ((slotB bs i).map byteV)[j]? = some v → W.cell? ((⟨g, 32 + i * 64, none⟩ : Addr).add j) = some v by
    intro j v hv
    rw [add_plain, k.cell]
    unfold slotB cutB at hv
    rw [List.map_take, List.map_drop, List.getElem?_take] at hv
    split at hv
    · rw [List.getElem?_drop] at hv
      rw [List.getElem?_toArray, show 32 + i * 64 + j = 32 + 64 * i + j by omega]
      exact hv
    · cases hv))
  unfold pgV
  generalize hX : (bs.map byteV).toArray = X at *
  clear hX hl hsb hpp
  have i1 : (0 : Int) ≤ 32 + (i : Int) * 64 := by omega
  have i2 : 32 + (i : Int) * 64 ≤ 512 := by omega
  have i3 : (32 + (i : Int) * 64).toNat = 32 + i * 64 := by omega
  have i4 : ¬ (512 = 32 + i * 64) := by omega
  have i5 : (0 : Int) ≤ i := by omega
  have i6 : (i : Int) < 7 := by omega
  go_enter Tryz.func93, Tryz.ntmps93
  go_upto_region 3 with (fail)
  refine gen2 (R := fun W => Code.wp _ _ _ _ W) (fun W1 kB kR hb1 hz1 => ?_)
  have HKB := hide kB
  have HKR := hide kR
  have HB1 := hide hb1
  clear kB kR hb1
  go_upto_region 4 with (fail)
  refine gen1 (R := fun W => Code.wp _ _ _ _ W) (fun W2 kS hb2 hz2 => ?_)
  rw [zeros64] at kS
  have HKS := hide kS
  have HKB2 := hide (Blk.via hb2 HKB.out)
  have HKR2 := hide (Blk.via hb2 HKR.out)
  have HL2 := hide (HB1.out.trans (hb2.mono HB1.out.size))
  clear kS hb2
  refine wp_region_inv_tail 5 [fun v _ => v = .slice (some ⟨W1.heap.size, 0, none⟩) 64 64, fun v _ => v = .int .i64 ((i : Nat) : Int), fun v _ => v = .int .i64 ((i : Int) * 64), fun v _ => v = .int .i64 (32 + (i : Int) * 64), fun v _ => v = .slice (some ⟨w.heap.size, 32 + i * 64, none⟩) (512 - (32 + i * 64)) (512 - (32 + i * 64))] (by kernel_rfl) (by kernel_rfl) (by kernel_rfl) (by kernel_rfl) (by kernel_rfl) (by first | simp | decide) (by kernel_rfl) ?st ?steps ?fin
  case st =>
    intro i v W W' hWW h
    match i with
    | 0 | 1 | 2 | 3 | 4 => exact h
    | (i + 5) => exact h
  case steps =>
    simp only [stepsT, List.take_succ_cons, List.take_zero]
    refine ⟨?_, ?_, ?_, ?_, ?_, trivial⟩
    · intro f W hbW hdp
      simp only [fS, Nat.reduceAdd]
      go_wp2
      exact ⟨rfl, _, rfl, rfl, Below.refl _ _⟩
    · intro f W hbW hdp
      simp only [fS, Nat.reduceAdd]
      go_wp2
      exact ⟨rfl, _, rfl, rfl, Below.refl _ _⟩
    · intro f W hbW hdp
      have e1 : f 1 = .int .i64 ((i : Nat) : Int) := hdp ⟨1, .data⟩ (mfl (by simp) rfl)
      simp only [fS, Nat.reduceAdd, e1]
      go_wp2
      exact ⟨rfl, _, rfl, rfl, Below.refl _ _⟩
    · intro f W hbW hdp
      have e2 : f 2 = .int .i64 ((i : Int) * 64) := hdp ⟨2, .data⟩ (mfl (by simp) rfl)
      simp only [fS, Nat.reduceAdd, e2]
      go_wp2
      exact ⟨rfl, _, rfl, rfl, Below.refl _ _⟩
    · intro f W hbW hdp
      have e3 : f 3 = .int .i64 (32 + (i : Int) * 64) := hdp ⟨3, .data⟩ (mfl (by simp) rfl)
      simp only [fS, Nat.reduceAdd, e3]
      go_wp2
      exact ⟨rfl, _, rfl, rfl, Below.refl _ _⟩
  case fin =>
    intro f W hbW hA
    have e0 : f 0 = .slice (some ⟨W1.heap.size, 0, none⟩) 64 64 := hA 0 (by omega)
    have e4 : f 4 = .slice (some ⟨w.heap.size, 32 + i * 64, none⟩) (512 - (32 + i * 64)) (512 - (32 + i * 64)) := hA 4 (by omega)
    simp only [List.drop_succ_cons, List.drop_zero, List.take_succ_cons, List.take_zero, fillF, Act.put, List.setIfInBounds_toArray, List.set_cons_succ, List.set_cons_zero, Nat.reduceAdd, e0, e4]
    clear hA e0 e4
    have kS := Blk.via hbW HKS.out
    have kB := Blk.via hbW HKB2.out
    refine wpList_copy_blk rfl _ _ _ _ rfl 5 1 Tryz.underlying33 size_u8 W1.heap.size 0 233 ((pad64 []).map byteV) ((slotB bs i).map byteV) 64 64 _ _ _ rfl rfl kS (by rw [List.length_map, HSB.out, Nat.mul_one]; exact (Nat.min_eq_right (by omega)).symm) (HRD.out W _ kB) (by rw [List.length_map, List.length_map, HSB.out, pad64_length (by simp)]; omega) (bytes_one _) ?_
    intro v' W5 hk5 ht5
    rw [spl_whole _ HSB.out] at hk5
    have hb5 : Below w.heap.size w W5 := ht5.below (HL2.out.trans (hbW.mono HL2.out.size)) (by omega)
    have HKS5 := hide hk5
    have HKR5 := hide (ht5.blk (Blk.via hbW HKR2.out) (by omega))
    have HL5 := hide hb5
    have HG5 := hide (HG.out W5)
    clear kS kB hk5 ht5 hb5 hbW
    go_wp2_with (refine wpList_load_row rfl 233 (.tmp 6) rfl W1.heap.size rfl 233 _ (0, 0) _ HKS5.out Tryz.underlying233 rfl HII.out ?_)
    refine HG5.out.mono ?_
    rintro e W6 hP
    obtain ⟨x, A, n, c, er, rfl, hby, hor⟩ := slotGP_one hP
    have HKR6 := hide (Blk.via hP.2 HKR5.out)
    have HL6 := hide (HL5.out.trans (hP.2.mono HL5.out.size))
    have HBY := hide hby
    have HOR := hide hor
    obtain ⟨xs, xk, d1, d2, d3, d4, d5⟩ := x
    unfold itemC at *
    dsimp only at *
    clear hP hby hor
    have c20 := (HKR6.out).cell 0
    have c21 := (HKR6.out).cell 1
    have c22 := (HKR6.out).cell 2
    have c23 := (HKR6.out).cell 3
    have c24 := (HKR6.out).cell 4
    have c25 := (HKR6.out).cell 5
    have c26 := (HKR6.out).cell 6
    have f20 := (HKR6.out).frozen 0
    have f21 := (HKR6.out).frozen 1
    have f22 := (HKR6.out).frozen 2
    have f23 := (HKR6.out).frozen 3
    have f24 := (HKR6.out).frozen 4
    have f25 := (HKR6.out).frozen 5
    have f26 := (HKR6.out).frozen 6
    have l20 := (HKR6.out).lt
    go_wp2_with fail
    refine bodyPost_ret (results_row_1 Tryz.results93 _ _ (w.heap.size + 1) #[.int .i64 xs, .string xk, .int .i64 d1, .slice A n c, .int .i64 d3, .int .i64 d4, .int .i64 d5] rfl (run_loadVar_row _ _ _ _ #[.int .i64 xs, .string xk, .int .i64 d1, .slice A n c, .int .i64 d3, .int .i64 d4, .int .i64 d5] (0, 0) _ (((((((Blk.set_ HKR6.out 0 _).set_ 1 _).set_ 2 _).set_ 3 _).set_ 4 _).set_ 5 _).set_ 6 _) Tryz.underlying37 rfl info_itemK)) rfl ?_
    exact slotGP_of (x := ⟨xs, xk, ⟨d1, d2, d3, d4, d5⟩⟩) HOR.out ((BytesAt.set7 HBY.out HKR6.out rfl rfl ⟨xs, xk, ⟨d1, d2, d3, d4, d5⟩⟩ A n c).more (by simp [World.setCell])) (((((((Below.setCell HL6.out (p := ⟨(w.heap.size + 1), 0, none⟩) (Nat.le_succ _) _).setCell (p := ⟨(w.heap.size + 1), 1, none⟩) (Nat.le_succ _) _).setCell (p := ⟨(w.heap.size + 1), 2, none⟩) (Nat.le_succ _) _).setCell (p := ⟨(w.heap.size + 1), 3, none⟩) (Nat.le_succ _) _).setCell (p := ⟨(w.heap.size + 1), 4, none⟩) (Nat.le_succ _) _).setCell (p := ⟨(w.heap.size + 1), 5, none⟩) (Nat.le_succ _) _).setCell (p := ⟨(w.heap.size + 1), 6, none⟩) (Nat.le_succ _) _)
theorem pSlotR_any (A0 : Option Addr) (c : Nat) (bs : List UInt8) (B : Nat) (w : World) (hB : B ≤ w.heap.size) (hc : 512 ≤ c) (hcm : c ≤ maxLen) (hl : bs.length = 512) (hr : Reads w B 1 A0 512 (bs.map byteV)) (i : Nat) (hi : i < 7) :
    Calls Tryz.prog 71 #[.slice A0 512 c, .int .i64 (i : Nat)] w (SlotGP w (slotG (slotB bs i))) := by
  have hsb := slotB_length hl hi
  obtain ⟨b, o, rfl, hbB, _⟩ := hr.plain (by omega) (by omega)
  have HG := hide (fun (W : World) (n c' : Nat) (hb : Below w.heap.size w W) (hn : n = 64) (hcc : c' = c - (32 + 64 * i)) => (show Calls Tryz.prog 133 #[.slice (some ⟨b, o + (32 + 64 * i), none⟩) n c'] W (SlotGP W (slotG (slotB bs i))) by
    subst hn hcc
    refine slotGetR_any (some ⟨b, o + (32 + 64 * i), none⟩) (c - (32 + 64 * i)) (slotB bs i) B W (Nat.le_trans hB hb.size) (by omega) (by omega) hsb ?_
    have h := ((hr.below hb hB).cut (k := 32 + 64 * i) (cap := c) (by omega) (by omega)).take (k := 64) (by omega)
    rw [if_neg (by omega), Option.map_some, add_plain, Nat.mul_one, Nat.mul_one] at h
    unfold slotB cutB
    rw [List.map_take, List.map_drop]
    exact h))
  clear hr hl hsb
  have i1 : (0 : Int) ≤ 32 + 64 * (i : Int) := by omega
  have i2 : 32 + 64 * (i : Int) ≤ 96 + 64 * (i : Int) := by omega
  have i3 : (32 + 64 * (i : Int)).toNat = 32 + 64 * i := by omega
  have i4 : ¬ (c = 32 + 64 * i) := by omega
  have i5 : (0 : Int) ≤ i := by omega
  have i6 : (i : Int) ≤ 6 := by omega
  have i7 : 96 + 64 * (i : Int) ≤ c := by omega
  have i8 : (96 + 64 * (i : Int)).toNat = 96 + 64 * i := by omega
  have i9 : (0 : Int) ≤ 96 + 64 * (i : Int) := by omega
  go_enter Tryz.func71, Tryz.ntmps71
  go_upto_region 3 with (fail)
  refine gen1 (R := fun W => Code.wp _ _ _ _ W) (fun W1 kR hb1 hz1 => ?_)
  have HKR := hide kR
  have HL1 := hide hb1
  clear kR hb1
  go_wp2_with fail
  refine (HG.out _ _ _ HL1.out (by omega) (by omega)).mono ?_
  rintro e W6 hP
  obtain ⟨x, A, n, c, er, rfl, hby, hor⟩ := slotGP_one hP
  have HKR6 := hide (Blk.via hP.2 HKR.out)
  have HL6 := hide (HL1.out.trans (hP.2.mono HL1.out.size))
  have HBY := hide hby
  have HOR := hide hor
  obtain ⟨xs, xk, d1, d2, d3, d4, d5⟩ := x
  unfold itemC at *
  dsimp only at *
  clear hP hby hor
  have c20 := (HKR6.out).cell 0
  have c21 := (HKR6.out).cell 1
  have c22 := (HKR6.out).cell 2
  have c23 := (HKR6.out).cell 3
  have c24 := (HKR6.out).cell 4
  have c25 := (HKR6.out).cell 5
  have c26 := (HKR6.out).cell 6
  have f20 := (HKR6.out).frozen 0
  have f21 := (HKR6.out).frozen 1
  have f22 := (HKR6.out).frozen 2
  have f23 := (HKR6.out).frozen 3
  have f24 := (HKR6.out).frozen 4
  have f25 := (HKR6.out).frozen 5
  have f26 := (HKR6.out).frozen 6
  have l20 := (HKR6.out).lt
  go_wp2_with fail
  refine bodyPost_ret (results_row_1 Tryz.results71 _ _ w.heap.size #[.int .i64 xs, .string xk, .int .i64 d1, .slice A n c, .int .i64 d3, .int .i64 d4, .int .i64 d5] rfl (run_loadVar_row _ _ _ _ #[.int .i64 xs, .string xk, .int .i64 d1, .slice A n c, .int .i64 d3, .int .i64 d4, .int .i64 d5] (0, 0) _ (((((((Blk.set_ HKR6.out 0 _).set_ 1 _).set_ 2 _).set_ 3 _).set_ 4 _).set_ 5 _).set_ 6 _) Tryz.underlying37 rfl info_itemK)) rfl ?_
  exact slotGP_of (x := ⟨xs, xk, ⟨d1, d2, d3, d4, d5⟩⟩) HOR.out ((BytesAt.set7 HBY.out HKR6.out rfl rfl ⟨xs, xk, ⟨d1, d2, d3, d4, d5⟩⟩ A n c).more (by simp [World.setCell])) (((((((Below.setCell HL6.out (p := ⟨w.heap.size, 0, none⟩) (Nat.le_refl _) _).setCell (p := ⟨w.heap.size, 1, none⟩) (Nat.le_refl _) _).setCell (p := ⟨w.heap.size, 2, none⟩) (Nat.le_refl _) _).setCell (p := ⟨w.heap.size, 3, none⟩) (Nat.le_refl _) _).setCell (p := ⟨w.heap.size, 4, none⟩) (Nat.le_refl _) _).setCell (p := ⟨w.heap.size, 5, none⟩) (Nat.le_refl _) _).setCell (p := ⟨w.heap.size, 6, none⟩) (Nat.le_refl _) _)
end Go.Proofs.YtnanlaefehaifaaGreat
