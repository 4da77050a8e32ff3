/-
  Texts of this claim, joined: KM, KO, KN, KP.
-/
import Derived.ChangeKeysEq
import Derived.Test.YtnanlaefehaifaaGreatAu05
set_option maxHeartbeats 6400000
set_option maxRecDepth 100000
namespace Go.Proofs.YtnanlaefehaifaaGreat
open Go.RowKit
theorem bytes_at {bs : List UInt8} {i : Nat} (h : i < bs.length) : ((bs.map byteV).toArray)[i]? = some (.int .u8 (((bs.getD i 0).toNat : Nat) : Int)) := by
  rw [List.getElem?_toArray, List.getElem?_map, List.getElem?_eq_getElem h, List.getD_eq_getElem?_getD, List.getElem?_eq_getElem h]
  rfl
theorem run_eqItemsB {P : Program} (w : World) (d : Nat) (e : TypeId) (he : P.underlying e = some (.int .u8)) (xs bs : List UInt8) (hl : xs.length = bs.length) : ∀ is : List Nat, (∀ i ∈ is, i < xs.length) →
    (Op.eqItems (d + 1) e 1 (xs.map byteV).toArray (bs.map byteV).toArray is).run P w = .ok (is.all fun i => xs.getD i 0 == bs.getD i 0) w
  | [], _ => by simp [Op.eqItems]
  | i :: is, h => by
    have hi : i < xs.length := h i List.mem_cons_self
    have hp : P.plainKey e = true := by simp [Program.plainKey, he]
    have ih := run_eqItemsB w d e he xs bs hl is (fun j hj => h j (List.mem_cons_of_mem _ hj))
    have hx : (((xs.getD i 0).toNat : Int) == ((bs.getD i 0).toNat : Int)) = (xs.getD i 0 == bs.getD i 0) := by
      rw [Bool.eq_iff_iff, beq_iff_eq, beq_iff_eq]
      constructor
      · intro h
        exact UInt8.toNat_inj.1 (by omega)
      · intro h
        rw [h]
    unfold Op.eqItems
    rw [Nat.mul_one]
    simp only [Sem.run_bind, run_part_plain w hp (bytes_at hi), run_part_plain w hp (bytes_at (hl ▸ hi)), Result.andThen_ok, run_equalIn_int w d e .u8 .u8 _ _ he, List.all_cons, hx]
    cases hb : (xs.getD i 0 == bs.getD i 0)
    · simp
    · simpa using ih
theorem all_getD {xs bs : List UInt8} {n : Nat} (ha : xs.length = n) (hb : bs.length = n) : ((List.range n).all fun i => xs.getD i 0 == bs.getD i 0) = (xs == bs) := by
  rw [Bool.eq_iff_iff, List.all_eq_true, beq_iff_eq]
  constructor
  · intro h
    refine List.ext_getElem (by omega) (fun i h1 h2 => ?_)
    have := h i (List.mem_range.2 (by omega))
    rw [beq_iff_eq, List.getD_eq_getElem?_getD, List.getD_eq_getElem?_getD, List.getElem?_eq_getElem h1, List.getElem?_eq_getElem h2] at this
    exact this
  · rintro rfl i _
    simp
theorem info_u8X : (Tryz.prog.info? 5).map (·.size) = some 1 := by kernel_rfl
theorem run_eqB (t : TypeId) (n d : Nat) (ht : Tryz.prog.underlying t = some (.array n 5)) (xs bs : List UInt8) (ha : xs.length = n) (hb : bs.length = n) (w : World) :
    (Op.equalIn (d + 2) t (.agg (xs.map byteV).toArray) (.agg (bs.map byteV).toArray)).run Tryz.prog w = .ok (xs == bs) w := by
  obtain ⟨i, hi, hs⟩ := Option.map_eq_some_iff.1 info_u8X
  rw [run_equalIn_array w (d + 1) _ _ ht hi]
  have hc : Tryz.prog.cellsOf 5 = 1 := by rw [Program.cellsOf, hi]; exact hs
  rw [hc, run_eqItemsB w d 5 Tryz.underlying5 xs bs (by omega) _ (fun i hi => by have := List.mem_range.1 hi; omega), all_getD ha hb]
theorem itemB_le (st : Int) (k : ByteArray) (d : CellD) : (itemB st k d).length ≤ 64 := by
  unfold itemB
  split
  · rename_i hh
    have h2 := hh.2
    unfold rightI at h2
    rw [if_neg hh.1] at h2
    simp only [Bool.and_eq_true] at h2
    have h3 := h2.2.1
    unfold goodKey at h3
    simp only [Bool.and_eq_true, decide_eq_true_eq] at h3
    have h4 := cellB_le34 h2.2.2
    have h5 : k.data.toList.length = k.size := by rw [Array.length_toList]; rfl
    simp only [List.length_append, List.length_cons, List.length_nil]
    omega
  · simp
theorem wpList_load_rowG {P : Program} {ops : Array Oper} {rest : List Oper} {o : Oper} {a : Act} {w : World} {Q : Exit → Act → World → Prop} (hw : Region.wanted o (yielded ops a.tmps) = true) (ty : TypeId) (x : Operand) (ho : o.op = .load ty x)
    (g : Nat) (hx : a.eval x = .pointer (some ⟨g, 0, none⟩)) (t : TypeId) (cs : Array Value) (fr : Nat × Nat) (d : TypeDesc) (hg : w.heap[g]? = some (.cells cs t fr)) (hu : P.underlying ty = some d) (hd : (match d with | .struct _ | .array _ _ => true | _ => false) = true) (hi : (P.info? ty).map (·.size) = some cs.size)
    (h : wpList P ops Q rest (a.put o.dst (.agg cs)) w) : wpList P ops Q (o :: rest) a w := by
  unfold wpList
  rw [if_pos hw]
  exact .inl (wp_load_row ty x ho g hx t cs fr d hg hu hd hi h)
def isU8 : Value → Bool
  | .int .u8 _ => true
  | _ => false
theorem not_u8 {cs : Array Value} (h : cs.toList.all (fun v => !isU8 v) = true) (i : Nat) (x : UInt8) : cs[i]? ≠ some (byteV x) := by
  intro hi
  rw [List.all_eq_true] at h
  have := h _ (Array.mem_toList_iff.2 (Array.mem_of_getElem? hi))
  simp [isU8, byteV] at this
theorem BytesAt.setOther {w : World} {B : Nat} {v : Value} {bs : List UInt8} (h : BytesAt w B v bs) {g : Nat} {t : TypeId} {cs : Array Value} (k : Blk w g t cs) (hc : cs.toList.all (fun v => !isU8 v) = true) (i : Nat) (u : Value) : BytesAt (w.setCell ⟨g, i, none⟩ u) B v bs := by
  obtain ⟨A, n, c, rfl, h2, h3, h4, h5, h6, h7⟩ := h
  refine ⟨A, n, c, rfl, h2, h3, h4, h5, h6, fun hn => ?_⟩
  obtain ⟨ad, rfl, hb, hcell⟩ := h7 hn
  refine ⟨ad, rfl, hb, fun j u' hu => ?_⟩
  have h1 := hcell j u' hu
  rw [List.getElem?_map] at hu
  obtain ⟨x, hx, rfl⟩ := Option.map_eq_some_iff.1 hu
  refine (World.cell?_setCell_other w _ _ _ ?_).trans h1
  intro e
  rw [← e, k.cell] at h1
  exact not_u8 hc i x h1
end Go.Proofs.YtnanlaefehaifaaGreat
namespace Go.Proofs.YtnanlaefehaifaaGreat
open Go.RowKit
theorem wpList_app {ops : Array Oper} {rest : List Oper} {o : Oper} {a : Act} {w : World} {Q : Exit → Act → World → Prop} (hgd : o.guard = none) (s x : Operand)
    (ho : o.op = .call { callee := .builtin .append, args := #[s, x], argTypes := #[33, 33] })
    (L : Nat) (A : Option Addr) (n c : Nat) (bs : List UInt8) (hs : a.eval s = .slice A n c) (hown : OwnB w L (.slice A n c) bs) (hn : n = bs.length)
    (B : Nat) (A2 : Option Addr) (m c2 : Nat) (bs2 : List UInt8) (hx : a.eval x = .slice A2 m c2) (hr : Reads w B 1 A2 m (bs2.map byteV)) (hm : m = bs2.length) (h63 : n + m ≤ 1000000)
    (w0 : World) (hb : Below L w0 w) (hL : L ≤ w.heap.size)
    (h : ∀ A' c' w', OwnB w' L (.slice A' (n + m) c') (bs ++ bs2) → Below L w0 w' → w.grownBy w' (Value.slice A n c).ownBlock → wpList Tryz.prog ops Q rest (a.put o.dst (.slice A' (n + m) c')) w') : wpList Tryz.prog ops Q (o :: rest) a w := by
  obtain ⟨i0, hi, hz0, hz1, hz2⟩ := info_parts info_u8R
  subst hn hm
  refine wpList_append_any w hgd s x _ ho L 5 i0 _ 1 1 Tryz.underlying33 hi hz0 hz1 hz2 rfl (by omega) _ bs.length _ hs hown B A2 bs2.length c2 _ hx hr (bytes_one _) (by unfold maxLen; omega) (by omega) hL ?_
  intro v' w' ho' hg' _
  have ho9 : OwnB w' L v' (bs ++ bs2) := by
    unfold OwnB
    rw [List.length_append, List.map_append]
    exact ho'
  obtain ⟨A', c', rfl, _⟩ := own_slice ho9
  rw [List.length_append] at ho9 ⊢
  exact h A' c' w' ho9 (hb.grown hg' hL (fun q hq => (OwnB.lt hown q hq).1)) hg'
theorem beB_one_one : beB 1 1 = [1] := by decide
theorem beB_one_two : beB 1 2 = [2] := by decide
theorem beB_one_nat (n : Nat) (h : n < 256) : beB 1 (n : Int) = [UInt8.ofNat n] := by
  have h1 : beB 1 (n : Int) = [byteS (n : Int) 0] := rfl
  rw [h1]
  congr 1
  have h2 := byteS_val (n : Int) 0 n (by rw [IntKind.wrap_u64]; omega)
  rw [Nat.pow_zero, Nat.div_one, Nat.mod_eq_of_lt h, Nat.mul_zero] at h2
  have h3 := byteV_ofNat h
  rw [h3] at h2
  unfold byteV at h2
  injection h2 with _ h2
  exact UInt8.toNat_inj.1 (by omega)
theorem one_own {W W' : World} {L : Nat} {x : UInt8} (k : Blk W' W.heap.size 5 #[byteV x]) (hL : L ≤ W.heap.size) : OwnB W' L (.slice (some ⟨W.heap.size, 0, none⟩) 1 1) [x] :=
  own_new (cur := [byteV x]) k hL rfl (Nat.le_refl _) (by unfold maxLen; omega) rfl rfl
theorem cellBytesR_any (d : CellD) (A : Option Addr) (n c : Nat) (B : Nat) (w : World) (hB : B ≤ w.heap.size) (hn : n = d.data.length) (hr : Reads w B 1 A n (d.data.map byteV)) :
    Calls Tryz.prog 234 #[.agg #[.int .i64 d.kind, .slice A n c, .int .i64 d.lo, .int .i64 d.hi, .int .i64 d.val]] w (GivesB w (cellB d).length (cellB d)) := by
  have HC := hide (fun W => cellRight_any d A n c W hn)
  have HBY := hide (fun (x : Int) W => bytesR_any 8 x (by omega) W)
  have HR := hide hr
  have HN := hide hn
  obtain ⟨dk, dd, dl, dh, dv⟩ := d
  dsimp only at *
  clear hr hn
  go_enter Tryz.func234, Tryz.ntmps234
  go_upto_region 1 with (fail)
  refine gen1 (R := fun W => Code.wp _ _ _ _ W) (fun W1 kb hb1 hz1 => ?_)
  have HK1 := hide kb
  have HB1 := hide hb1
  clear kb hb1
  cases hc : rightC ⟨dk, dd, dl, dh, dv⟩
  · have HBB := hide (show cellB ⟨dk, dd, dl, dh, dv⟩ = [] by unfold cellB; rw [hc]; rfl)
    rw [hc] at HC
    clear hc
    have c0 := (HK1.out).cell 0
    have c1 := (HK1.out).cell 1
    have c2 := (HK1.out).cell 2
    have c3 := (HK1.out).cell 3
    have c4 := (HK1.out).cell 4
    have lc := (HK1.out).lt
    go_wp2_with (go_at_call 237; refine (HC.out _).mono ?_; rintro e W2 ⟨rfl, hb2⟩)
    go_ret
    rw [HBB.out]
    exact ⟨none, 0, rfl, rfl, OwnB.nil _ _, Reads.none_, HB1.out.trans (hb2.mono HB1.out.size)⟩
  have hkd := rightC_kind hc
  have hlen : dd.length ≤ 32 := by
    rcases hkd with h | h
    · exact h.2
    · have := h.2; dsimp only at this; rw [this]; exact Nat.zero_le _
  rw [hc] at HC
  have HCC := hide hc
  clear hc
  have c0 := (HK1.out).cell 0
  have c1 := (HK1.out).cell 1
  have c2 := (HK1.out).cell 2
  have c3 := (HK1.out).cell 3
  have c4 := (HK1.out).cell 4
  have lc := (HK1.out).lt
  go_upto_region 3 with (go_at_call 237; refine (HC.out _).mono ?_; rintro e W2 ⟨rfl, hb2⟩)
  have HL2 := hide (HB1.out.trans (hb2.mono HB1.out.size))
  have HK2 := hide (Blk.via hb2 HK1.out)
  have hz2 := hb2.size
  clear hb2 c0 c1 c2 c3 c4 lc
  have hdk : dk = 1 ∨ dk = 2 := hkd.imp (fun h => h.1) (fun h => h.1)
  rcases hdk with rfl | rfl
  · have HBB := hide (show cellB ⟨1, dd, dl, dh, dv⟩ = [1] ++ [UInt8.ofNat dd.length] ++ dd by
      unfold cellB
      rw [HCC.out, if_pos rfl, if_pos rfl]
      dsimp only
      rw [beB_one_one, beB_one_nat _ (by omega)])
    clear hkd
    have hnl : n ≤ 32 := by rw [HN.out]; exact hlen
    clear hlen
    have c0 := (HK2.out).cell 0
    have c1 := (HK2.out).cell 1
    have c2 := (HK2.out).cell 2
    have c3 := (HK2.out).cell 3
    have c4 := (HK2.out).cell 4
    have lc := (HK2.out).lt
    go_upto_region 5 with (fail)
    refine gen1 (R := fun W => Code.wp _ _ _ _ W) (fun W3 kS hb3 hz3 => ?_)
    have hl3 : Below w.heap.size w W3 := HL2.out.trans (hb3.mono HL2.out.size)
    have HL3 := hide hl3
    have HO3 := hide (one_own (x := 1) (L := w.heap.size) kS HL2.out.size)
    have HK3 := hide (Blk.via hb3 HK2.out)
    have hw3 := hl3.size
    clear kS hb3 hl3 c0 c1 c2 c3 c4 lc
    have c0 := (HK3.out).cell 0
    have c1 := (HK3.out).cell 1
    have c2 := (HK3.out).cell 2
    have c3 := (HK3.out).cell 3
    have c4 := (HK3.out).cell 4
    have lc := (HK3.out).lt
    have hn0 : (0 : Int) ≤ n := by omega
    have hn1 : (n : Int) < 256 := by omega
    go_upto_region 6 with (at_builtin; refine heldG ?_)
    have hq3 := Blk.new W3 5 #[.int .u8 ((n : Nat) : Int)]
    rw [byteV_ofNat (show n < 256 by omega)] at hq3
    have hr3 := Reads.of_blk (n := 1) (size := 1) hq3 rfl
    refine unheldG ?_
    at_builtin
    have ha3 : Below W3.heap.size W3 (W3.alloc (.cells #[.int .u8 ((n : Nat) : Int)] 5)) := (Below.refl _ _).alloc (Nat.le_refl _) _
    refine wpList_app rfl _ _ rfl w.heap.size _ 1 1 [1] rfl (HO3.out.via ha3) rfl (W3.heap.size + 1) _ 1 1 [UInt8.ofNat n] rfl (by rw [byteV_ofNat (show n < 256 by omega)]; exact hr3) rfl (by omega) w (HL3.out.trans (ha3.mono hw3)) (by simp; omega) ?_
    intro A4 c4' W4 ho4 hl4 hg4
    have HK4 := hide ((Blk.via ha3 HK3.out).keepB (HO3.out.via ha3) (by decide) hg4)
    have HO4 := hide (show OwnB W4 w.heap.size (.slice A4 2 c4') ([1] ++ [UInt8.ofNat n]) from ho4)
    have HL4 := hide hl4
    clear hq3 hr3 ha3 ho4 hl4 hg4 c0 c1 c2 c3 c4 lc
    have c0 := (HK4.out).cell 0
    have c1 := (HK4.out).cell 1
    have c2 := (HK4.out).cell 2
    have c3 := (HK4.out).cell 3
    have c4 := (HK4.out).cell 4
    have lc := (HK4.out).lt
    go_wp2_with (at_builtin; refine heldG ?_)
    have HR4 := hide (HR.out.below HL4.out hB)
    refine unheldG ?_
    at_builtin
    refine wpList_app rfl _ _ rfl w.heap.size _ 2 _ _ rfl HO4.out rfl B _ n _ dd rfl HR4.out HN.out (by omega) w HL4.out HL4.out.size ?_
    intro A5 c5 W5 ho5 hl5 hg5
    have HO5 := hide ho5
    have HL5 := hide hl5
    clear ho5 hl5 hg5 c0 c1 c2 c3 c4 lc
    go_wp2
    go_ret
    have hle : ([1] ++ [UInt8.ofNat dd.length] ++ dd : List UInt8).length = 2 + n := by rw [HN.out]; simp; omega
    rw [HBB.out, hle]
    rw [HN.out] at HO5 ⊢
    exact ⟨A5, c5, rfl, by simp; omega, HO5.out, HO5.out.reads.2, HL5.out⟩
  · have hdd : dd = [] := by
      rcases hkd with h | h
      · exact absurd h.1 (by decide)
      · exact h.2
    subst hdd
    have HBB := hide (show cellB ⟨2, [], dl, dh, dv⟩ = [2] ++ beB 8 dl ++ beB 8 dh ++ beB 8 dv by
      unfold cellB
      rw [HCC.out, if_pos rfl, if_neg (show ¬ (2 : Int) = 1 by decide)]
      dsimp only
      rw [beB_one_two])
    clear hkd hlen
    have c0 := (HK2.out).cell 0
    have c1 := (HK2.out).cell 1
    have c2 := (HK2.out).cell 2
    have c3 := (HK2.out).cell 3
    have c4 := (HK2.out).cell 4
    have lc := (HK2.out).lt
    go_upto_region 7 with (fail)
    refine gen1 (R := fun W => Code.wp _ _ _ _ W) (fun W3 kS hb3 hz3 => ?_)
    have hl3 : Below w.heap.size w W3 := HL2.out.trans (hb3.mono HL2.out.size)
    have HL3 := hide hl3
    have HO3 := hide (one_own (x := 2) (L := w.heap.size) kS HL2.out.size)
    have HK3 := hide (Blk.via hb3 HK2.out)
    clear kS hb3 hl3 c0 c1 c2 c3 c4 lc
    have c0 := (HK3.out).cell 0
    have c1 := (HK3.out).cell 1
    have c2 := (HK3.out).cell 2
    have c3 := (HK3.out).cell 3
    have c4 := (HK3.out).cell 4
    have lc := (HK3.out).lt
    go_wp2_with (first
      | (go_at_call 61; refine (HBY.out _ _).mono ?_; rintro e Wa ⟨⟨Aa, ca, rfl, hoa⟩, hba⟩)
      | (at_builtin; refine heldG ?_))
    refine unheldG ?_
    at_builtin
    have hla : Below w.heap.size w Wa := (HL3).out.trans (hba.mono (HL3).out.size)
    refine wpList_app rfl _ _ rfl w.heap.size _ 1 _ [2] rfl ((HO3).out.via hba) (by first | rfl | simp [beB_length]) Wa.heap.size Aa 8 ca (beB 8 dl) rfl hoa.reads.2 (by rw [beB_length]) (by omega) w hla hla.size ?_
    intro A4 c4' W4 ho4 hl4 hg4
    have hk4 := (Blk.via hba (HK3).out).keepB ((HO3).out.via hba) (by decide) hg4
    clear hla
    have HO4 := hide (show OwnB W4 w.heap.size (.slice A4 9 c4') ([2] ++ beB 8 dl) from ho4)
    have HK4 := hide hk4
    have HL4 := hide hl4
    clear ho4 hk4 hl4 hg4 hba hoa c0 c1 c2 c3 c4 lc
    have c0 := (HK4.out).cell 0
    have c1 := (HK4.out).cell 1
    have c2 := (HK4.out).cell 2
    have c3 := (HK4.out).cell 3
    have c4 := (HK4.out).cell 4
    have lc := (HK4.out).lt
    go_wp2_with (first
      | (go_at_call 61; refine (HBY.out _ _).mono ?_; rintro e Wa ⟨⟨Aa, ca, rfl, hoa⟩, hba⟩)
      | (at_builtin; refine heldG ?_))
    refine unheldG ?_
    at_builtin
    have hla : Below w.heap.size w Wa := (HL4).out.trans (hba.mono (HL4).out.size)
    refine wpList_app rfl _ _ rfl w.heap.size _ 9 _ _ rfl ((HO4).out.via hba) (by first | rfl | simp [beB_length]) Wa.heap.size Aa 8 ca (beB 8 dh) rfl hoa.reads.2 (by rw [beB_length]) (by omega) w hla hla.size ?_
    intro A4 c4' W4 ho4 hl4 hg4
    have hk4 := (Blk.via hba (HK4).out).keepB ((HO4).out.via hba) (by decide) hg4
    clear hla
    have HO4 := hide (show OwnB W4 w.heap.size (.slice A4 17 c4') ([2] ++ beB 8 dl ++ beB 8 dh) from ho4)
    have HK4 := hide hk4
    have HL4 := hide hl4
    clear ho4 hk4 hl4 hg4 hba hoa c0 c1 c2 c3 c4 lc
    have c0 := (HK4.out).cell 0
    have c1 := (HK4.out).cell 1
    have c2 := (HK4.out).cell 2
    have c3 := (HK4.out).cell 3
    have c4 := (HK4.out).cell 4
    have lc := (HK4.out).lt
    go_wp2_with (first
      | (go_at_call 61; refine (HBY.out _ _).mono ?_; rintro e Wa ⟨⟨Aa, ca, rfl, hoa⟩, hba⟩)
      | (at_builtin; refine heldG ?_))
    refine unheldG ?_
    at_builtin
    have hla : Below w.heap.size w Wa := (HL4).out.trans (hba.mono (HL4).out.size)
    refine wpList_app rfl _ _ rfl w.heap.size _ 17 _ _ rfl ((HO4).out.via hba) (by first | rfl | simp [beB_length]) Wa.heap.size Aa 8 ca (beB 8 dv) rfl hoa.reads.2 (by rw [beB_length]) (by omega) w hla hla.size ?_
    intro A4 c4' W4 ho4 hl4 hg4
    have hk4 := (Blk.via hba (HK4).out).keepB ((HO4).out.via hba) (by decide) hg4
    clear hla
    have HO4 := hide (show OwnB W4 w.heap.size (.slice A4 25 c4') ([2] ++ beB 8 dl ++ beB 8 dh ++ beB 8 dv) from ho4)
    have HL4 := hide hl4
    clear ho4 hk4 hl4 hg4 hba hoa c0 c1 c2 c3 c4 lc
    go_wp2
    go_ret
    have hle : ([2] ++ beB 8 dl ++ beB 8 dh ++ beB 8 dv : List UInt8).length = 25 := by simp [beB_length]
    rw [HBB.out, hle]
    exact ⟨A4, c4', rfl, hle.symm, HO4.out, HO4.out.reads.2, HL4.out⟩
end Go.Proofs.YtnanlaefehaifaaGreat
namespace Go.Proofs.YtnanlaefehaifaaGreat
open Go.RowKit
def SlotGP (w : World) (o : Option ItemD) (e : Ending) (w' : World) : Prop :=
  ((o = none ∧ e = .returned (.tuple #[itemV 0 ⟨#[]⟩ ⟨0, [], 0, 0, 0⟩ (.slice none 0 0), .int .i64 12])) ∨ (∃ x cv, o = some x ∧ e = .returned (.tuple #[itemV x.st x.key x.cell cv, .int .i64 0]) ∧ BytesAt w' w'.heap.size cv x.cell.data)) ∧ Below w.heap.size w w'
theorem info_itemK : (Tryz.prog.info? 37).map (·.size) = some 7 := by kernel_rfl
theorem results_row_1 {fn : Func} {p t2 : Tmp} {ty : TypeId} (h : fn.results = #[.cell p ty, .tmp t2]) (tmps : Array Value) (w : World) (g : Nat) (cs : Array Value)
    (hp : tmps.getD p undef = .pointer (some ⟨g, 0, none⟩)) (hl : (loadVar ty ⟨g, 0, none⟩).run Tryz.prog w = .ok (.agg cs) w) :
    (results fn tmps).run Tryz.prog w = .ok (.tuple #[.agg cs, tmps.getD t2 undef]) w := by
  have hp' : tmps[p]?.getD undef = .pointer (some ⟨g, 0, none⟩) := by simpa using hp
  simp [results, h, hp', asAddr, hl]
theorem zeros64K : (List.replicate 64 (0 : UInt8)) = pad64 [] := rfl
theorem noGuard64 : Tryz.prog.eqGuardType Tryz.prog.depth 233 = false := by kernel_rfl
theorem slotGet_any (bs : List UInt8) (hl : bs.length = 64) (w : World) : Calls Tryz.prog 147 #[.agg (bs.map byteV).toArray] w (SlotGP w (slotG bs)) := by
  have HQ0 := hide (fun W => run_eqB 233 64 9998 Tryz.underlying233 bs (pad64 []) hl (pad64_length (by simp)) W)
  have HQX := hide (fun (ys : List UInt8) (hy : ys.length = 64) W => run_eqB 233 64 9998 Tryz.underlying233 ys bs hy hl W)
  have HG := hide (show slotG bs = (if bs = pad64 [] then some item0 else if 16 < slotN bs then none else slotD bs (cellG (bs.drop (2 + slotN bs)))) from rfl)
  obtain ⟨x0, hx0⟩ : ∃ x, bs[0]? = some x := ⟨_, List.getElem?_eq_getElem (by omega)⟩
  obtain ⟨x1, hx1⟩ : ∃ x, bs[1]? = some x := ⟨_, List.getElem?_eq_getElem (by omega)⟩
  have H0 := hide (show slotS bs = x0.toNat by unfold slotS; rw [List.getD_eq_getElem?_getD, hx0]; rfl)
  have H1 := hide (show slotN bs = x1.toNat by unfold slotN; rw [List.getD_eq_getElem?_getD, hx1]; rfl)
  have hX0 : ((bs.map byteV).toArray)[0]? = some (.int .u8 ((x0.toNat : Nat) : Int)) := by rw [List.getElem?_toArray, List.getElem?_map, hx0]; rfl
  have hX1 : ((bs.map byteV).toArray)[1]? = some (.int .u8 ((x1.toNat : Nat) : Int)) := by rw [List.getElem?_toArray, List.getElem?_map, hx1]; rfl
  have HX0 := hide hX0
  have HX1 := hide hX1
  have hxl0 := x0.toNat_lt
  have hxl1 := x1.toNat_lt
  have HNG := hide noGuard64
  have HL := hide hl
  have HII := hide (show (Tryz.prog.info? 233).map (·.size) = some ((bs.map byteV).toArray).size by rw [List.size_toArray, List.length_map, hl]; kernel_rfl)
  have hreads : ∀ (W : World) (g : Nat), Blk W g 233 (bs.map byteV).toArray → Reads W (g + 1) 1 (some ⟨g, 0, none⟩) 64 (bs.map byteV) := fun W g k => by
    have h := Reads.of_blk (n := 64) (size := 1) k (by simp [hl])
    simpa using h
  have HRD := hide (fun (W : World) (g m : Nat) (k : Blk W g 233 (bs.map byteV).toArray) (hm : m ≤ 16) => (show Reads W (g + 1) 1 (some ⟨g, 2 + m, none⟩) (62 - m) ((bs.drop (2 + m)).map byteV) by
    have h := (hreads W g k).cut (k := 2 + m) (cap := 64) (by omega) (by omega)
    rw [if_neg (by omega), Option.map_some, add_plain, Nat.mul_one, Nat.zero_add] at h
    rw [List.map_drop, show 62 - m = 64 - (2 + m) by omega]
    exact h))
  have HKY := hide (fun (W : World) (g m : Nat) (k : Blk W g 233 (bs.map byteV).toArray) (hm : m ≤ 16) => (show Reads W (g + 1) 1 (some ⟨g, 2, none⟩) m ((cutB bs 2 m).map byteV) by
    have h := ((hreads W g k).cut (k := 2) (cap := 64) (by omega) (by omega)).take (k := m) (by omega)
    rw [if_neg (by omega), Option.map_some, add_plain, Nat.mul_one, Nat.mul_one, Nat.zero_add] at h
    unfold cutB
    rw [List.map_take, List.map_drop]
    exact h))
  generalize hn0 : x0.toNat = n0 at *
  generalize hn1 : x1.toNat = n1 at *
  generalize hX : (bs.map byteV).toArray = X at *
  clear hx0 hx1 hX0 hX1 hreads hn0 hn1 hX hl
  go_enter Tryz.func147, Tryz.ntmps147
  go_upto_region 1 with (fail)
  refine gen2 (R := fun W => Code.wp _ _ _ _ W) (fun W1 kB kR hb1 hz1 => ?_)
  have HKB := hide kB
  have HKR := hide kR
  have HB1 := hide hb1
  have q1 : W1.cell? ⟨w.heap.size, 1, none⟩ = some _ := (kB.cell 1).trans HX1.out
  have lB := kB.lt
  clear kB kR hb1
  by_cases hz : bs = pad64 []
  · have HGG := hide (show slotG bs = some item0 by rw [HG.out, if_pos hz])
    have hq := fun W => HQ0.out W
    rw [show (bs == pad64 []) = true by rw [hz]; exact beq_self_eq_true _] at hq
    clear hz
    have c20 := (HKR.out).cell 0
    have c21 := (HKR.out).cell 1
    have c22 := (HKR.out).cell 2
    have c23 := (HKR.out).cell 3
    have c24 := (HKR.out).cell 4
    have c25 := (HKR.out).cell 5
    have c26 := (HKR.out).cell 6
    have f20 := (HKR.out).frozen 0
    have f21 := (HKR.out).frozen 1
    have f22 := (HKR.out).frozen 2
    have f23 := (HKR.out).frozen 3
    have f24 := (HKR.out).frozen 4
    have f25 := (HKR.out).frozen 5
    have f26 := (HKR.out).frozen 6
    have l20 := (HKR.out).lt
    have hng := HNG.out
    rw [← zeros64] at hq
    go_wp2_with (refine wpList_load_row rfl 233 (.tmp 1) rfl w.heap.size rfl 233 X (0, 0) _ HKB.out Tryz.underlying233 rfl HII.out ?_)
    refine bodyPost_ret (results_row_1 Tryz.results147 _ _ (w.heap.size + 1) #[.int .i64 0, .string ⟨#[]⟩, .int .i64 0, .slice none 0 0, .int .i64 0, .int .i64 0, .int .i64 0] rfl (run_loadVar_row _ _ _ _ #[.int .i64 0, .string ⟨#[]⟩, .int .i64 0, .slice none 0 0, .int .i64 0, .int .i64 0, .int .i64 0] (0, 0) _ (((((((Blk.set_ HKR.out 0 _).set_ 1 _).set_ 2 _).set_ 3 _).set_ 4 _).set_ 5 _).set_ 6 _) Tryz.underlying37 rfl info_itemK)) rfl ⟨?_, (((((((Below.setCell HB1.out (p := ⟨w.heap.size + 1, 0, none⟩) (Nat.le_succ _) _).setCell (p := ⟨w.heap.size + 1, 1, none⟩) (Nat.le_succ _) _).setCell (p := ⟨w.heap.size + 1, 2, none⟩) (Nat.le_succ _) _).setCell (p := ⟨w.heap.size + 1, 3, none⟩) (Nat.le_succ _) _).setCell (p := ⟨w.heap.size + 1, 4, none⟩) (Nat.le_succ _) _).setCell (p := ⟨w.heap.size + 1, 5, none⟩) (Nat.le_succ _) _).setCell (p := ⟨w.heap.size + 1, 6, none⟩) (Nat.le_succ _) _)⟩
    refine .inr ⟨item0, .slice none 0 0, HGG.out, rfl, bytes_none _ _⟩
  have hq := fun W => HQ0.out W
  rw [show (bs == pad64 []) = false by rw [beq_eq_false_iff_ne]; exact hz, ← zeros64] at hq
  have HQ1 := hide hq
  have hng := HNG.out
  have HG1 := hide (show slotG bs = (if 16 < n1 then none else slotD bs (cellG (bs.drop (2 + n1)))) by rw [HG.out, if_neg hz, H1.out])
  clear hq hz
  have hq := fun W => HQ1.out W
  go_upto_region 3 with (refine wpList_load_row rfl 233 (.tmp 1) rfl w.heap.size rfl 233 X (0, 0) _ HKB.out Tryz.underlying233 rfl HII.out ?_)
  clear hq
  by_cases h16 : (16 : Int) < n1
  · have HGG := hide (show slotG bs = none by rw [HG1.out, if_pos (by omega)])
    have c20 := (HKR.out).cell 0
    have c21 := (HKR.out).cell 1
    have c22 := (HKR.out).cell 2
    have c23 := (HKR.out).cell 3
    have c24 := (HKR.out).cell 4
    have c25 := (HKR.out).cell 5
    have c26 := (HKR.out).cell 6
    have f20 := (HKR.out).frozen 0
    have f21 := (HKR.out).frozen 1
    have f22 := (HKR.out).frozen 2
    have f23 := (HKR.out).frozen 3
    have f24 := (HKR.out).frozen 4
    have f25 := (HKR.out).frozen 5
    have f26 := (HKR.out).frozen 6
    have l20 := (HKR.out).lt
    go_wp2
    refine bodyPost_ret (results_row_1 Tryz.results147 _ _ (w.heap.size + 1) #[.int .i64 0, .string ⟨#[]⟩, .int .i64 0, .slice none 0 0, .int .i64 0, .int .i64 0, .int .i64 0] rfl (run_loadVar_row _ _ _ _ #[.int .i64 0, .string ⟨#[]⟩, .int .i64 0, .slice none 0 0, .int .i64 0, .int .i64 0, .int .i64 0] (0, 0) _ (((((((Blk.set_ HKR.out 0 _).set_ 1 _).set_ 2 _).set_ 3 _).set_ 4 _).set_ 5 _).set_ 6 _) Tryz.underlying37 rfl info_itemK)) rfl ⟨?_, (((((((Below.setCell HB1.out (p := ⟨w.heap.size + 1, 0, none⟩) (Nat.le_succ _) _).setCell (p := ⟨w.heap.size + 1, 1, none⟩) (Nat.le_succ _) _).setCell (p := ⟨w.heap.size + 1, 2, none⟩) (Nat.le_succ _) _).setCell (p := ⟨w.heap.size + 1, 3, none⟩) (Nat.le_succ _) _).setCell (p := ⟨w.heap.size + 1, 4, none⟩) (Nat.le_succ _) _).setCell (p := ⟨w.heap.size + 1, 5, none⟩) (Nat.le_succ _) _).setCell (p := ⟨w.heap.size + 1, 6, none⟩) (Nat.le_succ _) _)⟩
    exact .inl ⟨HGG.out, rfl⟩
  have HGC := hide (show slotG bs = slotD bs (cellG (bs.drop (2 + n1))) by rw [HG1.out, if_neg (by omega)])
  have h16n : n1 ≤ 16 := by omega
  obtain ⟨K, hK⟩ : ∃ K, K = slotK bs := ⟨_, rfl⟩
  have hKb : K = ⟨(cutB bs 2 n1).toArray⟩ := by rw [hK]; unfold slotK; rw [H1.out]
  have HK := hide hK
  have HST := hide (fun (W : World) (k : Blk W w.heap.size 233 X) => (show (convert 33 9 (.slice (some ⟨w.heap.size, 2, none⟩) n1 62)).run Tryz.prog W = .ok (.string K) W from hKb ▸ run_string_of (HKY.out W w.heap.size n1 k h16n) 33 5 9 Tryz.underlying33 Tryz.underlying5 Tryz.underlying9))
  clear hK hKb
  have i1 : (2 : Int) ≤ 2 + (n1 : Int) := by omega
  have i2 : 2 + (n1 : Int) ≤ 64 := by omega
  have i0 : (0 : Int) ≤ 2 + (n1 : Int) := by omega
  go_upto_region 6 with (fail)
  refine wp_region_inv_tail 9 [fun v _ => v = .pointer (some ⟨w.heap.size, 0, none⟩), fun v _ => v = .int .u8 ((n0 : Nat) : Int), fun v _ => v = .int .i64 ((n0 : Nat) : Int), fun v _ => v = .int .i64 ((n1 : Nat) : Int), fun v _ => v = .int .i64 (2 + ((n1 : Nat) : Int)), fun v _ => v = .slice (some ⟨w.heap.size, 2, none⟩) n1 62, fun v _ => v = .string K, fun v _ => v = .agg #[.int .i64 ((n0 : Nat) : Int), .string K, .int .i64 0, .slice none 0 0, .int .i64 0, .int .i64 0, .int .i64 0], fun v W => ∃ g, v = .pointer (some ⟨g, 0, none⟩) ∧ W1.heap.size ≤ g ∧ Blk W g 37 #[.int .i64 0, .string ⟨#[]⟩, .int .i64 0, .slice none 0 0, .int .i64 0, .int .i64 0, .int .i64 0]] (by kernel_rfl) (by kernel_rfl) (by kernel_rfl) (by kernel_rfl) (by kernel_rfl) (by first | simp | decide) (by kernel_rfl) ?st ?steps ?fin
  case st =>
    intro i v W W' hWW h
    match i with
    | 0 | 1 | 2 | 3 | 4 | 5 | 6 | 7 => exact h
    | 8 => obtain ⟨g, h1, h2, h3⟩ := h; exact ⟨g, h1, h2, Blk.via hWW h3⟩
    | (i + 9) => exact h
  case steps =>
    simp only [stepsT, List.take_succ_cons, List.take_zero]
    refine ⟨?_, ?_, ?_, ?_, ?_, ?_, ?_, ?_, ?_, trivial⟩
    · intro f W hbW hdp
      simp only [fS, Nat.reduceAdd]
      go_wp2
      exact ⟨rfl, _, rfl, rfl, Below.refl _ _⟩
    · intro f W hbW hdp
      have e0 : f 0 = .pointer (some ⟨w.heap.size, 0, none⟩) := hdp ⟨0, .data⟩ (mfl (by simp) rfl)
      have q : W.cell? ⟨w.heap.size, 0, none⟩ = some _ := ((Blk.via hbW HKB.out).cell 0).trans HX0.out
      simp only [fS, Nat.reduceAdd, e0]
      go_wp2
      exact ⟨rfl, _, rfl, rfl, Below.refl _ _⟩
    · intro f W hbW hdp
      have e1 : f 1 = .int .u8 ((n0 : Nat) : Int) := hdp ⟨1, .data⟩ (mfl (by simp) rfl)
      simp only [fS, Nat.reduceAdd, e1]
      go_wp2
      exact ⟨rfl, _, rfl, rfl, Below.refl _ _⟩
    · intro f W hbW hdp
      simp only [fS, Nat.reduceAdd]
      go_wp2
      exact ⟨rfl, _, rfl, rfl, Below.refl _ _⟩
    · intro f W hbW hdp
      have e3 : f 3 = .int .i64 ((n1 : Nat) : Int) := hdp ⟨3, .data⟩ (mfl (by simp) rfl)
      simp only [fS, Nat.reduceAdd, e3]
      go_wp2
      exact ⟨rfl, _, rfl, rfl, Below.refl _ _⟩
    · intro f W hbW hdp
      have e4 : f 4 = .int .i64 (2 + ((n1 : Nat) : Int)) := hdp ⟨4, .data⟩ (mfl (by simp) rfl)
      simp only [fS, Nat.reduceAdd, e4]
      go_wp2
      exact ⟨rfl, _, rfl, rfl, Below.refl _ _⟩
    · intro f W hbW hdp
      have e5 : f 5 = .slice (some ⟨w.heap.size, 2, none⟩) n1 62 := hdp ⟨5, .data⟩ (mfl (by simp) rfl)
      have hs := HST.out W (Blk.via hbW HKB.out)
      simp only [fS, Nat.reduceAdd, e5]
      go_wp2
      exact ⟨rfl, _, rfl, rfl, Below.refl _ _⟩
    · intro f W hbW hdp
      have e2 : f 2 = .int .i64 ((n0 : Nat) : Int) := hdp ⟨2, .data⟩ (mfl (by simp) rfl)
      have e6 : f 6 = .string K := hdp ⟨6, .data⟩ (mfl (by simp) rfl)
      simp only [fS, Nat.reduceAdd, e2, e6]
      go_wp2
      exact ⟨rfl, _, rfl, rfl, Below.refl _ _⟩
    · intro f W hbW hdp
      simp only [fS, Nat.reduceAdd]
      go_wp2
      exact ⟨rfl, _, rfl, ⟨_, rfl, hbW.size, Blk.new _ _ _⟩, (Below.refl _ _).alloc (Nat.le_refl _) _⟩
  case fin =>
    intro f W hbW hA
    have a8 : ∃ g, (f 8) = .pointer (some ⟨g, 0, none⟩) ∧ W1.heap.size ≤ g ∧ Blk W g 37 #[.int .i64 0, .string ⟨#[]⟩, .int .i64 0, .slice none 0 0, .int .i64 0, .int .i64 0, .int .i64 0] := hA 8 (by omega)
    have e7 : f 7 = .agg #[.int .i64 ((n0 : Nat) : Int), .string K, .int .i64 0, .slice none 0 0, .int .i64 0, .int .i64 0, .int .i64 0] := hA 7 (by omega)
    simp only [List.drop_succ_cons, List.drop_zero, List.take_succ_cons, List.take_zero, fillF, Act.put, List.setIfInBounds_toArray, List.set_cons_succ, List.set_cons_zero, Nat.reduceAdd, e7]
    clear hA e7
    obtain ⟨g, e8, hg, kg⟩ := a8
    have HKG := hide kg
    have HBW := hide hbW
    have lg := kg.lt
    clear hbW kg
    simp only [e8]
    clear e8
    have c20 := (HKG.out).cell 0
    have c21 := (HKG.out).cell 1
    have c22 := (HKG.out).cell 2
    have c23 := (HKG.out).cell 3
    have c24 := (HKG.out).cell 4
    have c25 := (HKG.out).cell 5
    have c26 := (HKG.out).cell 6
    have f20 := (HKG.out).frozen 0
    have f21 := (HKG.out).frozen 1
    have f22 := (HKG.out).frozen 2
    have f23 := (HKG.out).frozen 3
    have f24 := (HKG.out).frozen 4
    have f25 := (HKG.out).frozen 5
    have f26 := (HKG.out).frozen 6
    have l20 := (HKG.out).lt
    go_upto_region 7 with (fail)
    refine nameW (w := World.setCell _ _ _) (R := fun V => Code.wp _ _ _ _ V) (fun W2 hW2 => ?_)
    have kg2 : Blk W2 g 37 #[.int .i64 ((n0 : Nat) : Int), .string K, .int .i64 0, .slice none 0 0, .int .i64 0, .int .i64 0, .int .i64 0] := hW2 ▸ (((((((Blk.set_ HKG.out 0 _).set_ 1 _).set_ 2 _).set_ 3 _).set_ 4 _).set_ 5 _).set_ 6 _)
    have hb2 : Below W1.heap.size W1 W2 := hW2 ▸ (((((((Below.setCell HBW.out (p := ⟨g, 0, none⟩) hg _).setCell (p := ⟨g, 1, none⟩) hg _).setCell (p := ⟨g, 2, none⟩) hg _).setCell (p := ⟨g, 3, none⟩) hg _).setCell (p := ⟨g, 4, none⟩) hg _).setCell (p := ⟨g, 5, none⟩) hg _).setCell (p := ⟨g, 6, none⟩) hg _)
    have hb1s := HB1.out.size
    have kB2 := Blk.via hb2 HKB.out
    have HKB2 := hide kB2
    have HKR2 := hide (Blk.via hb2 HKR.out)
    have HKG2 := hide kg2
    have HL2 := hide (HB1.out.trans (hb2.mono hb1s))
    have hz2 := hb2.size
    have HCG := hide (fun (n c : Nat) (hn : n = 62 - n1) (hc : c = 62 - n1) => (show Calls Tryz.prog 202 #[.slice (some ⟨w.heap.size, 2 + n1, none⟩) n c] W2 (CellGP W2 (cellG (bs.drop (2 + n1)))) by
      subst hn hc
      exact cellGet_any (some ⟨w.heap.size, 2 + n1, none⟩) (62 - n1) (62 - n1) (bs.drop (2 + n1)) (w.heap.size + 1) W2 (by omega) (by omega) (by omega) (Nat.le_refl _) (by rw [List.length_drop, HL.out]; omega) (HRD.out W2 w.heap.size n1 kB2 h16n)))
    clear hW2 kg2 hb2 kB2 c20 c21 c22 c23 c24 c25 c26 f20 f21 f22 f23 f24 f25 f26 l20 q1
    go_wp2_with fail
    refine (HCG.out _ _ (by omega) (by omega)).mono ?_
    rintro e W3 ⟨hcase, hb3⟩
    have HB3 := hide hb3
    have HKR3 := hide (Blk.via hb3 HKR2.out)
    have HKG3 := hide (Blk.via hb3 HKG2.out)
    have HKB3 := hide (Blk.via hb3 HKB2.out)
    have HL3 := hide (HL2.out.trans (hb3.mono HL2.out.size))
    have hz3 := hb3.size
    clear hb3
    rcases hcase with ⟨hno, sz, er, rfl, her⟩ | ⟨d, A, nn, cc, sz, hyes, rfl, hbytes⟩
    · have HGG := hide (show slotG bs = none by rw [HGC.out, hno]; rfl)
      have her2 : (er != 0) = true := by simpa using her
      clear hno her
      go_upto_region 9 with (fail)
      refine gen1 (R := fun W => Code.wp _ _ _ _ W) (fun W4 kC hb4 hz4 => ?_)
      have HKR4 := hide (Blk.via hb4 HKR3.out)
      have HL4 := hide (HL3.out.trans (hb4.mono HL3.out.size))
      clear kC hb4
      have c20 := (HKR4.out).cell 0
      have c21 := (HKR4.out).cell 1
      have c22 := (HKR4.out).cell 2
      have c23 := (HKR4.out).cell 3
      have c24 := (HKR4.out).cell 4
      have c25 := (HKR4.out).cell 5
      have c26 := (HKR4.out).cell 6
      have f20 := (HKR4.out).frozen 0
      have f21 := (HKR4.out).frozen 1
      have f22 := (HKR4.out).frozen 2
      have f23 := (HKR4.out).frozen 3
      have f24 := (HKR4.out).frozen 4
      have f25 := (HKR4.out).frozen 5
      have f26 := (HKR4.out).frozen 6
      have l20 := (HKR4.out).lt
      go_wp2_with fail
      refine bodyPost_ret (results_row_1 Tryz.results147 _ _ (w.heap.size + 1) #[.int .i64 0, .string ⟨#[]⟩, .int .i64 0, .slice none 0 0, .int .i64 0, .int .i64 0, .int .i64 0] rfl (run_loadVar_row _ _ _ _ #[.int .i64 0, .string ⟨#[]⟩, .int .i64 0, .slice none 0 0, .int .i64 0, .int .i64 0, .int .i64 0] (0, 0) _ (((((((Blk.set_ HKR4.out 0 _).set_ 1 _).set_ 2 _).set_ 3 _).set_ 4 _).set_ 5 _).set_ 6 _) Tryz.underlying37 rfl info_itemK)) rfl ⟨?_, (((((((Below.setCell HL4.out (p := ⟨w.heap.size + 1, 0, none⟩) (Nat.le_succ _) _).setCell (p := ⟨w.heap.size + 1, 1, none⟩) (Nat.le_succ _) _).setCell (p := ⟨w.heap.size + 1, 2, none⟩) (Nat.le_succ _) _).setCell (p := ⟨w.heap.size + 1, 3, none⟩) (Nat.le_succ _) _).setCell (p := ⟨w.heap.size + 1, 4, none⟩) (Nat.le_succ _) _).setCell (p := ⟨w.heap.size + 1, 5, none⟩) (Nat.le_succ _) _).setCell (p := ⟨w.heap.size + 1, 6, none⟩) (Nat.le_succ _) _)⟩
      exact .inl ⟨HGG.out, rfl⟩
    have hnn : nn = d.data.length := by
      obtain ⟨A', n', c', e, _, _, hn', _⟩ := hbytes
      injection e with _ e2 _
      omega
    have HNN := hide hnn
    have HYES := hide (show slotG bs = if slotOk bs d then some ⟨slotS bs, slotK bs, d⟩ else none by rw [HGC.out, hyes]; rfl)
    have HBY := hide hbytes
    obtain ⟨dk, dd, dl, dh, dv⟩ := d
    dsimp only at *
    clear hyes hbytes hnn
    go_upto_region 10 with (fail)
    refine gen1 (R := fun W => Code.wp _ _ _ _ W) (fun W4 kC hb4 hz4 => ?_)
    have z0 := kC.cell 0
    have z1 := kC.cell 1
    have z2 := kC.cell 2
    have z3 := kC.cell 3
    have z4 := kC.cell 4
    have hy4 := HBY.out.below hb4 (Nat.le_refl _)
    have HKR4 := hide (Blk.via hb4 HKR3.out)
    have HKG4 := hide (Blk.via hb4 HKG3.out)
    have HKB4 := hide (Blk.via hb4 HKB3.out)
    have HL4 := hide (HL3.out.trans (hb4.mono HL3.out.size))
    have HY4 := hide hy4
    clear kC hb4 hy4
    have c20 := (HKG4.out).cell 0
    have c21 := (HKG4.out).cell 1
    have c22 := (HKG4.out).cell 2
    have c23 := (HKG4.out).cell 3
    have c24 := (HKG4.out).cell 4
    have c25 := (HKG4.out).cell 5
    have c26 := (HKG4.out).cell 6
    have f20 := (HKG4.out).frozen 0
    have f21 := (HKG4.out).frozen 1
    have f22 := (HKG4.out).frozen 2
    have f23 := (HKG4.out).frozen 3
    have f24 := (HKG4.out).frozen 4
    have f25 := (HKG4.out).frozen 5
    have f26 := (HKG4.out).frozen 6
    have l20 := (HKG4.out).lt
    go_upto_region 11 with (fail)
    refine nameW (w := World.setCell _ _ _) (R := fun V => Code.wp _ _ _ _ V) (fun W5 hW5 => ?_)
    have hgw : w.heap.size + 1 < g := by have := HKR.out.lt; omega
    have kg5 : Blk W5 g 37 #[.int .i64 ((n0 : Nat) : Int), .string K, .int .i64 dk, .slice A nn cc, .int .i64 dl, .int .i64 dh, .int .i64 dv] := hW5 ▸ (((((Blk.set_ HKG4.out 2 _).set_ 3 _).set_ 4 _).set_ 5 _).set_ 6 _)
    have hl5 : Below w.heap.size w W5 := hW5 ▸ (((((Below.setCell HL4.out (p := ⟨g, 2, none⟩) (show w.heap.size ≤ g by omega) _).setCell (p := ⟨g, 3, none⟩) (show w.heap.size ≤ g by omega) _).setCell (p := ⟨g, 4, none⟩) (show w.heap.size ≤ g by omega) _).setCell (p := ⟨g, 5, none⟩) (show w.heap.size ≤ g by omega) _).setCell (p := ⟨g, 6, none⟩) (show w.heap.size ≤ g by omega) _)
    have hy5 : BytesAt W5 W3.heap.size (.slice A nn cc) dd := hW5 ▸ (((((HY4.out.setOther HKG4.out rfl 2 _).setOther (HKG4.out.set_ 2 _) rfl 3 _).setOther ((HKG4.out.set_ 2 _).set_ 3 _) rfl 4 _).setOther (((HKG4.out.set_ 2 _).set_ 3 _).set_ 4 _) rfl 5 _).setOther ((((HKG4.out.set_ 2 _).set_ 3 _).set_ 4 _).set_ 5 _) rfl 6 _)
    have hs5 : W5.heap.size = W4.heap.size := by rw [hW5]; simp [World.setCell]
    have hkr5 : Blk W5 (w.heap.size + 1) 37 #[.int .i64 0, .string ⟨#[]⟩, .int .i64 0, .slice none 0 0, .int .i64 0, .int .i64 0, .int .i64 0] := hW5 ▸ (((((HKR4.out.far (p := ⟨g, 2, none⟩) (show w.heap.size + 1 ≠ g by omega) _).far (p := ⟨g, 3, none⟩) (show w.heap.size + 1 ≠ g by omega) _).far (p := ⟨g, 4, none⟩) (show w.heap.size + 1 ≠ g by omega) _).far (p := ⟨g, 5, none⟩) (show w.heap.size + 1 ≠ g by omega) _).far (p := ⟨g, 6, none⟩) (show w.heap.size + 1 ≠ g by omega) _)
    have hkb5 : Blk W5 w.heap.size 233 X := hW5 ▸ (((((HKB4.out.far (p := ⟨g, 2, none⟩) (show w.heap.size ≠ g by omega) _).far (p := ⟨g, 3, none⟩) (show w.heap.size ≠ g by omega) _).far (p := ⟨g, 4, none⟩) (show w.heap.size ≠ g by omega) _).far (p := ⟨g, 5, none⟩) (show w.heap.size ≠ g by omega) _).far (p := ⟨g, 6, none⟩) (show w.heap.size ≠ g by omega) _)
    have hy5' := hy5.more (show W3.heap.size ≤ W5.heap.size by omega)
    have hks : K.size ≤ 16 := by
      rw [HK.out]
      unfold slotK cutB
      show ((bs.drop 2).take (slotN bs)).toArray.size ≤ 16
      rw [List.size_toArray, List.length_take, H1.out]
      omega
    have HCK := hide (fun W (hb : Below W5.heap.size W5 W) => slotCheck_any ((n0 : Nat) : Int) K ⟨dk, dd, dl, dh, dv⟩ (.slice A nn cc) W5.heap.size W (by omega) hb.size (hy5'.below hb (Nat.le_refl _)))
    have HPT := hide (fun W (hb : Below W5.heap.size W5 W) => slotPut_any ((n0 : Nat) : Int) K ⟨dk, dd, dl, dh, dv⟩ A nn cc W5.heap.size W (by omega) hb.size HNN.out (hy5'.below hb (Nat.le_refl _)))
    have HKG5 := hide kg5
    have HL5 := hide hl5
    have HY5 := hide hy5'
    have HKR5 := hide hkr5
    have HKB5 := hide hkb5
    clear hW5 kg5 hl5 hy5 hy5' hkr5 hkb5 c20 c21 c22 c23 c24 c25 c26 f20 f21 f22 f23 f24 f25 f26 l20 z0 z1 z2 z3 z4 hks
    have hpl := pad64_length (itemB_le ((n0 : Nat) : Int) K ⟨dk, dd, dl, dh, dv⟩)
    unfold itemV at HCK HPT
    dsimp only at HCK HPT
    cases hri : rightI ((n0 : Nat) : Int) K ⟨dk, dd, dl, dh, dv⟩
    · have hce : itemE ((n0 : Nat) : Int) K ⟨dk, dd, dl, dh, dv⟩ = 1 := by unfold itemE; rw [hri]; rfl
      rw [hce] at HCK
      have HGG := hide (show slotG bs = none by
        rw [HYES.out, if_neg]
        rintro ⟨h, _⟩
        rw [H0.out, ← HK.out, hri] at h
        cases h)
      clear hce hri hpl
      refine wp_region_inv [fun v _ => v = .agg #[.int .i64 ((n0 : Nat) : Int), .string K, .int .i64 dk, .slice A nn cc, .int .i64 dl, .int .i64 dh, .int .i64 dv], fun v _ => v = .int .i64 1, fun v _ => v = .bool true, fun v _ => v = .bool true, fun v _ => v = undef, fun v _ => v = undef, fun v _ => v = undef, fun v _ => v = undef, fun v _ => v = .bool true] (by kernel_rfl) (by kernel_rfl) (by kernel_rfl) ?st ?steps ?fin
      case st =>
        intro i v W W' hWW h
        match i with
        | 0 | 1 | 2 | 3 | 4 | 5 | 6 | 7 | 8 => exact h
        | (i + 9) => exact h
      case steps =>
        simp only [stepsI]
        refine ⟨?_, ?_, ?_, ?_, ?_, ?_, ?_, ?_, ?_, trivial⟩
        · intro f W hbW hdp
          have kg := Blk.via hbW HKG5.out
          have y0 := kg.cell 0
          have y1 := kg.cell 1
          have y2 := kg.cell 2
          have y3 := kg.cell 3
          have y4 := kg.cell 4
          have y5 := kg.cell 5
          have y6 := kg.cell 6
          clear kg
          simp only [fS, Nat.reduceAdd]
          go_wp2
          exact ⟨rfl, _, rfl, rfl, Below.refl _ _⟩
        · intro f W hbW hdp
          have e0 : f 0 = .agg #[.int .i64 ((n0 : Nat) : Int), .string K, .int .i64 dk, .slice A nn cc, .int .i64 dl, .int .i64 dh, .int .i64 dv] := hdp ⟨0, .data⟩ (mfl (by simp) rfl)
          simp only [fS, Nat.reduceAdd, e0]
          go_wp2_with (go_at_call 203; refine (HCK.out _ hbW).mono ?_; rintro e w' ⟨rfl, hb'⟩)
          exact ⟨rfl, _, rfl, rfl, hb'⟩
        · intro f W hbW hdp
          have e1 : f 1 = .int .i64 1 := hdp ⟨1, .data⟩ (mfl (by simp) rfl)
          simp only [fS, Nat.reduceAdd, e1]
          go_wp2
          exact ⟨rfl, _, rfl, rfl, Below.refl _ _⟩
        · intro f W hbW hdp
          have e2 : f 2 = .bool true := hdp ⟨2, .data⟩ (mfl (by simp) rfl)
          simp only [fS, Nat.reduceAdd, e2]
          go_wp2
          exact ⟨rfl, _, rfl, rfl, Below.refl _ _⟩
        · intro f W hbW hdp
          have e3 : f 3 = .bool true := hdp ⟨3, .guard⟩ (mfl (by simp) rfl)
          simp only [fS, Nat.reduceAdd, e3]
          go_wp2
          exact ⟨rfl, _, rfl, rfl, Below.refl _ _⟩
        · intro f W hbW hdp
          have e3 : f 3 = .bool true := hdp ⟨3, .guard⟩ (mfl (by simp) rfl)
          simp only [fS, Nat.reduceAdd, e3]
          go_wp2
          exact ⟨rfl, _, rfl, rfl, Below.refl _ _⟩
        · intro f W hbW hdp
          have e3 : f 3 = .bool true := hdp ⟨3, .guard⟩ (mfl (by simp) rfl)
          simp only [fS, Nat.reduceAdd, e3]
          go_wp2
          exact ⟨rfl, _, rfl, rfl, Below.refl _ _⟩
        · intro f W hbW hdp
          have e3 : f 3 = .bool true := hdp ⟨3, .guard⟩ (mfl (by simp) rfl)
          simp only [fS, Nat.reduceAdd, e3]
          go_wp2
          exact ⟨rfl, _, rfl, rfl, Below.refl _ _⟩
        · intro f W hbW hdp
          have e3 : f 3 = .bool true := hdp ⟨3, .data⟩ (mfl (by simp) rfl)
          simp only [fS, Nat.reduceAdd, e3]
          go_wp2
          exact ⟨rfl, _, rfl, rfl, Below.refl _ _⟩
      case fin =>
        intro f W hbW hA
        have e0 : f 0 = .agg #[.int .i64 ((n0 : Nat) : Int), .string K, .int .i64 dk, .slice A nn cc, .int .i64 dl, .int .i64 dh, .int .i64 dv] := hA 0 (by simp)
        have e1 : f 1 = .int .i64 1 := hA 1 (by simp)
        have e2 : f 2 = .bool true := hA 2 (by simp)
        have e3 : f 3 = .bool true := hA 3 (by simp)
        have e8 : f 8 = .bool true := hA 8 (by simp)
        show wpList Tryz.prog #[] (Exit.then _ _) [] _ _
        simp only [fS, Nat.reduceAdd, e0, e1, e2, e3, e8]
        clear hA e0 e1 e2 e3 e8
        have HBW7 := hide hbW
        have HKR6 := hide (Blk.via hbW HKR5.out)
        have HL6 := hide (HL5.out.trans (hbW.mono HL5.out.size))
        clear hbW
        have c20 := (HKR6.out).cell 0
        have c21 := (HKR6.out).cell 1
        have c22 := (HKR6.out).cell 2
        have c23 := (HKR6.out).cell 3
        have c24 := (HKR6.out).cell 4
        have c25 := (HKR6.out).cell 5
        have c26 := (HKR6.out).cell 6
        have f20 := (HKR6.out).frozen 0
        have f21 := (HKR6.out).frozen 1
        have f22 := (HKR6.out).frozen 2
        have f23 := (HKR6.out).frozen 3
        have f24 := (HKR6.out).frozen 4
        have f25 := (HKR6.out).frozen 5
        have f26 := (HKR6.out).frozen 6
        have l20 := (HKR6.out).lt
        go_wp2_with fail
        refine bodyPost_ret (results_row_1 Tryz.results147 _ _ (w.heap.size + 1) #[.int .i64 0, .string ⟨#[]⟩, .int .i64 0, .slice none 0 0, .int .i64 0, .int .i64 0, .int .i64 0] rfl (run_loadVar_row _ _ _ _ #[.int .i64 0, .string ⟨#[]⟩, .int .i64 0, .slice none 0 0, .int .i64 0, .int .i64 0, .int .i64 0] (0, 0) _ (((((((Blk.set_ HKR6.out 0 _).set_ 1 _).set_ 2 _).set_ 3 _).set_ 4 _).set_ 5 _).set_ 6 _) Tryz.underlying37 rfl info_itemK)) rfl ⟨?_, (((((((Below.setCell HL6.out (p := ⟨w.heap.size + 1, 0, none⟩) (Nat.le_succ _) _).setCell (p := ⟨w.heap.size + 1, 1, none⟩) (Nat.le_succ _) _).setCell (p := ⟨w.heap.size + 1, 2, none⟩) (Nat.le_succ _) _).setCell (p := ⟨w.heap.size + 1, 3, none⟩) (Nat.le_succ _) _).setCell (p := ⟨w.heap.size + 1, 4, none⟩) (Nat.le_succ _) _).setCell (p := ⟨w.heap.size + 1, 5, none⟩) (Nat.le_succ _) _).setCell (p := ⟨w.heap.size + 1, 6, none⟩) (Nat.le_succ _) _)⟩
        exact .inl ⟨HGG.out, rfl⟩
    · have hce : itemE ((n0 : Nat) : Int) K ⟨dk, dd, dl, dh, dv⟩ = 0 := by unfold itemE; rw [hri]; rfl
      rw [hce] at HCK
      have hqx := HQX.out _ hpl
      have HPI := hide (show (Tryz.prog.info? 233).map (·.size) = some X.size from HII.out)
      have HGG := hide (show slotG bs = if (pad64 (itemB ((n0 : Nat) : Int) K ⟨dk, dd, dl, dh, dv⟩) == bs) = true then some ⟨((n0 : Nat) : Int), K, ⟨dk, dd, dl, dh, dv⟩⟩ else none by
        rw [HYES.out]
        have h1 : slotOk bs ⟨dk, dd, dl, dh, dv⟩ ↔ (pad64 (itemB ((n0 : Nat) : Int) K ⟨dk, dd, dl, dh, dv⟩) == bs) = true := by
          unfold slotOk
          rw [H0.out, ← HK.out, hri, beq_iff_eq]
          simp
        by_cases h2 : slotOk bs ⟨dk, dd, dl, dh, dv⟩
        · rw [if_pos h2, if_pos (h1.1 h2), H0.out, ← HK.out]
        · rw [if_neg h2, if_neg (fun h => h2 (h1.2 h))])
      generalize (pad64 (itemB ((n0 : Nat) : Int) K ⟨dk, dd, dl, dh, dv⟩) == bs) = beq at *
      generalize ((pad64 (itemB ((n0 : Nat) : Int) K ⟨dk, dd, dl, dh, dv⟩)).map byteV).toArray = Y at *
      have HQY := hide hqx
      clear hce hri hpl hqx
      refine wp_region_inv [fun v _ => v = .agg #[.int .i64 ((n0 : Nat) : Int), .string K, .int .i64 dk, .slice A nn cc, .int .i64 dl, .int .i64 dh, .int .i64 dv], fun v _ => v = .int .i64 0, fun v _ => v = .bool false, fun v _ => v = .bool false, fun v _ => v = .agg #[.int .i64 ((n0 : Nat) : Int), .string K, .int .i64 dk, .slice A nn cc, .int .i64 dl, .int .i64 dh, .int .i64 dv], fun v _ => v = .agg Y, fun v _ => v = .agg X, fun v _ => v = .bool (!beq), fun v _ => v = .bool (!beq)] (by kernel_rfl) (by kernel_rfl) (by kernel_rfl) ?st ?steps ?fin
      case st =>
        intro i v W W' hWW h
        match i with
        | 0 | 1 | 2 | 3 | 4 | 5 | 6 | 7 | 8 => exact h
        | (i + 9) => exact h
      case steps =>
        simp only [stepsI]
        refine ⟨?_, ?_, ?_, ?_, ?_, ?_, ?_, ?_, ?_, trivial⟩
        · intro f W hbW hdp
          have kg := Blk.via hbW HKG5.out
          have y0 := kg.cell 0
          have y1 := kg.cell 1
          have y2 := kg.cell 2
          have y3 := kg.cell 3
          have y4 := kg.cell 4
          have y5 := kg.cell 5
          have y6 := kg.cell 6
          clear kg
          simp only [fS, Nat.reduceAdd]
          go_wp2
          exact ⟨rfl, _, rfl, rfl, Below.refl _ _⟩
        · intro f W hbW hdp
          have e0 : f 0 = .agg #[.int .i64 ((n0 : Nat) : Int), .string K, .int .i64 dk, .slice A nn cc, .int .i64 dl, .int .i64 dh, .int .i64 dv] := hdp ⟨0, .data⟩ (mfl (by simp) rfl)
          simp only [fS, Nat.reduceAdd, e0]
          go_wp2_with (go_at_call 203; refine (HCK.out _ hbW).mono ?_; rintro e w' ⟨rfl, hb'⟩)
          exact ⟨rfl, _, rfl, rfl, hb'⟩
        · intro f W hbW hdp
          have e1 : f 1 = .int .i64 0 := hdp ⟨1, .data⟩ (mfl (by simp) rfl)
          simp only [fS, Nat.reduceAdd, e1]
          go_wp2
          exact ⟨rfl, _, rfl, rfl, Below.refl _ _⟩
        · intro f W hbW hdp
          have e2 : f 2 = .bool false := hdp ⟨2, .data⟩ (mfl (by simp) rfl)
          simp only [fS, Nat.reduceAdd, e2]
          go_wp2
          exact ⟨rfl, _, rfl, rfl, Below.refl _ _⟩
        · intro f W hbW hdp
          have e3 : f 3 = .bool false := hdp ⟨3, .guard⟩ (mfl (by simp) rfl)
          have kg := Blk.via hbW HKG5.out
          have y0 := kg.cell 0
          have y1 := kg.cell 1
          have y2 := kg.cell 2
          have y3 := kg.cell 3
          have y4 := kg.cell 4
          have y5 := kg.cell 5
          have y6 := kg.cell 6
          clear kg
          simp only [fS, Nat.reduceAdd, e3]
          go_wp2
          exact ⟨rfl, _, rfl, rfl, Below.refl _ _⟩
        · intro f W hbW hdp
          have e3 : f 3 = .bool false := hdp ⟨3, .guard⟩ (mfl (by simp) rfl)
          have e4 : f 4 = .agg #[.int .i64 ((n0 : Nat) : Int), .string K, .int .i64 dk, .slice A nn cc, .int .i64 dl, .int .i64 dh, .int .i64 dv] := hdp ⟨4, .data⟩ (mfl (by simp) rfl)
          simp only [fS, Nat.reduceAdd, e3, e4]
          go_wp2_with (go_at_call 180; refine (HPT.out _ hbW).mono ?_; rintro e w' ⟨rfl, hb'⟩)
          exact ⟨rfl, _, rfl, rfl, hb'⟩
        · intro f W hbW hdp
          have e3 : f 3 = .bool false := hdp ⟨3, .guard⟩ (mfl (by simp) rfl)
          have kB := hide (Blk.via hbW HKB5.out)
          simp only [fS, Nat.reduceAdd, e3]
          refine wpList_load_rowG (by simp [Region.wanted, yielded]) 233 (.tmp 1) rfl w.heap.size rfl 233 X (0, 0) _ kB.out Tryz.underlying233 rfl HPI.out ?_
          exact ⟨rfl, _, rfl, rfl, Below.refl _ _⟩
        · intro f W hbW hdp
          have e3 : f 3 = .bool false := hdp ⟨3, .guard⟩ (mfl (by simp) rfl)
          have e5 : f 5 = .agg Y := hdp ⟨5, .data⟩ (mfl (by simp) rfl)
          have e6 : f 6 = .agg X := hdp ⟨6, .data⟩ (mfl (by simp) rfl)
          have hq := HQY.out W
          have hng := HNG.out
          simp only [fS, Nat.reduceAdd, e3, e5, e6]
          go_wp2
          exact ⟨rfl, _, rfl, rfl, Below.refl _ _⟩
        · intro f W hbW hdp
          have e3 : f 3 = .bool false := hdp ⟨3, .data⟩ (mfl (by simp) rfl)
          have e7 : f 7 = .bool (!beq) := hdp ⟨7, .data⟩ (mfl (by simp) rfl)
          simp only [fS, Nat.reduceAdd, e3, e7]
          go_wp2
          exact ⟨rfl, _, rfl, rfl, Below.refl _ _⟩
      case fin =>
        intro f W hbW hA
        have e0 : f 0 = .agg #[.int .i64 ((n0 : Nat) : Int), .string K, .int .i64 dk, .slice A nn cc, .int .i64 dl, .int .i64 dh, .int .i64 dv] := hA 0 (by simp)
        have e1 : f 1 = .int .i64 0 := hA 1 (by simp)
        have e2 : f 2 = .bool false := hA 2 (by simp)
        have e3 : f 3 = .bool false := hA 3 (by simp)
        have e8 : f 8 = .bool (!beq) := hA 8 (by simp)
        show wpList Tryz.prog #[] (Exit.then _ _) [] _ _
        simp only [fS, Nat.reduceAdd, e0, e1, e2, e3, e8]
        clear hA e0 e1 e2 e3 e8
        have HBW7 := hide hbW
        have HKR6 := hide (Blk.via hbW HKR5.out)
        have HKG6 := hide (Blk.via hbW HKG5.out)
        have HL6 := hide (HL5.out.trans (hbW.mono HL5.out.size))
        have HY6 := hide (HY5.out.below hbW (Nat.le_refl _))
        clear hbW
        cases beq
        · have HGN := hide (show slotG bs = none from HGG.out)
          have c20 := (HKR6.out).cell 0
          have c21 := (HKR6.out).cell 1
          have c22 := (HKR6.out).cell 2
          have c23 := (HKR6.out).cell 3
          have c24 := (HKR6.out).cell 4
          have c25 := (HKR6.out).cell 5
          have c26 := (HKR6.out).cell 6
          have f20 := (HKR6.out).frozen 0
          have f21 := (HKR6.out).frozen 1
          have f22 := (HKR6.out).frozen 2
          have f23 := (HKR6.out).frozen 3
          have f24 := (HKR6.out).frozen 4
          have f25 := (HKR6.out).frozen 5
          have f26 := (HKR6.out).frozen 6
          have l20 := (HKR6.out).lt
          go_wp2_with fail
          refine bodyPost_ret (results_row_1 Tryz.results147 _ _ (w.heap.size + 1) #[.int .i64 0, .string ⟨#[]⟩, .int .i64 0, .slice none 0 0, .int .i64 0, .int .i64 0, .int .i64 0] rfl (run_loadVar_row _ _ _ _ #[.int .i64 0, .string ⟨#[]⟩, .int .i64 0, .slice none 0 0, .int .i64 0, .int .i64 0, .int .i64 0] (0, 0) _ (((((((Blk.set_ HKR6.out 0 _).set_ 1 _).set_ 2 _).set_ 3 _).set_ 4 _).set_ 5 _).set_ 6 _) Tryz.underlying37 rfl info_itemK)) rfl ⟨?_, (((((((Below.setCell HL6.out (p := ⟨w.heap.size + 1, 0, none⟩) (Nat.le_succ _) _).setCell (p := ⟨w.heap.size + 1, 1, none⟩) (Nat.le_succ _) _).setCell (p := ⟨w.heap.size + 1, 2, none⟩) (Nat.le_succ _) _).setCell (p := ⟨w.heap.size + 1, 3, none⟩) (Nat.le_succ _) _).setCell (p := ⟨w.heap.size + 1, 4, none⟩) (Nat.le_succ _) _).setCell (p := ⟨w.heap.size + 1, 5, none⟩) (Nat.le_succ _) _).setCell (p := ⟨w.heap.size + 1, 6, none⟩) (Nat.le_succ _) _)⟩
          exact .inl ⟨HGN.out, rfl⟩
        · have HGN := hide (show slotG bs = some ⟨((n0 : Nat) : Int), K, ⟨dk, dd, dl, dh, dv⟩⟩ from HGG.out)
          have y0 := HKG6.out.cell 0
          have y1 := HKG6.out.cell 1
          have y2 := HKG6.out.cell 2
          have y3 := HKG6.out.cell 3
          have y4 := HKG6.out.cell 4
          have y5 := HKG6.out.cell 5
          have y6 := HKG6.out.cell 6
          have hne := HKG6.out.lt
          have c20 := (HKR6.out).cell 0
          have c21 := (HKR6.out).cell 1
          have c22 := (HKR6.out).cell 2
          have c23 := (HKR6.out).cell 3
          have c24 := (HKR6.out).cell 4
          have c25 := (HKR6.out).cell 5
          have c26 := (HKR6.out).cell 6
          have f20 := (HKR6.out).frozen 0
          have f21 := (HKR6.out).frozen 1
          have f22 := (HKR6.out).frozen 2
          have f23 := (HKR6.out).frozen 3
          have f24 := (HKR6.out).frozen 4
          have f25 := (HKR6.out).frozen 5
          have f26 := (HKR6.out).frozen 6
          have l20 := (HKR6.out).lt
          go_wp2_with fail
          refine bodyPost_ret (results_row_1 Tryz.results147 _ _ (w.heap.size + 1) #[.int .i64 ((n0 : Nat) : Int), .string K, .int .i64 dk, .slice A nn cc, .int .i64 dl, .int .i64 dh, .int .i64 dv] rfl (run_loadVar_row _ _ _ _ #[.int .i64 ((n0 : Nat) : Int), .string K, .int .i64 dk, .slice A nn cc, .int .i64 dl, .int .i64 dh, .int .i64 dv] (0, 0) _ (((((((Blk.set_ HKR6.out 0 _).set_ 1 _).set_ 2 _).set_ 3 _).set_ 4 _).set_ 5 _).set_ 6 _) Tryz.underlying37 rfl info_itemK)) rfl ⟨?_, (((((((Below.setCell HL6.out (p := ⟨w.heap.size + 1, 0, none⟩) (Nat.le_succ _) _).setCell (p := ⟨w.heap.size + 1, 1, none⟩) (Nat.le_succ _) _).setCell (p := ⟨w.heap.size + 1, 2, none⟩) (Nat.le_succ _) _).setCell (p := ⟨w.heap.size + 1, 3, none⟩) (Nat.le_succ _) _).setCell (p := ⟨w.heap.size + 1, 4, none⟩) (Nat.le_succ _) _).setCell (p := ⟨w.heap.size + 1, 5, none⟩) (Nat.le_succ _) _).setCell (p := ⟨w.heap.size + 1, 6, none⟩) (Nat.le_succ _) _)⟩
          refine .inr ⟨⟨((n0 : Nat) : Int), K, ⟨dk, dd, dl, dh, dv⟩⟩, .slice A nn cc, HGN.out, rfl, ?_⟩
          have h7 := (((((((HY6.out.setOther HKR6.out rfl 0 (.int .i64 ((n0 : Nat) : Int))).setOther (HKR6.out.set_ 0 (.int .i64 ((n0 : Nat) : Int))) rfl 1 (.string K)).setOther ((HKR6.out.set_ 0 (.int .i64 ((n0 : Nat) : Int))).set_ 1 (.string K)) rfl 2 (.int .i64 dk)).setOther (((HKR6.out.set_ 0 (.int .i64 ((n0 : Nat) : Int))).set_ 1 (.string K)).set_ 2 (.int .i64 dk)) rfl 3 (.slice A nn cc)).setOther ((((HKR6.out.set_ 0 (.int .i64 ((n0 : Nat) : Int))).set_ 1 (.string K)).set_ 2 (.int .i64 dk)).set_ 3 (.slice A nn cc)) rfl 4 (.int .i64 dl)).setOther (((((HKR6.out.set_ 0 (.int .i64 ((n0 : Nat) : Int))).set_ 1 (.string K)).set_ 2 (.int .i64 dk)).set_ 3 (.slice A nn cc)).set_ 4 (.int .i64 dl)) rfl 5 (.int .i64 dh)).setOther ((((((HKR6.out.set_ 0 (.int .i64 ((n0 : Nat) : Int))).set_ 1 (.string K)).set_ 2 (.int .i64 dk)).set_ 3 (.slice A nn cc)).set_ 4 (.int .i64 dl)).set_ 5 (.int .i64 dh)) rfl 6 (.int .i64 dv))
          refine h7.more ?_
          have := HBW7.out.size
          simp [World.setCell]
          omega
end Go.Proofs.YtnanlaefehaifaaGreat
namespace Go.Proofs.YtnanlaefehaifaaGreat
open Go.RowKit
theorem itemSameR_any (st st' : Int) (k k' : ByteArray) (a b : CellD) (av bv : Value) (B : Nat) (w : World) (hB : B ≤ w.heap.size) (ha : BytesAt w B av a.data) (hb : BytesAt w B bv b.data) :
    Calls Tryz.prog 235 #[itemV st k a av, itemV st' k' b bv] w fun e w' => e = .returned (.bool ((st == st') && (k.toList == k'.toList) && cellEq a b)) ∧ Below w.heap.size w w' := by
  have hb2 := fun o1 o2 => below2 w o1 o2
  have HS := hide (fun o1 o2 => rSame_any a b av bv B ((w.alloc o1).alloc o2) (by simp; omega) (ha.below (hb2 o1 o2) hB) (hb.below (hb2 o1 o2) hB))
  obtain ⟨A, n, c, rfl, junk⟩ := ha
  obtain ⟨A', n', c', rfl, junk'⟩ := hb
  clear junk junk'
  unfold itemV
  cases h1 : (st == st')
  · go_enter Tryz.func235, Tryz.ntmps235
    go_wp2
    go_ret
    exact ⟨by simp, hb2 _ _⟩
  · cases h2 : (k.toList == k'.toList)
    · go_enter Tryz.func235, Tryz.ntmps235
      go_wp2
      go_ret
      exact ⟨by simp, hb2 _ _⟩
    · cases h3 : cellEq a b
      · rw [h3] at HS
        go_enter Tryz.func235, Tryz.ntmps235
        go_wp2_with (refine (HS.out _ _).mono ?_; rintro e w' ⟨rfl, hb3⟩)
        go_ret
        exact ⟨by simp, below_via (hb2 _ _) hb3 (by simp; omega)⟩
      · rw [h3] at HS
        go_enter Tryz.func235, Tryz.ntmps235
        go_wp2_with (refine (HS.out _ _).mono ?_; rintro e w' ⟨rfl, hb3⟩)
        go_ret
        exact ⟨by simp, below_via (hb2 _ _) hb3 (by simp; omega)⟩
theorem itemRightR_any (st : Int) (k : ByteArray) (d : CellD) (dv : Value) (B : Nat) (w : World) (hk : k.size ≤ 1000000) (hB : B ≤ w.heap.size) (ha : BytesAt w B dv d.data) :
    Calls Tryz.prog 195 #[itemV st k d dv] w fun e w' => e = .returned (.bool (rightI st k d)) ∧ Below w.heap.size w w' := by
  have hb1 := fun o => (Below.refl w.heap.size w).alloc (Nat.le_refl _) o
  have HS := hide (fun o => (show Calls Tryz.prog 235 #[itemV st k d dv, .agg #[.int .i64 0, .string ⟨#[]⟩, .int .i64 0, .slice none 0 0, .int .i64 0, .int .i64 0, .int .i64 0]] (w.alloc o) (fun e w' => e = .returned (.bool (itemZ st k d)) ∧ Below (w.alloc o).heap.size (w.alloc o) w') from itemSameR_any st 0 k .empty d cell0 dv (.slice none 0 0) B (w.alloc o) (by simp; omega) (ha.below (hb1 o) hB) (bytes_none _ _)))
  have HK := hide (fun W => keyRight_any k W (by omega))
  obtain ⟨A, n, c, rfl, _, _, hn, hn'⟩ := ha
  have HC := hide (fun W => cellRight_any d A n c W hn)
  clear hn
  unfold itemV at *
  have HE0 := hide (show rightI st k d = (if st = 0 then itemZ st k d else decide (st = 1 ∨ st = 2) && (goodKey k && rightC d)) from rfl)
  generalize itemZ st k d = z at *
  generalize rightI st k d = ie at *
  generalize goodKey k = g at *
  generalize rightC d = r at *
  by_cases h0 : st = 0
  · have HV := hide (show ie = z by rw [HE0.out, if_pos h0])
    have h0b : (st == 0) = true := by rw [h0]; rfl
    clear h0
    go_enter Tryz.func195, Tryz.ntmps195
    go_wp2_with (refine (HS.out _).mono ?_; rintro e w' ⟨rfl, hb3⟩)
    go_ret
    exact ⟨ret_bool HV.out.symm, below_via (hb1 _) hb3 (by simp)⟩
  have h0b : (st == 0) = false := by rw [beq_eq_false_iff_ne]; exact h0
  have HV := hide (show ie = (decide (st = 1 ∨ st = 2) && (g && r)) by rw [HE0.out, if_neg h0])
  clear h0
  by_cases h12 : st = 1 ∨ st = 2
  · have HW := hide (show ie = (g && r) by rw [HV.out, decide_eq_true h12, Bool.true_and])
    cases h1b : (st == 1)
    · have h2b : (st == 2) = true := by
        rcases h12 with h | h
        · rw [h] at h1b; cases h1b
        · rw [h]; rfl
      clear h12
      cases g
      · have HF := hide (show ie = false by rw [HW.out]; rfl)
        go_enter Tryz.func195, Tryz.ntmps195
        go_wp2_with (go_at_call 236; refine (HK.out _).mono ?_; rintro e w1 ⟨rfl, hw1⟩; obtain rfl := hw1.symm)
        go_ret
        exact ⟨ret_bool HF.out.symm, hb1 _⟩
      · have HF := hide (show ie = r by rw [HW.out]; rfl)
        go_enter Tryz.func195, Tryz.ntmps195
        go_wp2_with (first
          | (go_at_call 236; refine (HK.out _).mono ?_; rintro e w1 ⟨rfl, hw1⟩; obtain rfl := hw1.symm)
          | (go_at_call 237; refine (HC.out _).mono ?_; rintro e w2 ⟨rfl, hb4⟩))
        go_ret
        exact ⟨ret_bool HF.out.symm, below_via (hb1 _) hb4 (by simp)⟩
    · clear h12
      cases g
      · have HF := hide (show ie = false by rw [HW.out]; rfl)
        go_enter Tryz.func195, Tryz.ntmps195
        go_wp2_with (go_at_call 236; refine (HK.out _).mono ?_; rintro e w1 ⟨rfl, hw1⟩; obtain rfl := hw1.symm)
        go_ret
        exact ⟨ret_bool HF.out.symm, hb1 _⟩
      · have HF := hide (show ie = r by rw [HW.out]; rfl)
        go_enter Tryz.func195, Tryz.ntmps195
        go_wp2_with (first
          | (go_at_call 236; refine (HK.out _).mono ?_; rintro e w1 ⟨rfl, hw1⟩; obtain rfl := hw1.symm)
          | (go_at_call 237; refine (HC.out _).mono ?_; rintro e w2 ⟨rfl, hb4⟩))
        go_ret
        exact ⟨ret_bool HF.out.symm, below_via (hb1 _) hb4 (by simp)⟩
  · have HW := hide (show ie = false by rw [HV.out, decide_eq_false h12, Bool.false_and])
    have h1b : (st == 1) = false := by rw [beq_eq_false_iff_ne]; exact fun h => h12 (.inl h)
    have h2b : (st == 2) = false := by rw [beq_eq_false_iff_ne]; exact fun h => h12 (.inr h)
    clear h12
    go_enter Tryz.func195, Tryz.ntmps195
    go_wp2
    go_ret
    exact ⟨ret_bool HW.out.symm, hb1 _⟩
end Go.Proofs.YtnanlaefehaifaaGreat
