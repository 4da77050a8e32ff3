/-
  Texts of this claim, joined: DS, DU, EB.
-/
import Derived.Test.YtnanlaefehaifaaGreatAu19
set_option maxHeartbeats 6400000
set_option maxRecDepth 100000
namespace Go.Proofs.YtnanlaefehaifaaGreat
open Go.RowKit Go.Maps Go.Shelf
def talL (l : List ItemD) (u : Nat) : TalD := ⟨u, (tallyD l 1 : Nat), (tallyD l 2 : Nat), (tallyD l 3 : Nat), (tallyD l 4 : Nat)⟩
def talS (s : StN) (u : Nat) : TalD := talL ((from1 u).flatMap (itP s)) u
def talC (t : TalD) : Array Value := #[.int .i64 t.a, .int .i64 t.b, .int .i64 t.c, .int .i64 t.d, .int .i64 t.e]
theorem tallyD_le (l : List ItemD) (c : Nat) : tallyD l c ≤ l.length := List.countP_le_length
theorem tallyD_snoc (l : List ItemD) (x : ItemD) (c : Nat) : tallyD (l ++ [x]) c = tallyD l c + if catD x = c then 1 else 0 := by
  rw [tallyD_append]
  congr 1
  unfold tallyD
  rw [List.countP_singleton]
  simp
theorem len_pages (s : StN) (k : Nat) : ((from1 k).flatMap (itP s)).length = 7 * (k - 1) := by
  unfold from1
  generalize k - 1 = j
  induction j with
  | zero => rfl
  | succ j ih =>
    rw [List.range_succ, List.map_append, List.flatMap_append, List.length_append, ih]
    simp [itP_len]
    omega
theorem from1_snoc {k : Nat} (h : 1 ≤ k) : from1 (k + 1) = from1 k ++ [k] := by
  obtain ⟨j, rfl⟩ : ∃ j, k = j + 1 := ⟨k - 1, by omega⟩
  unfold from1
  rw [show j + 1 + 1 - 1 = j + 1 by omega, show j + 1 - 1 = j by omega, List.range_succ, List.map_append]
  rfl
theorem tal_step {W : World} {gt : Nat} {ty : TypeId} {L : List ItemD} {x : ItemD} {u c : Nat} (hc : catD x = c) (h : Blk W gt ty (talC (talL L u))) : Blk (W.setCell ⟨gt, c, none⟩ (.int .i64 ((tallyD L c : Nat) + 1 : Int))) gt ty (talC (talL (L ++ [x]) u)) := by
  have h' := h.set_ c (.int .i64 ((tallyD L c : Nat) + 1 : Int))
  have e : (talC (talL L u)).setIfInBounds c (.int .i64 ((tallyD L c : Nat) + 1 : Int)) = talC (talL (L ++ [x]) u) := by
    have hc4 : c = 1 ∨ c = 2 ∨ c = 3 ∨ c = 4 := by
      rw [← hc]
      unfold catD
      split
      · simp
      · split
        · simp
        · split <;> simp
    unfold talC talL
    simp only [tallyD_snoc, hc]
    rcases hc4 with rfl | rfl | rfl | rfl <;> simp
  exact e ▸ h'
theorem vCount_any (s : StN) (u : Nat) (hK : StK s u) (hu : u ≤ 800) (hrt : ∀ no : Nat, 1 ≤ no → no < u → rightP (s.pg no) no = true) (v mi mk : Nat) (pin : List Nat) (keys : List ByteArray) (t : TalD) (w : World) (h : ViewS s w v mi mk u pin keys t) :
    Calls Tryz.prog 83 #[ptrV v] w fun e w' => e = .returned (.int .i64 0) ∧ StoreI s w' ∧ Turn (fun q => StB s.d s.p w q ∨ q = v) w w' ∧ Blk w' v 153 (viewC s.b u mi mk (talS s u)) := by
  have HV := hide h
  have HGT := hide (fun (n : Nat) (h1 : 1 ≤ n) (h2 : n < u) W (hs : StoreI s W) => bGet_any s hK.b n W hs (by have := hK.ul; omega))
  have HRT := hide hrt
  have c1 : w.cell? ⟨v, 1, none⟩ = some (.int .i64 u) := h.kv.cell 1
  have cl := h.kv.lt
  clear h hrt
  unfold ptrV
  go_enter Tryz.func83, Tryz.ntmps83
  go_upto_region 2 with (fail)
  refine gen1 (R := fun W => Code.wp _ _ _ _ W) (fun W1 kt hb1 hz1 => ?_)
  obtain ⟨gt, hgt⟩ : ∃ g, g = w.heap.size := ⟨_, rfl⟩
  rw [← hgt] at kt ⊢
  have HT1 := hide kt
  have HV1 := hide (HV.out.via hb1)
  have HR1 := hide (StR.of_below HV.out.st hb1)
  clear kt hb1
  have hgw : w.heap.size ≤ gt := by omega
  clear c1 cl hgt
  go_wp2
  go_loopw [4] (fun i wr => ∃ k : Nat, 1 ≤ k ∧ (k ≤ u ∨ k = 1) ∧ i = .int .i64 k ∧ Hid (Blk wr gt 72 (talC (talL ((from1 k).flatMap (itP s)) u))) ∧ Hid (ViewS s wr v mi mk u pin keys t) ∧ Hid (StR s w wr)) (fun i _ => u - (intOf i).toNat)
  case atStart => exact ⟨1, by omega, .inr rfl, rfl, HT1, HV1, HR1⟩
  case round =>
    obtain ⟨k, hk1, hku, rfl, HTr, HVr, HRr⟩ := hrel
    have c1 : wr.cell? ⟨v, 1, none⟩ = some (.int .i64 u) := HVr.out.kv.cell 1
    have c0 : wr.cell? ⟨v, 0, none⟩ = some (.pointer (some ⟨s.b, 0, none⟩)) := HVr.out.kv.cell 0
    have cl := HVr.out.kv.lt
    by_cases hlt : k < u
    · have t1 : (k : Int) < u := by omega
      have hr := HRT.out k hk1 hlt
      have hl : (s.pg k).length = 512 := pgOf_length HV.out.st.dev (by have := hK.b.p; have := hK.ul; omega)
      have HG := hide (HGT.out k hk1 hlt wr HRr.out.2.2)
      have HSO := hide (rightP_no hr).2
      have HSL := hide (fun i hi W => pSlot_any (s.pg k) hl i hi W)
      rw [show getV (s.pg k) k = .tuple #[pgV (s.pg k), .int .i64 0] by unfold getV; rw [if_pos hr]] at HG
      have HPI := hide (show (Tryz.prog.info? 63).map (·.size) = some ((s.pg k).map byteV).toArray.size by rw [pg_size _ hl]; exact info_pg)
      have HXZ := hide (show Tryz.zeroCells63.size = ((s.pg k).map byteV).toArray.size by rw [zeros_page, List.size_toArray, List.length_map, hl])
      have HX1 := hide (row_one (s.pg k))
      clear hr hl
      unfold pgV ptrV at *
      generalize ((s.pg k).map byteV).toArray = X at HG HSL HPI HXZ HX1
      go_wp2_with fail
      refine HG.out.mono ?_
      rintro e w2 ⟨rfl, hR2⟩
      have HV2 := hide (HVr.out.st' hR2)
      have HT2 := hide (hR2.blk HTr.out (by decide))
      have HR2 := hide (HRr.out.trans hR2)
      clear hR2
      go_upto_region 6 with (refine wpList_store_row rfl 63 (.tmp 5) (.tmp 30) rfl w2.heap.size X rfl rfl 63 _ (Blk.new w2 _ _) HPI.out HXZ.out HX1.out ?_)
      refine nameW (R := fun W => Code.wp _ _ _ _ W) (fun W3 hW3 => ?_)
      have kq3 : Blk W3 w2.heap.size 63 X := hW3 ▸ setRow_heap _ w2.heap.size _ _ _ _ (Blk.new w2 _ _)
      have hb3 : Below w2.heap.size w2 W3 := hW3 ▸ (touch_setRow _ w2.heap.size X).below ((Below.refl w2.heap.size w2).alloc (Nat.le_refl _) _) (Nat.le_refl _)
      obtain ⟨gp, hgp⟩ : ∃ gp, gp = w2.heap.size := ⟨_, rfl⟩
      rw [← hgp] at kq3 ⊢
      have KP := hide kq3
      have HR3 := hide (HR2.out.trans (StR.of_below HR2.out.2.2 hb3))
      have HV3 := hide (HV2.out.via hb3)
      have HT3 := hide (Blk.via hb3 HT2.out)
      clear hW3 kq3 hb3 hgp c1 c0 cl
      go_wp2
      go_loopw [35] (fun i wr => ∃ i2 : Nat, i2 ≤ 7 ∧ i = .int .i64 i2 ∧ Hid (Blk wr gt 72 (talC (talL ((from1 k).flatMap (itP s) ++ (itP s k).take i2) u))) ∧ Hid (ViewS s wr v mi mk u pin keys t) ∧ Hid (StR s w wr) ∧ Hid (Blk wr gp 63 X)) (fun i _ => 7 - (intOf i).toNat)
      case atStart => exact ⟨0, by omega, rfl, hide (by rw [List.take_zero, List.append_nil]; exact HT3.out), HV3, HR3, KP⟩
      case round =>
        obtain ⟨i, hi, rfl, HTi, HVi, HRi, HPi⟩ := hrel
        by_cases hil : i < 7
        · obtain ⟨x, hx⟩ := Option.isSome_iff_exists.1 (HSO.out i hil)
          have HIT := hide (itP_at hil hx)
          have HS1 := hide (HSL.out i hil)
          rw [hx] at HS1
          have t2 : (i : Int) < 7 := by omega
          clear hx
          go_wp2_with (refine wpList_load_row rfl 63 (.tmp 5) rfl gp rfl 63 X (0, 0) _ HPi.out Tryz.underlying63 rfl HPI.out ?_)
          refine (HS1.out _).mono ?_
          intro e w4 hP
          obtain ⟨y, A2, n2, c2, er, rfl, hby, hor⟩ := slotGP_one hP
          obtain ⟨rfl, rfl⟩ : y = x ∧ er = 0 := by
            rcases hor with ⟨h1, _⟩ | ⟨h1, h2⟩
            · cases h1
            · injection h1 with h1
              exact ⟨h1.symm, h2⟩
          have HB4 := hide hP.2
          clear hby hor hP
          obtain ⟨xs, xk, d1, d2, d3, d4, d5⟩ := y
          unfold itemC
          dsimp only at *
          go_upto_region 13 with (fail)
          refine gen1 (R := fun W => Code.wp _ _ _ _ W) (fun W5 ki hb5 hz5 => ?_)
          have hbr5 := HB4.out.trans (hb5.mono HB4.out.size)
          have HV5 := hide (HVi.out.via hbr5)
          have HR5 := hide (HRi.out.trans (StR.of_below HRi.out.2.2 hbr5))
          have HP5 := hide (Blk.via hbr5 HPi.out)
          have kt5 := Blk.via hbr5 HTi.out
          have i0 : W5.cell? ⟨w4.heap.size, 0, none⟩ = some (.int .i64 xs) := ki.cell 0
          have i2 : W5.cell? ⟨w4.heap.size, 2, none⟩ = some (.int .i64 d1) := ki.cell 2
          have il := ki.lt
          obtain ⟨L, hL⟩ : ∃ L, L = (from1 k).flatMap (itP s) ++ (itP s k).take i := ⟨_, rfl⟩
          have hLl : L.length ≤ 5600 := by
            rw [hL, List.length_append, len_pages]
            have := List.length_take_le i (itP s k)
            omega
          have HTK := hide (show L ++ [⟨xs, xk, ⟨d1, d2, d3, d4, d5⟩⟩] = (from1 k).flatMap (itP s) ++ (itP s k).take (i + 1) from by
            obtain ⟨q1, q2⟩ := List.getElem?_eq_some_iff.1 HIT.out
            rw [List.take_succ_eq_append_getElem q1, q2, hL, List.append_assoc])
          rw [← hL] at kt5
          have KT5 := hide kt5
          have y1 : W5.cell? ⟨gt, 1, none⟩ = some (.int .i64 (tallyD L 1 : Nat)) := kt5.cell 1
          have y2 : W5.cell? ⟨gt, 2, none⟩ = some (.int .i64 (tallyD L 2 : Nat)) := kt5.cell 2
          have y3 : W5.cell? ⟨gt, 3, none⟩ = some (.int .i64 (tallyD L 3 : Nat)) := kt5.cell 3
          have y4 : W5.cell? ⟨gt, 4, none⟩ = some (.int .i64 (tallyD L 4 : Nat)) := kt5.cell 4
          have f1 := kt5.frozen 1
          have f2 := kt5.frozen 2
          have f3 := kt5.frozen 3
          have f4 := kt5.frozen 4
          have kl := kt5.lt
          have b1 := tallyD_le L 1
          have b2 := tallyD_le L 2
          have b3 := tallyD_le L 3
          have b4 := tallyD_le L 4
          have hgv : gt ≠ v := kt5.ne_ HV5.out.kv (by decide)
          have hgp : gp ≠ gt := HP5.out.ne_ kt5 (by decide)
          clear ki hb5 hbr5 kt5 hL
          by_cases hx0 : xs = 0
          · have T := Turn.set (S := fun q => q = gt) (Turn.of_below (Below.refl W5.heap.size W5)) (p := ⟨gt, 4, none⟩) (.inl rfl) (.int .i64 ((tallyD L 4 : Nat) + 1 : Int))
            have hst := tal_step (x := ⟨xs, xk, ⟨d1, d2, d3, d4, d5⟩⟩) (c := 4) (show (if xs = 0 then 4 else if xs = 2 then 3 else if d1 = 2 then 2 else 1) = 4 by rw [if_pos hx0]) KT5.out
            have hvn := HV5.out.own KT5.out (by decide) hgv T
            have hrn := HR5.out.own KT5.out (by decide) hgw T
            have hpn := T.blk HP5.out hgp
            go_wp2
            go_roundw
            case rel => exact ⟨i + 1, by omega, by go_num, hide (HTK.out ▸ hst), hide hvn, hide hrn, hide hpn⟩
            case measure => simp [intOf]; omega
          · by_cases hx2 : xs = 2
            · have T := Turn.set (S := fun q => q = gt) (Turn.of_below (Below.refl W5.heap.size W5)) (p := ⟨gt, 3, none⟩) (.inl rfl) (.int .i64 ((tallyD L 3 : Nat) + 1 : Int))
              have hst := tal_step (x := ⟨xs, xk, ⟨d1, d2, d3, d4, d5⟩⟩) (c := 3) (show (if xs = 0 then 4 else if xs = 2 then 3 else if d1 = 2 then 2 else 1) = 3 by rw [if_neg hx0, if_pos hx2]) KT5.out
              have hvn := HV5.out.own KT5.out (by decide) hgv T
              have hrn := HR5.out.own KT5.out (by decide) hgw T
              have hpn := T.blk HP5.out hgp
              go_wp2
              go_roundw
              case rel => exact ⟨i + 1, by omega, by go_num, hide (HTK.out ▸ hst), hide hvn, hide hrn, hide hpn⟩
              case measure => simp [intOf]; omega
            · by_cases hd2 : d1 = 2
              · have T := Turn.set (S := fun q => q = gt) (Turn.of_below (Below.refl W5.heap.size W5)) (p := ⟨gt, 2, none⟩) (.inl rfl) (.int .i64 ((tallyD L 2 : Nat) + 1 : Int))
                have hst := tal_step (x := ⟨xs, xk, ⟨d1, d2, d3, d4, d5⟩⟩) (c := 2) (show (if xs = 0 then 4 else if xs = 2 then 3 else if d1 = 2 then 2 else 1) = 2 by rw [if_neg hx0, if_neg hx2, if_pos hd2]) KT5.out
                have hvn := HV5.out.own KT5.out (by decide) hgv T
                have hrn := HR5.out.own KT5.out (by decide) hgw T
                have hpn := T.blk HP5.out hgp
                go_wp2
                go_roundw
                case rel => exact ⟨i + 1, by omega, by go_num, hide (HTK.out ▸ hst), hide hvn, hide hrn, hide hpn⟩
                case measure => simp [intOf]; omega
              · have T := Turn.set (S := fun q => q = gt) (Turn.of_below (Below.refl W5.heap.size W5)) (p := ⟨gt, 1, none⟩) (.inl rfl) (.int .i64 ((tallyD L 1 : Nat) + 1 : Int))
                have hst := tal_step (x := ⟨xs, xk, ⟨d1, d2, d3, d4, d5⟩⟩) (c := 1) (show (if xs = 0 then 4 else if xs = 2 then 3 else if d1 = 2 then 2 else 1) = 1 by rw [if_neg hx0, if_neg hx2, if_neg hd2]) KT5.out
                have hvn := HV5.out.own KT5.out (by decide) hgv T
                have hrn := HR5.out.own KT5.out (by decide) hgw T
                have hpn := T.blk HP5.out hgp
                go_wp2
                go_roundw
                case rel => exact ⟨i + 1, by omega, by go_num, hide (HTK.out ▸ hst), hide hvn, hide hrn, hide hpn⟩
                case measure => simp [intOf]; omega
        · obtain rfl : i = 7 := by omega
          have HN := hide (show (from1 k).flatMap (itP s) ++ (itP s k).take 7 = (from1 (k + 1)).flatMap (itP s) by
            rw [List.take_of_length_le (Nat.le_of_eq (itP_len s k)), from1_snoc hk1, List.flatMap_append, List.flatMap_singleton])
          rw [HN.out] at HTi
          go_wp2
          go_roundw
          case rel => exact ⟨k + 1, by omega, .inl (by omega), by go_num, HTi, HVi, HRi⟩
          case measure => simp [intOf]; omega
    · have t1 : ¬ (k : Int) < u := by omega
      have HU := hide (show (from1 k).flatMap (itP s) = (from1 u).flatMap (itP s) by
        have : u = k ∨ (k = 1 ∧ u = 0) := by omega
        rcases this with rfl | ⟨rfl, rfl⟩ <;> rfl)
      rw [HU.out] at HTr
      have kt := HTr.out
      have y0 : wr.cell? ⟨gt, 0, none⟩ = some (.int .i64 (talS s u).a) := kt.cell 0
      have y1 : wr.cell? ⟨gt, 1, none⟩ = some (.int .i64 (talS s u).b) := kt.cell 1
      have y2 : wr.cell? ⟨gt, 2, none⟩ = some (.int .i64 (talS s u).c) := kt.cell 2
      have y3 : wr.cell? ⟨gt, 3, none⟩ = some (.int .i64 (talS s u).d) := kt.cell 3
      have y4 : wr.cell? ⟨gt, 4, none⟩ = some (.int .i64 (talS s u).e) := kt.cell 4
      have kl := kt.lt
      have hgv : gt ≠ v := kt.ne_ HVr.out.kv (by decide)
      have kv := HVr.out.kv
      have f4 := kv.frozen 4
      have f5 := kv.frozen 5
      have f6 := kv.frozen 6
      have f7 := kv.frozen 7
      have f8 := kv.frozen 8
      have v4 : wr.cell? ⟨v, 4, none⟩ = some (.int .i64 t.a) := kv.cell 4
      have v5 : wr.cell? ⟨v, 5, none⟩ = some (.int .i64 t.b) := kv.cell 5
      have v6 : wr.cell? ⟨v, 6, none⟩ = some (.int .i64 t.c) := kv.cell 6
      have v7 : wr.cell? ⟨v, 7, none⟩ = some (.int .i64 t.d) := kv.cell 7
      have v8 : wr.cell? ⟨v, 8, none⟩ = some (.int .i64 t.e) := kv.cell 8
      have KV := hide kv
      obtain ⟨tt, htt⟩ : ∃ tt, tt = talS s u := ⟨_, rfl⟩
      rw [← htt] at y0 y1 y2 y3 y4
      have HTT := hide htt
      clear kt kv htt
      go_upto_region 20 with (fail)
      go_wp2
      go_ret
      have T : Turn (fun q => q = v) wr _ := Turn.set (S := fun q => q = v) (Turn.set (S := fun q => q = v) (Turn.set (S := fun q => q = v) (Turn.set (S := fun q => q = v) (Turn.set (S := fun q => q = v) (Turn.of_below (Below.refl wr.heap.size wr)) (p := ⟨v, 4, none⟩) (.inl rfl) (.int .i64 tt.a)) (p := ⟨v, 5, none⟩) (.inl rfl) (.int .i64 tt.b)) (p := ⟨v, 6, none⟩) (.inl rfl) (.int .i64 tt.c)) (p := ⟨v, 7, none⟩) (.inl rfl) (.int .i64 tt.d)) (p := ⟨v, 8, none⟩) (.inl rfl) (.int .i64 tt.e)
      refine ⟨rfl, HVr.out.st.keep T (fun e => HVr.out.st.dev.hm.ne KV.out e.symm) ?_, (Turn.mono HRr.out.1 (fun _ _ e => .inl e)).trans (T.mono (fun _ _ e => .inr e)), ?_⟩
      · rintro q t2 cs2 rfl k'
        have e := (show wr.heap[q]? = _ from KV.out).symm.trans (show wr.heap[q]? = _ from k')
        injection e with e
        injection e with _ e _
        rw [← e]
        decide
      · rw [← HTT.out]
        exact ((((KV.out.set_ 4 (.int .i64 tt.a)).set_ 5 (.int .i64 tt.b)).set_ 6 (.int .i64 tt.c)).set_ 7 (.int .i64 tt.d)).set_ 8 (.int .i64 tt.e)
end Go.Proofs.YtnanlaefehaifaaGreat
namespace Go.Proofs.YtnanlaefehaifaaGreat
open Go.RowKit Go.Maps Go.Shelf
structure KeepC (M : Nat) (w w' : World) : Prop where
  os : w'.os = w.os
  tape : w'.tape = w.tape
  output : w'.output = w.output
  size : w.heap.size ≤ w'.heap.size
  blk : ∀ q t cs, Blk w q t cs → stTy t = false → Blk w' q t cs
  low : ∀ q, q < M → q < w.heap.size → w'.heap[q]? = w.heap[q]?
theorem KeepC.trans {M : Nat} {a b c : World} (h : KeepC M a b) (k : KeepC M b c) : KeepC M a c := ⟨k.os.trans h.os, k.tape.trans h.tape, k.output.trans h.output, Nat.le_trans h.size k.size, fun q t cs e ht => k.blk q t cs (h.blk q t cs e ht) ht, fun q hm hq => (k.low q hm (Nat.lt_of_lt_of_le hq h.size)).trans (h.low q hm hq)⟩
theorem KeepC.of_str {M : Nat} {s : StN} {a b : World} (hd : M ≤ s.d) (hp : M ≤ s.p) (h : StR s a b) : KeepC M a b := ⟨h.1.os, h.1.tape, h.1.output, h.1.size, fun _ _ _ k ht => h.blk k ht, fun q hm hq => h.1.block q hq (by omega) (by omega) (fun e => by have := e.1; omega)⟩
theorem KeepC.of_below {M : Nat} {a b : World} (h : Below a.heap.size a b) : KeepC M a b := ⟨h.os, h.tape, h.output, h.size, fun _ _ _ k _ => Blk.via h k, fun q _ hq => h.block q hq⟩
theorem KeepC.of_stm {M : Nat} {s : StN} {A B : World} {v mi mk : Nat} {u : Int} {pin : List Nat} {keys : List ByteArray} {t : TalD} (hd : M ≤ s.d) (hp : M ≤ s.p) (hi : M ≤ mi) (hk : M ≤ mk) (h : StM s mi mk A B) (hv : ViewS s A v mi mk u pin keys t) : KeepC M A B := ⟨h.os, h.tape, h.output, h.size, fun _ _ _ k ht => h.blk hv k ht, fun q hm hq => Turn.block h q hq (by
  rintro ((e | e | e) | (e | e))
  · omega
  · omega
  · have := e.1; omega
  · omega
  · omega)⟩
theorem KeepC.below {M : Nat} {w0 a b : World} (h : KeepC M a b) (hb : Below M w0 a) (hm : M ≤ a.heap.size) : Below M w0 b := ⟨h.os.trans hb.os, h.tape.trans hb.tape, h.output.trans hb.output, Nat.le_trans hb.size h.size, fun q hq => (h.low q hq (Nat.lt_of_lt_of_le hq hm)).trans (hb.block q hq)⟩
theorem slotG_key {bs : List UInt8} {x : ItemD} (h : slotG bs = some x) : x.key.size ≤ 16 := by
  unfold slotG at h
  split at h
  · injection h with h
    rw [← h]
    decide
  · split at h
    · cases h
    · rename_i hn
      unfold slotD at h
      split at h
      · cases h
      · split at h
        · injection h with h
          rw [← h]
          show (slotK bs).data.size ≤ 16
          unfold slotK cutB
          rw [List.size_toArray, List.length_take]
          omega
        · cases h
theorem itP_key (s : StN) (n : Nat) : ∀ x ∈ itP s n, x.key.size ≤ 1000 := by
  intro x hx
  unfold itP at hx
  obtain ⟨k, _, rfl⟩ := List.mem_map.1 hx
  cases hs : slotG (slotB (s.pg n) k) with
  | none => show (0 : Nat) ≤ 1000; omega
  | some y => have := slotG_key hs; show y.key.size ≤ 1000; omega
theorem auCheck_any (s : StN) (u B : Nat) (hK : StK s u) (hB : s.x.b = B) (hB16 : B ≤ 16) (hu : u ≤ 800) (w : World) (h : StoreI s w) (M : Nat) (hMd : M ≤ s.d) (hMp : M ≤ s.p) (hMw : M ≤ w.heap.size) :
    Calls Tryz.prog 30 #[ptrV s.b] w fun e w' => e = .returned (.int .i64 (errI (checkB s u B))) ∧ StoreI s w' ∧ KeepC M w w' := by
  have HV := hide (viewOf_any s u hK w h)
  have HL := hide (fun v mi mk t W (hv : ViewS s W v mi mk u [] [] t) sb tt ht hs => vLook3_any s u B hK hB hB16 hu (fun no _ _ => itP_key s no) v mi mk t W hv sb tt ht hs)
  have hmf : ∀ (fn : Fn) (first cap : Array Value) (w : World), (Instr.makeFunc fn first cap).run Tryz.prog w = .ok (.func fn first cap) w := fun _ _ _ _ => rfl
  clear h
  unfold lookV ptrV at *
  go_enter Tryz.func30, Tryz.ntmps30
  go_wp2_with fail
  refine HV.out.mono ?_
  rintro e w1 ⟨vp, mi, mk, rfl, hvs, hR, hlv, hli, hlk⟩
  have HV1 := hide hvs
  have HR1 := hide hR
  clear hvs hR
  go_wp2_with fail
  have hb2 : Below w1.heap.size w1 (w1.alloc (Obj.cells #[.func (.func 88) #[.pointer (some ⟨vp, 0, none⟩)] #[], .func (.func 89) #[.pointer (some ⟨vp, 0, none⟩)] #[], .func (.func 90) #[.pointer (some ⟨vp, 0, none⟩)] #[]] 149)) := (Below.refl _ _).alloc (Nat.le_refl _) _
  refine (HL.out vp mi mk tal0 _ (HV1.out.via hb2) w1.heap.size 149 (by decide) (Blk.new w1 _ _)).mono ?_
  rintro e w3 ⟨rfl, hs, hM⟩
  have HKP := hide ((KeepC.of_str hMd hMp HR1.out).trans ((KeepC.of_below hb2).trans (KeepC.of_stm hMd hMp (by omega) (by omega) hM (HV1.out.via hb2))))
  have HS3 := hide hs
  clear hs hM hb2
  go_wp2
  go_ret
  exact ⟨rfl, HS3.out, HKP.out⟩
theorem KeepC.new {M : Nat} {s : StN} {a b c : World} {v : Nat} (hd : M ≤ s.d) (hp : M ≤ s.p) (_hMv : M ≤ v) (h : KeepC M a b) (T : Turn (fun q => StB s.d s.p b q ∨ q = v) b c) (hs : StoreI s b) (hv : a.heap.size ≤ v) : KeepC M a c := by
  refine ⟨T.os.trans h.os, T.tape.trans h.tape, T.output.trans h.output, Nat.le_trans h.size T.size, fun q t' cs k ht => ?_, fun q hm hq => (T.block q (Nat.lt_of_lt_of_le hq h.size) ?_).trans (h.low q hm hq)⟩
  rotate_left
  · rintro ((e | e | e) | e)
    · omega
    · omega
    · have := e.1; omega
    · omega
  have ne : ∀ t2, stTy t2 = true → t' ≠ t2 := fun t2 e e' => by rw [e', e] at ht; cases ht
  obtain ⟨o, kd⟩ := hs.dev.kd
  obtain ⟨fs, hp⟩ := hs.pool
  obtain ⟨x, kp, _⟩ := hp.pf.kp
  have kb := h.blk q t' cs k ht
  refine Turn.blk T kb ?_
  rintro ((e | e | ⟨_, cs', e⟩) | e)
  · exact kb.ne_ kd (ne _ (by decide)) e
  · exact kb.ne_ kp (ne _ (by decide)) e
  · exact kb.ne_ e (ne _ (by decide)) rfl
  · have := k.lt; omega
def CntP (s : StN) (u v mi mk : Nat) (w w' : World) : Prop := StoreI s w' ∧ Turn (fun q => StB s.d s.p w q ∨ q = v) w w' ∧ Blk w' v 153 (viewC s.b u mi mk (talS s u))
theorem vLook1_any (s : StN) (u : Nat) (hK : StK s u) (hu : u ≤ 800) (hrt : ∀ no : Nat, 1 ≤ no → no < u → rightP (s.pg no) no = true) (v mi mk : Nat) (t : TalD) (w : World) (h : ViewS s w v mi mk u [] [] t)
    (sb : Nat) (tt : TypeId) (hs : Blk w sb tt #[lookV 83 v]) :
    Calls Tryz.prog 82 #[ptrV v, .slice (some ⟨sb, 0, none⟩) 1 1] w fun e w' => e = .returned (.int .i64 0) ∧ CntP s u v mi mk w w' := by
  have HC := hide (vCount_any s u hK hu hrt v mi mk [] [] t w h)
  have q0 : w.cell? ⟨sb, 0, none⟩ = some (lookV 83 v) := hs.cell 0
  have ql := hs.lt
  clear h hs hrt
  unfold lookV ptrV at *
  go_enter Tryz.func82, Tryz.ntmps82
  go_wp2
  go_loopw [10] (fun i wr => (i = .int .i64 0 ∧ wr = w) ∨ (i = .int .i64 1 ∧ Hid (CntP s u v mi mk w wr))) (fun i _ => 1 - (intOf i).toNat)
  case atStart => exact .inl ⟨rfl, rfl⟩
  case round =>
    rcases hrel with ⟨rfl, rfl⟩ | ⟨rfl, HP⟩
    · go_wp2_with fail
      refine HC.out.mono ?_
      rintro e w2 ⟨rfl, h1, h2, h3⟩
      have HP := hide (show CntP s u v mi mk wr w2 from ⟨h1, h2, h3⟩)
      clear h1 h2 h3 q0
      go_wp2
      go_roundw
      case rel => exact .inr ⟨by go_num, HP⟩
      case measure => simp [intOf]
    · clear q0
      go_wp2
      go_ret
      exact ⟨rfl, HP.out⟩
theorem five_turn (W : World) (g : Nat) (a b c d e : Value) : Turn (fun q => q = g) W (((((W.setCell ⟨g, 0, none⟩ a).setCell ⟨g, 1, none⟩ b).setCell ⟨g, 2, none⟩ c).setCell ⟨g, 3, none⟩ d).setCell ⟨g, 4, none⟩ e) :=
  Turn.set (S := fun q => q = g) (Turn.set (S := fun q => q = g) (Turn.set (S := fun q => q = g) (Turn.set (S := fun q => q = g) (Turn.set (S := fun q => q = g) (Turn.of_below (Below.refl W.heap.size W)) (p := ⟨g, 0, none⟩) (.inl rfl) a) (p := ⟨g, 1, none⟩) (.inl rfl) b) (p := ⟨g, 2, none⟩) (.inl rfl) c) (p := ⟨g, 3, none⟩) (.inl rfl) d) (p := ⟨g, 4, none⟩) (.inl rfl) e
theorem StoreI.own {s : StN} {W W' : World} (h : StoreI s W) {r : Nat} {t' : TypeId} {cs : Array Value} (k : Blk W r t' cs) (ht' : stTy t' = false) (T : Turn (fun q => q = r) W W') : StoreI s W' := by
  refine h.keep T (fun e => h.dev.hm.ne k e.symm) ?_
  rintro q t2 cs2 rfl k'
  have e := (show W.heap[q]? = _ from k).symm.trans (show W.heap[q]? = _ from k')
  injection e with e
  injection e with _ e _
  rw [← e]
  exact ht'
theorem results_cell_tmp {fn : Func} {p q : Tmp} {ty : TypeId} (h : fn.results = #[.cell p ty, .tmp q]) (tmps : Array Value) (w : World) (g : Nat) (cs : Array Value) (x : Value)
    (hp : tmps.getD p undef = .pointer (some ⟨g, 0, none⟩)) (hq : tmps.getD q undef = x) (hl : (loadVar ty ⟨g, 0, none⟩).run Tryz.prog w = .ok (.agg cs) w) :
    (results fn tmps).run Tryz.prog w = .ok (.tuple #[.agg cs, x]) w := by
  have hp' : tmps[p]?.getD undef = .pointer (some ⟨g, 0, none⟩) := by simpa using hp
  have hq' : tmps[q]?.getD undef = x := by simpa using hq
  simp [results, h, hp', hq', asAddr, hl]
theorem five_blk {W : World} {g : Nat} {t : TypeId} {x0 x1 x2 x3 x4 : Value} (k : Blk W g t #[x0, x1, x2, x3, x4]) (a b c d e : Value) : Blk (((((W.setCell ⟨g, 0, none⟩ a).setCell ⟨g, 1, none⟩ b).setCell ⟨g, 2, none⟩ c).setCell ⟨g, 3, none⟩ d).setCell ⟨g, 4, none⟩ e) g t #[a, b, c, d, e] :=
  ((((k.set_ 0 a).set_ 1 b).set_ 2 c).set_ 3 d).set_ 4 e
theorem info_tal : (Tryz.prog.info? 72).map (·.size) = some 5 := by kernel_rfl
def cntV (s : StN) (u B : Nat) : Value := if checkB s u B = true then .tuple #[.agg (talC (talS s u)), .int .i64 0] else .tuple #[.agg (talC tal0), .int .i64 14]
theorem auCount_any (s : StN) (u B : Nat) (hK : StK s u) (hB : s.x.b = B) (hB16 : B ≤ 16) (hu : u ≤ 800) (w : World) (h : StoreI s w) (M : Nat) (hMd : M ≤ s.d) (hMp : M ≤ s.p) (hMw : M ≤ w.heap.size) :
    Calls Tryz.prog 28 #[ptrV s.b] w fun e w' => e = .returned (cntV s u B) ∧ StoreI s w' ∧ KeepC M w w' := by
  have HCH := hide (fun W hs hm => auCheck_any s u B hK hB hB16 hu W hs M hMd hMp hm)
  have HV := hide (fun W hs => viewOf_any s u hK W hs)
  have HL := hide (fun (hp : checkB s u B = true) v mi mk t W (hv : ViewS s W v mi mk u [] [] t) sb tt hs => vLook1_any s u hK hu (pagesB_rt (by unfold checkB at hp; rw [Bool.and_eq_true] at hp; exact hp.1)) v mi mk t W hv sb tt hs)
  have HS := hide h
  have hmf : ∀ (fn : Fn) (first cap : Array Value) (w : World), (Instr.makeFunc fn first cap).run Tryz.prog w = .ok (.func fn first cap) w := fun _ _ _ _ => rfl
  clear h
  unfold lookV ptrV at *
  go_enter Tryz.func28, Tryz.ntmps28
  go_upto_region 1 with (fail)
  refine gen1 (R := fun W => Code.wp _ _ _ _ W) (fun W1 kr hb1 hz1 => ?_)
  have KR1 := hide kr
  have HS1 := hide (HS.out.via hb1)
  have HK1 := hide (KeepC.of_below (M := M) hb1)
  clear kr hb1
  go_wp2_with fail
  refine (HCH.out W1 HS1.out (by omega)).mono ?_
  rintro e w2 ⟨rfl, hs2, hk2⟩
  have HS2 := hide hs2
  have KR2 := hide (hk2.blk _ _ _ KR1.out (by decide))
  have HK2 := hide (HK1.out.trans hk2)
  have hk2z := hk2.size
  clear hs2 hk2
  cases hcb : checkB s u B with
  | false =>
    have HCB := hide hcb
    simp only [show errI false = 14 from rfl]
    clear hcb
    have r0 : w2.cell? ⟨w.heap.size, 0, none⟩ = some (.int .i64 0) := KR2.out.cell 0
    have r1 : w2.cell? ⟨w.heap.size, 1, none⟩ = some (.int .i64 0) := KR2.out.cell 1
    have r2 : w2.cell? ⟨w.heap.size, 2, none⟩ = some (.int .i64 0) := KR2.out.cell 2
    have r3 : w2.cell? ⟨w.heap.size, 3, none⟩ = some (.int .i64 0) := KR2.out.cell 3
    have r4 : w2.cell? ⟨w.heap.size, 4, none⟩ = some (.int .i64 0) := KR2.out.cell 4
    have rl := KR2.out.lt
    have f0 := KR2.out.frozen 0
    have f1 := KR2.out.frozen 1
    have f2 := KR2.out.frozen 2
    have f3 := KR2.out.frozen 3
    have f4 := KR2.out.frozen 4
    go_wp2
    have T := five_turn w2 w.heap.size (.int .i64 0) (.int .i64 0) (.int .i64 0) (.int .i64 0) (.int .i64 0)
    have kp := five_blk KR2.out (.int .i64 0) (.int .i64 0) (.int .i64 0) (.int .i64 0) (.int .i64 0)
    refine bodyPost_ret (results_cell_tmp Tryz.results28 _ _ w.heap.size _ _ rfl rfl (run_loadVar_row _ _ _ _ _ (0, 0) _ kp Tryz.underlying72 rfl info_tal)) rfl ?_
    refine ⟨by unfold cntV; rw [HCB.out]; rfl, HS2.out.own KR2.out (by decide) T, HK2.out.new (s := s) hMd hMp hMw (T.mono (fun _ _ e => .inr e)) HS2.out (Nat.le_refl _)⟩
  | true =>
    have HCB := hide hcb
    simp only [show errI true = 0 from rfl]
    clear hcb
    go_wp2_with fail
    refine (HV.out w2 HS2.out).mono ?_
    rintro e w3 ⟨vp, mi, mk, rfl, hvs, hR, hlv, hli, hlk⟩
    have HV3 := hide hvs
    have HR3 := hide hR
    clear hvs hR
    go_wp2_with fail
    have hb4 : Below w3.heap.size w3 (w3.alloc (Obj.cells #[.func (.func 83) #[.pointer (some ⟨vp, 0, none⟩)] #[]] 149)) := (Below.refl _ _).alloc (Nat.le_refl _) _
    refine (HL.out HCB.out vp mi mk tal0 _ (HV3.out.via hb4) w3.heap.size 149 (Blk.new w3 _ _)).mono ?_
    rintro e w5 ⟨rfl, h1, h2, h3⟩
    have hk5 := ((KeepC.of_str hMd hMp HR3.out).trans (KeepC.of_below hb4)).new hMd hMp (by have := hk2z; omega) h2 (HV3.out.st.via hb4) hlv
    have HK5 := hide (HK2.out.trans hk5)
    have HS5 := hide h1
    have KR5 := hide (hk5.blk _ _ _ KR2.out (by decide))
    obtain ⟨tt, htt⟩ : ∃ tt, tt = talS s u := ⟨_, rfl⟩
    rw [← htt] at h3
    have HTT := hide htt
    have y4 : w5.cell? ⟨vp, 4, none⟩ = some (.int .i64 tt.a) := h3.cell 4
    have y5 : w5.cell? ⟨vp, 5, none⟩ = some (.int .i64 tt.b) := h3.cell 5
    have y6 : w5.cell? ⟨vp, 6, none⟩ = some (.int .i64 tt.c) := h3.cell 6
    have y7 : w5.cell? ⟨vp, 7, none⟩ = some (.int .i64 tt.d) := h3.cell 7
    have y8 : w5.cell? ⟨vp, 8, none⟩ = some (.int .i64 tt.e) := h3.cell 8
    have yl := h3.lt
    have r0 : w5.cell? ⟨w.heap.size, 0, none⟩ = some (.int .i64 0) := KR5.out.cell 0
    have r1 : w5.cell? ⟨w.heap.size, 1, none⟩ = some (.int .i64 0) := KR5.out.cell 1
    have r2 : w5.cell? ⟨w.heap.size, 2, none⟩ = some (.int .i64 0) := KR5.out.cell 2
    have r3 : w5.cell? ⟨w.heap.size, 3, none⟩ = some (.int .i64 0) := KR5.out.cell 3
    have r4 : w5.cell? ⟨w.heap.size, 4, none⟩ = some (.int .i64 0) := KR5.out.cell 4
    have rl := KR5.out.lt
    have f0 := KR5.out.frozen 0
    have f1 := KR5.out.frozen 1
    have f2 := KR5.out.frozen 2
    have f3 := KR5.out.frozen 3
    have f4 := KR5.out.frozen 4
    clear h1 h2 h3 hk5 hb4 htt
    go_wp2
    have T := five_turn w5 w.heap.size (.int .i64 tt.a) (.int .i64 tt.b) (.int .i64 tt.c) (.int .i64 tt.d) (.int .i64 tt.e)
    have kp := five_blk KR5.out (.int .i64 tt.a) (.int .i64 tt.b) (.int .i64 tt.c) (.int .i64 tt.d) (.int .i64 tt.e)
    refine bodyPost_ret (results_cell_tmp Tryz.results28 _ _ w.heap.size _ _ rfl rfl (run_loadVar_row _ _ _ _ _ (0, 0) _ kp Tryz.underlying72 rfl info_tal)) rfl ?_
    refine ⟨by unfold cntV; rw [HCB.out, ← HTT.out]; rfl, HS5.out.own KR5.out (by decide) T, HK5.out.new (s := s) hMd hMp hMw (T.mono (fun _ _ e => .inr e)) HS5.out (Nat.le_refl _)⟩
end Go.Proofs.YtnanlaefehaifaaGreat
namespace Go.Proofs.YtnanlaefehaifaaGreat
open Go.RowKit Go.Maps Go.Shelf
def seenA (n : Nat) (l : List Nat) : Array Value := ((List.range n).map fun q => natV (l.count q)).toArray
theorem seenA_at {n q : Nat} (l : List Nat) (hq : q < n) : (seenA n l)[q]? = some (natV (l.count q)) := by
  unfold seenA
  rw [List.getElem?_toArray, List.getElem?_map, List.getElem?_range hq]
  rfl
theorem seenA_snoc {n q : Nat} (l : List Nat) (hq : q < n) : (seenA n l).setIfInBounds q (natV (l.count q + 1)) = seenA n (l ++ [q]) := by
  unfold seenA
  rw [List.setIfInBounds_toArray]
  congr 1
  refine List.ext_getElem? fun i => ?_
  rw [List.getElem?_set, List.getElem?_map, List.getElem?_map]
  by_cases hi : q = i
  · subst hi
    rw [if_pos rfl, if_pos (by rw [List.length_map, List.length_range]; exact hq), List.getElem?_range hq, Option.map_some, List.count_append, List.count_singleton]
    simp
  · rw [if_neg hi]
    by_cases hin : i < n
    · rw [List.getElem?_range hin, Option.map_some, Option.map_some, List.count_append, List.count_singleton]
      have : (q == i) = false := by simpa using hi
      simp [this]
    · rw [List.getElem?_eq_none (by simpa using hin)]
      rfl
theorem seenA_nil (n : Nat) : madeCells #[Value.int .i64 0] n = seenA n [] := by
  refine Array.ext (by simp [size_madeCells, seenA]) (fun i h1 h2 => ?_)
  simp [madeCells, Nat.mod_one, seenA, natV]
structure CntS (w : World) (n gc g6 gt gs : Nat) (x : ConfD) (pages : List Nat) (keys : List ByteArray) (t : TalD) (kv : Value) (W : World) : Prop where
  bel : Below w.heap.size w W
  kc : Blk W gc 56 #[.int .i64 x.b, .int .i64 x.p, .int .i64 x.f, .int .i64 x.c, .int .i64 x.l]
  k6 : Blk W g6 72 (talC tal0)
  kt : Blk W gt 72 (talC t)
  ks : Blk W gs 3 (seenA n pages)
  ky : W.ownsRow w.heap.size 9 1 kv keys.length (keys.map Value.string)
  ne : g6 ≠ gt
  l6 : w.heap.size ≤ g6
  lt : w.heap.size ≤ gt
  ls : w.heap.size ≤ gs
section
variable {w W W' : World} {n gc g6 gt gs : Nat} {x : ConfD} {pages : List Nat} {keys : List ByteArray} {t : TalD} {kv : Value}
theorem CntS.via (h : CntS w n gc g6 gt gs x pages keys t kv W) (hb : Below W.heap.size W W') : CntS w n gc g6 gt gs x pages keys t kv W' :=
  ⟨h.bel.trans (hb.mono h.bel.size), Blk.via hb h.kc, Blk.via hb h.k6, Blk.via hb h.kt, Blk.via hb h.ks, row_keep h.ky (fun q hq => hb.block q (World.ownsRow.lt h.ky q hq).2), h.ne, h.l6, h.lt, h.ls⟩
theorem CntS.seen (h : CntS w n gc g6 gt gs x pages keys t kv W) {q : Nat} (hq : q < n) : CntS w n gc g6 gt gs x (pages ++ [q]) keys t kv (W.setCell ⟨gs, q, none⟩ (natV (pages.count q + 1))) := by
  have T := Turn.set (S := fun b => b = gs) (Turn.of_below (Below.refl W.heap.size W)) (p := ⟨gs, q, none⟩) (.inl rfl) (natV (pages.count q + 1))
  have k := h.ks.set_ q (natV (pages.count q + 1))
  rw [seenA_snoc pages hq] at k
  have hne : ∀ q', kv.ownBlock = some q' → q' ≠ gs := fun q' e1 e2 => row_ne h.ky h.ks (by decide) (by rw [e1, e2])
  exact ⟨h.bel.setCell (p := ⟨gs, q, none⟩) h.ls _, T.blk h.kc (h.kc.ne_ h.ks (by decide)), T.blk h.k6 (h.k6.ne_ h.ks (by decide)), T.blk h.kt (h.kt.ne_ h.ks (by decide)), k, row_keep h.ky (fun q' hq' => T.block q' (World.ownsRow.lt h.ky q' hq').2 (hne q' hq')), h.ne, h.l6, h.lt, h.ls⟩
theorem CntS.tal (h : CntS w n gc g6 gt gs x pages keys t kv W) (c : Nat) (v : Value) {t' : TalD} (ht : (talC t).setIfInBounds c v = talC t') : CntS w n gc g6 gt gs x pages keys t' kv (W.setCell ⟨gt, c, none⟩ v) := by
  have T := Turn.set (S := fun b => b = gt) (Turn.of_below (Below.refl W.heap.size W)) (p := ⟨gt, c, none⟩) (.inl rfl) v
  have k := h.kt.set_ c v
  rw [ht] at k
  have hne : ∀ q', kv.ownBlock = some q' → q' ≠ gt := fun q' e1 e2 => row_ne h.ky h.kt (by decide) (by rw [e1, e2])
  exact ⟨h.bel.setCell (p := ⟨gt, c, none⟩) h.lt _, T.blk h.kc (h.kc.ne_ h.kt (by decide)), T.blk h.k6 h.ne, k, T.blk h.ks (h.ks.ne_ h.kt (by decide)), row_keep h.ky (fun q' hq' => T.block q' (World.ownsRow.lt h.ky q' hq').2 (hne q' hq')), h.ne, h.l6, h.lt, h.ls⟩
theorem CntS.key (h : CntS w n gc g6 gt gs x pages keys t kv W) {kv' : Value} {k : ByteArray} (ho : W'.ownsRow w.heap.size 9 1 kv' (keys.length + 1) (keys.map Value.string ++ [Value.string k])) (hg : W.grownBy W' kv.ownBlock) : CntS w n gc g6 gt gs x pages (keys ++ [k]) t kv' W' := by
  refine ⟨h.bel.grown hg h.bel.size (fun q hq => (World.ownsRow.lt h.ky q hq).1), h.kc.grown hg (row_ne h.ky h.kc (by decide)), h.k6.grown hg (row_ne h.ky h.k6 (by decide)), h.kt.grown hg (row_ne h.ky h.kt (by decide)), h.ks.grown hg (row_ne h.ky h.ks (by decide)), ?_, h.ne, h.l6, h.lt, h.ls⟩
  rw [List.length_append, List.map_append]
  exact ho
theorem row_other {base base2 m m2 s s2 : Nat} {t1 t2 : TypeId} {v v2 : Value} {xs xs2 : List Value} (h : W.ownsRow base t1 s v m xs) (h2 : W.ownsRow base2 t2 s2 v2 m2 xs2) (hne : t1 ≠ t2) (hg : W.grownBy W' v2.ownBlock) : W'.ownsRow base t1 s v m xs := by
  refine row_keep h fun q hq => hg.block q (World.ownsRow.lt h q hq).2 (fun e => ?_)
  obtain ⟨cur, e1⟩ := row_obj h hq
  exact row_ne h2 (show Blk W q t1 cur from e1) hne e
theorem row_cell {base m s g c : Nat} {t1 t2 : TypeId} {v u : Value} {xs : List Value} {cs : Array Value} (h : W.ownsRow base t1 s v m xs) (k : Blk W g t2 cs) (hne : t2 ≠ t1) : (W.setCell ⟨g, c, none⟩ u).ownsRow base t1 s v m xs := by
  refine row_keep h fun q hq => Below.heap_setCell W ⟨g, c, none⟩ u q (fun e => ?_)
  exact row_ne h k hne (by rw [hq]; exact congrArg some e.symm)
end
def pagesL (ps : List (List UInt8)) (n : Nat) : Bool := (from1 n).all (fun no => pageOk (ps.getD no []) no 0)
def zeroRet : Value := .tuple #[.agg (talC tal0), .bool false]
def rCnt2 (ps : List (List UInt8)) (n : Nat) : Option (List Nat × List ByteArray) → Value
  | none => zeroRet
  | some s => if (from1 n).all (fun q => s.1.count q == 1) = true then .tuple #[.agg (talC (talL (s.1.flatMap (itL ps)) n)), .bool true] else zeroRet
def rCnt (ps : List (List UInt8)) (n : Nat) (xb : Int) (b : Nat) : Value := if pagesL ps n = true then rCnt2 ps n (refD (headI xb) (itL ps) (nxL ps) n b 1 ([], [])) else zeroRet
theorem pagesL_no {ps : List (List UInt8)} {n no : Nat} (h1 : 1 ≤ no) (h2 : no < n) (h : pageOk (ps.getD no []) no 0 = false) (xb : Int) (b : Nat) : rCnt ps n xb b = zeroRet := by
  have : pagesL ps n = false := by
    unfold pagesL
    rw [List.all_eq_false]
    exact ⟨no, mem_from1.2 ⟨h1, h2⟩, by simpa using h⟩
  unfold rCnt
  rw [this]
  rfl
theorem pagesL_yes {ps : List (List UInt8)} {n : Nat} (h : ∀ no : Nat, 1 ≤ no → no < n → pageOk (ps.getD no []) no 0 = true) (xb : Int) (b : Nat) : rCnt ps n xb b = rCnt2 ps n (refD (headI xb) (itL ps) (nxL ps) n b 1 ([], [])) := by
  have : pagesL ps n = true := by
    unfold pagesL
    rw [List.all_eq_true]
    intro no hm
    exact h no (mem_from1.1 hm).1 (mem_from1.1 hm).2
  unfold rCnt
  rw [this]
  rfl
theorem pageOk_slots {bs : List UInt8} {no e : Int} (h : pageOk bs no e = true) : ∀ k, k < 7 → (slotG (slotB bs k)).isSome = true := by
  unfold pageOk at h
  simp only [Bool.and_eq_true] at h
  exact (slotsOk_iff 7).1 h.2.2.2
theorem slotsOf {ps : List (List UInt8)} {n : Nat} (hn : n = ps.length) (h : ∀ no : Nat, 1 ≤ no → no < n → pageOk (ps.getD no []) no 0 = true) : ∀ (no : Nat) (p : List UInt8), 1 ≤ no → ps[no]? = some p → ∀ k, k < 7 → (slotG (slotB p k)).isSome = true := by
  intro no p h1 hp
  have h2 : no < n := by rw [hn]; exact (List.getElem?_eq_some_iff.1 hp).1
  have h3 := h no h1 h2
  rw [List.getD_eq_getElem?_getD, hp] at h3
  exact pageOk_slots h3
theorem refD_no {hd : ByteArray → Int} {it : Nat → List ItemD} {nx : Nat → Nat} {u k i : Nat} {st : List Nat × List ByteArray} (h : (walkP nx u u i).2 = false) : refD hd it nx u (k + 1) i st = none := by
  unfold refD
  rw [h]
  rfl
theorem refD_yes {hd : ByteArray → Int} {it : Nat → List ItemD} {nx : Nat → Nat} {u k i : Nat} {st : List Nat × List ByteArray} (h : (walkP nx u u i).2 = true) :
    refD hd it nx u (k + 1) i st = (keysD hd i ((walkP nx u u i).1.flatMap it) st.2).bind fun ks => refD hd it nx u k (i + 1) (st.1 ++ (walkP nx u u i).1, ks) := by
  conv => lhs; unfold refD
  rw [h]
  rfl
theorem keysD_cons_no {hd : ByteArray → Int} {head : Int} {x : ItemD} {r : List ItemD} {ks : List ByteArray} (h0 : x.st ≠ 0) (h : hasK ks x.key = true ∨ hd x.key ≠ head) : keysD hd head (x :: r) ks = none := by
  unfold keysD
  rw [if_neg h0, if_pos]
  rcases h with h | h
  · rw [h]; rfl
  · have : (hd x.key != head) = true := by simpa using h
    rw [this, Bool.or_true]
theorem keysD_cons_yes {hd : ByteArray → Int} {head : Int} {x : ItemD} {r : List ItemD} {ks : List ByteArray} (h0 : x.st ≠ 0) (h1 : hasK ks x.key = false) (h2 : hd x.key = head) : keysD hd head (x :: r) ks = keysD hd head r (ks ++ [x.key]) := by
  conv => lhs; unfold keysD
  rw [if_neg h0, if_neg]
  have : (hd x.key != head) = false := by simpa using h2
  rw [h1, this]
  decide
theorem walkP_length (nx : Nat → Nat) (u : Nat) : ∀ (k no : Nat), (walkP nx u k no).1.length ≤ k := by
  intro k
  induction k with
  | zero => intro no; exact Nat.le_refl _
  | succ k ih =>
    intro no
    unfold walkP
    split
    · exact Nat.zero_le _
    · split
      · show 1 ≤ k + 1; omega
      · have := ih (nx no)
        show _ + 1 ≤ _
        omega
theorem liveI_st {l : List ItemD} {x : ItemD} (h : x ∈ liveI l) : x.st ≠ 0 := by
  unfold liveI at h
  have := (List.mem_filter.1 h).2
  simpa using this
theorem itL_key (ps : List (List UInt8)) (n : Nat) : ∀ x ∈ itL ps n, x.key.size ≤ 1000 := by
  intro x hx
  unfold itL at hx
  obtain ⟨k, _, rfl⟩ := List.mem_map.1 hx
  cases hs : slotG (slotB (ps.getD n []) k) with
  | none => show (0 : Nat) ≤ 1000; omega
  | some y => have := slotG_key hs; show y.key.size ≤ 1000; omega
theorem liveI_key {ps : List (List UInt8)} {l : List Nat} {x : ItemD} (h : x ∈ liveI (l.flatMap (itL ps))) : x.key.size ≤ 1000 := by
  unfold liveI at h
  obtain ⟨no, _, h2⟩ := List.mem_flatMap.1 (List.mem_filter.1 h).1
  exact itL_key ps no x h2
end Go.Proofs.YtnanlaefehaifaaGreat
