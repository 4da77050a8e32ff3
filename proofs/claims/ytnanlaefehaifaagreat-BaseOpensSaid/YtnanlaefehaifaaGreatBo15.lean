/-
  Texts of this claim, joined: LU, OpenD.
-/
import Derived.Test.YtnanlaefehaifaaGreatBo14
set_option maxHeartbeats 6400000
set_option maxRecDepth 100000
namespace Go.Proofs.YtnanlaefehaifaaGreat
open Go.RowKit Go.Shelf Go.Maps
theorem code25_any (x : Int) (w : World) : Calls Tryz.prog 38 #[.int .i64 x] w fun e w' => e = .returned (.int .i64 x) ∧ w' = w := by
  go_enter Tryz.func38, Tryz.ntmps38
  go_wp2
  go_ret
  exact ⟨rfl, rfl⟩
theorem Reads.same {w w' : World} {B size b o n : Nat} {xs : List Value} (h : Reads w B size (some ⟨b, o, none⟩) n xs) (hb : w'.heap[b]? = w.heap[b]?) : Reads w' B size (some ⟨b, o, none⟩) n xs := by
  refine ⟨h.1, fun hn => ?_⟩
  obtain ⟨ad, ha, hlt, hc⟩ := h.2 hn
  injection ha with ha
  subst ha
  refine ⟨_, rfl, hlt, fun j u hu => ?_⟩
  rw [← hc j u hu, add_plain]
  unfold World.cell?
  simp only [hb]
theorem Turn.belowS {S : Nat → Prop} {a w w' : World} {B : Nat} (h : Turn S w w') (hb : Below B a w) (hS : ∀ q, S q → B ≤ q) (hB : B ≤ w.heap.size) : Below B a w' :=
  ⟨h.os.trans hb.os, h.tape.trans hb.tape, h.output.trans hb.output, Nat.le_trans hb.size h.size, fun k hk => (h.block k (Nat.lt_of_lt_of_le hk hB) (fun hs => by have := hS k hs; omega)).trans (hb.block k hk)⟩
theorem want_zero (bs : List UInt8) (n : Nat) : wantP bs n 0 = 3 := by unfold wantP; rw [if_pos rfl]
theorem want_bad {bs : List UInt8} {n : Nat} {fz : Int} (h0 : fz ≠ 0) (hb : badP bs n = true) : wantP bs n fz = 14 := by unfold wantP; rw [if_neg h0, if_pos hb]
theorem want_one {bs : List UInt8} {n : Nat} (hb : badP bs n = false) : wantP bs n 1 = 3 := by unfold wantP; rw [if_neg (by decide), hb, if_neg (by decide), if_pos rfl]
theorem want_ok {bs : List UInt8} {n : Nat} {fz : Int} (h0 : fz ≠ 0) (h1 : fz ≠ 1) (hb : badP bs n = false) : wantP bs n fz = 0 := by unfold wantP; rw [if_neg h0, hb, if_neg (by decide), if_neg h1]
theorem bad_right {bs : List UInt8} (n : Nat) (h : rightP bs 0 = false) : badP bs n = true := by unfold badP; rw [h]; rfl
theorem bad_none {bs : List UInt8} (n : Nat) (h : metaG bs = none) : badP bs n = true := by unfold badP; rw [h]; simp
theorem bad_p {bs : List UInt8} {n : Nat} {x : ConfD} {u : Int} (h : metaG bs = some (x, u)) (hp : (n : Int) < x.p) : badP bs n = true := by unfold badP; rw [h]; simp [hp]
theorem good_p {bs : List UInt8} {n : Nat} {x : ConfD} {u : Int} (hr : rightP bs 0 = true) (h : metaG bs = some (x, u)) (hp : ¬ (n : Int) < x.p) : badP bs n = false := by unfold badP; rw [h, hr]; simp; omega
theorem metaP_one {w w' : World} {o : Option (ConfD × Int)} {e : Ending} (h : MetaP w o e w') : ∃ x u ok, e = .returned (.tuple #[confV x, .int .i64 u, .bool ok]) ∧ ((o = none ∧ ok = false) ∨ (o = some (x, u) ∧ ok = true)) ∧ Below w.heap.size w w' := by
  obtain ⟨⟨h1, h2⟩ | ⟨x, u, h1, h2⟩, hb⟩ := h
  · exact ⟨_, _, _, h2, .inl ⟨h1, rfl⟩, hb⟩
  · exact ⟨_, _, _, h2, .inr ⟨h1, rfl⟩, hb⟩
theorem pgOf_one (safe : List (List UInt8)) (wr : Nat → List (List UInt8)) (bs : List UInt8) (h : wr 0 = [bs]) : pgOf safe wr 0 = bs := by
  unfold pgOf
  rw [h]
  rfl
theorem baseOpens_any (hlive : ∀ W, Calls Tryz.prog 33 #[] W fun e w' => e = .returned (.bool true) ∧ Below W.heap.size W w') (p : List UInt8) (hl : p.length = 512) (sl : Bool) (n fz : Int) (hz : fz ≤ 9223372036854775807) (w : World) :
    Calls Tryz.prog 5 #[.agg (p.map byteV).toArray, .bool sl, .int .i64 n, .int .i64 fz] w fun e w' => e = .returned (.bool true) ∧ Below w.heap.size w w' := by
  have HLV := hide hlive
  clear hlive
  obtain ⟨X, hX⟩ : ∃ X, X = (p.map byteV).toArray := ⟨_, rfl⟩
  rw [← hX]
  by_cases hout : n < 1 ∨ 60 < n
  · have hb1 := (Below.refl w.heap.size w).alloc (Nat.le_refl _) (.cells X 62)
    clear hX
    rcases hout with h | h
    · go_enter Tryz.func5, Tryz.ntmps5
      go_wp2_with (go_at_call 33; refine (HLV.out _).mono ?_; rintro e w' ⟨rfl, hb'⟩)
      go_ret
      exact ⟨rfl, hb1.trans (hb'.mono hb1.size)⟩
    · have h1 : ¬ n < 1 := by omega
      go_enter Tryz.func5, Tryz.ntmps5
      go_wp2_with (go_at_call 33; refine (HLV.out _).mono ?_; rintro e w' ⟨rfl, hb'⟩)
      go_ret
      exact ⟨rfl, hb1.trans (hb'.mono hb1.size)⟩
  · obtain ⟨m, rfl⟩ : ∃ k : Nat, n = k := ⟨n.toNat, by omega⟩
    have hm1 : ¬ (m : Int) < 1 := by omega
    have hm2 : ¬ 60 < (m : Int) := by omega
    have HX := hide hX
    have HL := hide hl
    obtain ⟨bs, hbs⟩ : ∃ bs, bs = if sl = true then sealB p else p := ⟨_, rfl⟩
    have HBS := hide hbs
    have HBL := hide (show bs.length = 512 by rw [hbs]; split; exact sealB_length hl; exact hl)
    clear hout hX hl hbs
    go_enter Tryz.func5, Tryz.ntmps5
    go_upto_region 3 with (fail)
    refine gen1 (R := fun W => Code.wp _ _ _ _ W) (fun W1 k1 hb1 hz1 => ?_)
    have K1 := hide (HX.out ▸ k1 : Blk W1 w.heap.size 62 (p.map byteV).toArray)
    have hsz : X.size = 512 := by rw [HX.out]; exact pg_size p HL.out
    have k1s := k1.lt
    clear k1
    go_wp2_with fail
    refine (devNewN_any m (by omega) (by omega) W1).mono ?_
    rintro e W2 ⟨d, g, mm, rfl, kd, kg, hm, hd, hg, hmm, hb2⟩
    have HS2 := hide (DevS.fresh kd kg hm)
    have HB2 := hide (hb1.trans (hb2.mono hb1.size))
    have K2 := hide (Blk.via hb2 K1.out)
    have hz2 := hb2.size
    clear kd kg hm hb1 hb2
    go_upto_if 34 with (fail)
    go_cut [10] from 35 to 37 (fun s10 wx => ∃ b o c, s10 = .slice (some ⟨b, o, none⟩) 512 c ∧ 512 ≤ c ∧ c ≤ maxLen ∧ (b < W1.heap.size ∨ W2.heap.size ≤ b) ∧ b < wx.heap.size ∧ Reads wx wx.heap.size 1 (some ⟨b, o, none⟩) 512 (bs.map byteV) ∧ Below W2.heap.size W2 wx)
    case first =>
      have hrd := pg_reads K2.out HL.out
      have k2l := K2.out.lt
      cases sl
      · have hbp : bs = p := by rw [HBS.out, if_neg (by decide)]
        go_wp2
        go_meet
        refine ⟨_, _, _, rfl, Nat.le_refl _, by decide, .inl k1s, k2l, ?_, Below.refl _ _⟩
        rw [hbp]
        exact hrd.more (by omega)
      · have hbp : bs = sealB p := by rw [HBS.out, if_pos rfl]
        have HSL := hide (sealR_any _ 512 p _ W2 (by omega) (Nat.le_refl _) HL.out hrd)
        clear hrd
        go_wp2_with fail
        refine HSL.out.mono ?_
        rintro e W3 ⟨A3, c3, rfl, ho3, hb3⟩
        have HO3 := hide ho3
        have HB3 := hide hb3
        clear ho3 hb3
        go_wp2
        go_meet
        obtain ⟨A4, c4, hv4, hn4, hm4, _, hr4, hba⟩ := own_slice HO3.out
        injection hv4 with h1 h2 h3
        subst h1 h3
        rw [sealB_length HL.out] at hn4 hr4
        obtain ⟨b4, o4, rfl, hb4, _⟩ := hr4.plain (by omega) (by omega)
        refine ⟨_, _, _, rfl, hn4, hm4, .inr (hba _ rfl), hb4, ?_, HB3.out⟩
        rw [hbp]
        exact hr4
    case rest =>
      obtain ⟨b, o, c, rfl, hc1, hc2, hbw, hbl, hr, hb3⟩ := hcut
      rename World => W3
      have HR3 := hide hr
      have hs3 := HS2.out.via hb3
      have HB3 := hide (HB2.out.trans (hb3.mono HB2.out.size))
      have hz3 := hb3.size
      have hd2 := HS2.out.lt d (.inl rfl)
      have hg2 := HS2.out.lt g (.inr (.inl rfl))
      have hm2' := HS2.out.lt mm (.inr (.inr (.inl rfl)))
      have HS3 := hide hs3
      have HAR := hide (arrayR_any (some ⟨b, o, none⟩) c bs W3.heap.size W3 (Nat.le_refl _) HBL.out hr)
      clear hr hb3 hs3
      go_wp2_with fail
      refine HAR.out.mono ?_
      rintro e W4 ⟨rfl, hb4⟩
      have hz4 := hb4.size
      have HB4 := hide (HB3.out.trans (hb4.mono HB3.out.size))
      have HWR := hide (show Calls Tryz.prog 22 #[.pointer (some ⟨d, 0, none⟩), .int .i64 0, pgV bs] W4 _ from devWrite_any W4 d g mm m _ 0 0 0 _ 0 _ _ 0 bs 0 (HS3.out.via hb4) (by omega) (by omega) (by omega) (by simp) HBL.out)
      have HR4 := hide (HR3.out.same (hb4.block b hbl))
      clear hb4
      go_wp2_with fail
      refine HWR.out.mono ?_
      rintro e W5 ⟨rfl, v5, hs5, ht5, hloc5⟩
      have hD5 : ∀ q, DevB d g mm (fun _ => none) q → q = d ∨ q = g ∨ q = mm := by
        rintro q (h | h | h | ⟨i, h⟩)
        · exact .inl h
        · exact .inr (.inl h)
        · exact .inr (.inr h)
        · cases h
      have hz5 := ht5.size
      have HB5 := hide (Turn.belowS ht5 HB4.out (fun q hq => by rcases hD5 q hq with h | h | h <;> omega) (by omega))
      have HR5 := hide (HR4.out.same (ht5.block b (by omega) (fun hq => by rcases hD5 b hq with h | h | h <;> omega)))
      have HS5 := hide hs5
      obtain ⟨o5, kd5⟩ := hs5.kd
      have HFU := hide (devFuse_any d _ _ _ 0 0 0 0 o5 fz false W5 kd5)
      clear ht5 hloc5 hs5 kd5 hD5
      go_wp2_with fail
      refine HFU.out.mono ?_
      rintro e W6 ⟨⟨v6, rfl⟩, kd6, ht6⟩
      have hz6 := ht6.size
      have hs6 := HS5.out.turnd ht6 ⟨o5, kd6⟩
      have HB6 := hide (Turn.belowS ht6 HB5.out (fun q hq => by omega) (by omega))
      have HR6 := hide (HR5.out.same (ht6.block b (by omega) (fun hq => by omega)))
      have hop := open_out W6 d g mm m fz 0 _ _ _ _ hs6 (by omega) (by omega) (by simp) hz
      rw [pgOf_one _ _ bs rfl] at hop
      have HOP := hide hop
      clear kd6 ht6 hs6 hop
      go_wp2_with fail
      refine HOP.out.mono ?_
      rintro e W7 ⟨xv, rfl, ht7, hx7⟩
      obtain ⟨er, her⟩ : ∃ er, er = wantP bs m fz := ⟨_, rfl⟩
      rw [← her] at hx7 ⊢
      have hz7 := ht7.size
      have HX7 := hide hx7
      have HER := hide her
      have HB7 := hide (Turn.belowS ht7 HB6.out (fun q hq => by omega) (by omega))
      have HR7 := hide (HR6.out.same (ht7.block b (by omega) (fun hq => by omega)))
      have HMG := hide (metaGetR_any (some ⟨b, o, none⟩) c bs W3.heap.size W7 (by omega) HBL.out.symm HR7.out)
      clear ht7 hx7 her
      go_wp2_with fail
      refine HMG.out.mono ?_
      intro e W8 hmp
      obtain ⟨x, u, ok, rfl, hmx, hb8⟩ := metaP_one hmp
      clear hmp
      have HMX := hide hmx
      have HB8 := hide hb8
      clear hmx hb8
      unfold confV
      go_upto_if 56 with (fail)
      refine gen1 (R := fun W => Code.wp _ _ _ _ W) (fun W9 kC hb9 hz9 => ?_)
      obtain ⟨gc, hgc⟩ : ∃ g, g = W8.heap.size := ⟨_, rfl⟩
      rw [← hgc] at kC
      rw [← hgc]
      have KC := hide kC
      have HB9 := hide (HB8.out.trans (hb9.mono HB8.out.size))
      have hz9' := HB9.out.size
      have HR9 := hide (HR7.out.same (HB9.out.block b (by omega)))
      clear kC hb9 hgc
      go_cut [16] from 56 to 72 (fun s16 wx => s16 = .int .i64 er ∧ Below W9.heap.size W9 wx)
      case first =>
        by_cases h0 : fz = 0
        · subst h0
          have h3 : er = 3 := HER.out.trans (want_zero bs m)
          subst h3
          go_wp2
          go_meet
          exact ⟨rfl, Below.refl _ _⟩
        · have HRT := hide (rRight_any (some ⟨b, o, none⟩) c bs W3.heap.size W9 (by omega) hc1 hc2 HBL.out HR9.out 0)
          have z1 := KC.out.cell 1
          have zl := KC.out.lt
          cases hR : rightP bs 0
          · rw [hR] at HRT
            have h3 : er = 14 := HER.out.trans (want_bad h0 (bad_right m hR))
            subst h3
            clear hR z1 zl
            go_wp2_with (go_at_call 25; refine HRT.out.mono ?_; rintro e w' ⟨rfl, hb'⟩)
            go_meet
            exact ⟨rfl, hb'⟩
          · rw [hR] at HRT
            have HZ := hide (fun w' (hb : Below W9.heap.size W9 w') => Blk.via hb KC.out)
            rcases HMX.out with ⟨hm0, rfl⟩ | ⟨hm0, rfl⟩
            · have h3 : er = 14 := HER.out.trans (want_bad h0 (bad_none m hm0))
              subst h3
              clear hR z1 zl hm0
              go_wp2_with (go_at_call 25; refine HRT.out.mono ?_; rintro e w' ⟨rfl, hb'⟩)
              go_meet
              exact ⟨rfl, hb'⟩
            · by_cases hp : (m : Int) < x.p
              · have h3 : er = 14 := HER.out.trans (want_bad h0 (bad_p hm0 hp))
                subst h3
                clear hR z1 zl hm0
                go_wp2_with (go_at_call 25; refine HRT.out.mono ?_; rintro e w' ⟨rfl, hb'⟩; have z1 := (HZ.out _ hb').cell 1; have zl := (HZ.out _ hb').lt)
                go_meet
                exact ⟨rfl, hb'⟩
              · by_cases h1 : fz = 1
                · subst h1
                  have h3 : er = 3 := HER.out.trans (want_one (good_p hR hm0 hp))
                  subst h3
                  clear hR z1 zl hm0 h0
                  go_wp2_with (go_at_call 25; refine HRT.out.mono ?_; rintro e w' ⟨rfl, hb'⟩; have z1 := (HZ.out _ hb').cell 1; have zl := (HZ.out _ hb').lt)
                  go_meet
                  exact ⟨rfl, hb'⟩
                · have h3 : er = 0 := HER.out.trans (want_ok h0 h1 (good_p hR hm0 hp))
                  subst h3
                  clear hR z1 zl hm0
                  go_wp2_with (go_at_call 25; refine HRT.out.mono ?_; rintro e w' ⟨rfl, hb'⟩; have z1 := (HZ.out _ hb').cell 1; have zl := (HZ.out _ hb').lt)
                  go_meet
                  exact ⟨rfl, hb'⟩
      case rest =>
        obtain ⟨rfl, hb10⟩ := hcut
        rename World => W10
        have HB10 := hide hb10
        have hz10 := hb10.size
        clear hb10
        obtain ⟨Z, hZ⟩ : ∃ Z, Z = (zPg.map byteV).toArray := ⟨_, rfl⟩
        have HPI := hide (show (Tryz.prog.info? 63).map (·.size) = some Z.size by rw [hZ, pg_size zPg zPg_length]; exact info_pg)
        have HPZ := hide (show Tryz.zeroCells63.size = Z.size by rw [hZ, pg_size zPg zPg_length]; exact zeros_page)
        have HP1 := hide (show Z.all (·.oneCell') = true by rw [hZ]; exact row_one zPg)
        have HGN := hide (fun W => (get_nil 0 W).mono (R' := fun e w' => e = .returned (.tuple #[.agg Z, .int .i64 4]) ∧ Below W.heap.size W w') (by rw [hZ]; exact fun _ _ h => h))
        have HWN := hide (fun cs W => write_nil 0 cs W)
        have HON := hide open_nil
        have HRN := hide (fun cs W => redo_nil 1 cs W)
        have HCD := hide code25_any
        clear hZ
        go_wp2_with fail
        refine (HGN.out _).mono ?_
        rintro e W11 ⟨rfl, hb11⟩
        have HB11 := hide (HB10.out.trans (hb11.mono HB10.out.size))
        have hz11 := hb11.size
        clear hb11
        go_upto_region 20 with (refine wpList_store_row rfl 63 (.tmp 18) (.tmp 75) rfl W11.heap.size Z rfl rfl 63 _ (Blk.new W11 _ _) HPI.out HPZ.out HP1.out ?_)
        refine nameW (w := World.setRow _ W11.heap.size Z) (R := fun W => Code.wp _ _ _ _ W) (fun W12 hW12 => ?_)
        have hb12 : Below W11.heap.size W11 W12 := by
          rw [hW12]
          exact (touch_setRow _ W11.heap.size Z).below ((Below.refl W11.heap.size W11).alloc (Nat.le_refl _) _) (Nat.le_refl _)
        have HB12 := hide (HB11.out.trans (hb12.mono HB11.out.size))
        have hz12 := hb12.size
        clear hW12 hb12
        go_wp2_with fail
        refine (HWN.out _ _).mono ?_
        rintro e W13 ⟨rfl, hb13⟩
        have HB13 := hide (HB12.out.trans (hb13.mono HB12.out.size))
        have hz13 := hb13.size
        clear hb13
        go_wp2_with fail
        refine (HON.out _).mono ?_
        rintro e w' ⟨rfl, hw'⟩
        obtain rfl := hw'.symm
        have KC13 := hide (Blk.via HB13.out KC.out)
        have HB7e := hide (HB9.out.trans (HB13.out.mono HB9.out.size))
        go_upto_region 22 with (fail)
        clear hz hm1 hm2 hsz k1s hd hg hmm hz1 hz2 hc1 hc2 hbw hbl hz3 hd2 hg2 hm2' hz4 hz5 hz6 hz7 hz9 hz9' hz10 hz11 hz12 hz13
        clear HPI HPZ HP1 HGN HWN HON HB13 HB12 HB11 HB10 HB9 HB8 KC HR9 HMG HR7 HOP HFU HWR HAR
        rcases HX7.out with ⟨rfl, hne⟩ | ⟨b9, x9, u9, l9, ml9, p9, t9, rfl, he0, hm9, hp9⟩
        · have hne' : (er == 0) = false := by simpa using hne
          clear HX7 HER HMX hne
          refine wp_region_inv [fun v _ => v = .int .i64 er, fun v _ => v = .int .i64 er, fun v _ => v = .int .i64 er, fun v _ => v = .bool true, fun v _ => v = .bool true, fun v _ => v = .pointer none, fun v _ => v = .bool false, fun v _ => v = .int .i64 er, fun v _ => v = .bool false, fun v _ => v = .bool true, fun v _ => v = .bool true, fun v _ => v = .bool true, fun v _ => v = .pointer none, fun v _ => v = .bool true, fun v _ => v = .bool true, fun v _ => v = undef, fun v _ => v = undef, fun v _ => v = undef, fun v _ => v = undef, fun v _ => v = undef, fun v _ => v = undef, fun v _ => v = .bool true, fun v _ => v = .bool true, fun v _ => v = .bool true, fun v _ => v = .int .i64 4, fun v _ => v = .int .i64 4, fun v _ => v = .bool true, fun v _ => v = .bool true, fun v _ => v = .bool true, fun v _ => v = .int .i64 4, fun v _ => v = .int .i64 4, fun v _ => v = .bool true, fun v _ => v = .bool true, fun v _ => v = .bool true, fun v _ => v = .int .i64 4, fun v _ => v = .int .i64 4, fun v _ => v = .bool true, fun v _ => v = .bool true, fun v _ => v = .bool true, fun v _ => v = .pointer none, fun v _ => v = .agg #[.int .i64 0, .int .i64 0, .int .i64 0, .int .i64 0, .slice none 0 0, .int .i64 0, .string ⟨#[]⟩, .int .i64 0, .string ⟨#[]⟩, .int .i64 0, .slice none 0 0, .int .i64 0, .int .i64 0, .int .i64 0, .int .i64 0], fun v _ => v = .int .i64 4, fun v _ => v = .int .i64 4, fun v _ => v = .bool true, fun v _ => v = .bool true, fun v _ => v = .bool true, fun v _ => v = .bool true, fun v _ => v = .bool true, fun v _ => v = .bool true] (by kernel_rfl) (by kernel_rfl) (by kernel_rfl) ?st ?steps ?fin
          case st =>
            intro i v W W' hWW h
            match i with
            | 0 | 1 | 2 | 3 | 4 | 5 | 6 | 7 | 8 | 9 | 10 | 11 | 12 | 13 | 14 | 15 | 16 | 17 | 18 | 19 | 20 | 21 | 22 | 23 | 24 | 25 | 26 | 27 | 28 | 29 | 30 | 31 | 32 | 33 | 34 | 35 | 36 | 37 | 38 | 39 | 40 | 41 | 42 | 43 | 44 | 45 | 46 | 47 | 48 => exact h
            | (i + 49) => exact h
          case steps =>
            simp only [stepsI]
            refine ⟨?_, ?_, ?_, ?_, ?_, ?_, ?_, ?_, ?_, ?_, ?_, ?_, ?_, ?_, ?_, ?_, ?_, ?_, ?_, ?_, ?_, ?_, ?_, ?_, ?_, ?_, ?_, ?_, ?_, ?_, ?_, ?_, ?_, ?_, ?_, ?_, ?_, ?_, ?_, ?_, ?_, ?_, ?_, ?_, ?_, ?_, ?_, ?_, ?_, trivial⟩
            · intro f W hbW hdp
              simp only [fS, Nat.reduceAdd]
              go_wp2
              exact ⟨rfl, _, rfl, rfl, Below.refl _ _⟩
            · intro f W hbW hdp
              have e0 : f 0 = .int .i64 er := hdp ⟨0, .data⟩ (mfl (by simp) rfl)
              simp only [fS, Nat.reduceAdd, e0]
              go_wp2_with (go_at_call 38; refine (HCD.out er _).mono ?_; rintro e w' ⟨rfl, hw'⟩; obtain rfl := hw'.symm)
              exact ⟨rfl, _, rfl, rfl, Below.refl _ _⟩
            · intro f W hbW hdp
              simp only [fS, Nat.reduceAdd]
              go_wp2
              exact ⟨rfl, _, rfl, rfl, Below.refl _ _⟩
            · intro f W hbW hdp
              have e1 : f 1 = .int .i64 er := hdp ⟨1, .data⟩ (mfl (by simp) rfl)
              have e2 : f 2 = .int .i64 er := hdp ⟨2, .data⟩ (mfl (by simp) rfl)
              simp only [fS, Nat.reduceAdd, e1, e2]
              go_wp2
              exact ⟨rfl, _, rfl, rfl, Below.refl _ _⟩
            · intro f W hbW hdp
              have e3 : f 3 = .bool true := hdp ⟨3, .data⟩ (mfl (by simp) rfl)
              simp only [fS, Nat.reduceAdd, e3]
              go_wp2
              exact ⟨rfl, _, rfl, rfl, Below.refl _ _⟩
            · intro f W hbW hdp
              have e4 : f 4 = .bool true := hdp ⟨4, .guard⟩ (mfl (by simp) rfl)
              simp only [fS, Nat.reduceAdd, e4]
              go_wp2
              exact ⟨rfl, _, rfl, rfl, Below.refl _ _⟩
            · intro f W hbW hdp
              have e4 : f 4 = .bool true := hdp ⟨4, .guard⟩ (mfl (by simp) rfl)
              have e5 : f 5 = .pointer none := hdp ⟨5, .data⟩ (mfl (by simp) rfl)
              simp only [fS, Nat.reduceAdd, e4, e5]
              go_wp2
              exact ⟨rfl, _, rfl, rfl, Below.refl _ _⟩
            · intro f W hbW hdp
              have e4 : f 4 = .bool true := hdp ⟨4, .guard⟩ (mfl (by simp) rfl)
              simp only [fS, Nat.reduceAdd, e4]
              go_wp2
              exact ⟨rfl, _, rfl, rfl, Below.refl _ _⟩
            · intro f W hbW hdp
              have e4 : f 4 = .bool true := hdp ⟨4, .guard⟩ (mfl (by simp) rfl)
              have e7 : f 7 = .int .i64 er := hdp ⟨7, .data⟩ (mfl (by simp) rfl)
              simp only [fS, Nat.reduceAdd, e4, e7]
              go_wp2
              exact ⟨rfl, _, rfl, rfl, Below.refl _ _⟩
            · intro f W hbW hdp
              have e4 : f 4 = .bool true := hdp ⟨4, .guard⟩ (mfl (by simp) rfl)
              have e6 : f 6 = .bool false := hdp ⟨6, .data⟩ (mfl (by simp) rfl)
              have e8 : f 8 = .bool false := hdp ⟨8, .data⟩ (mfl (by simp) rfl)
              simp only [fS, Nat.reduceAdd, e4, e6, e8]
              go_wp2
              exact ⟨rfl, _, rfl, rfl, Below.refl _ _⟩
            · intro f W hbW hdp
              have e4 : f 4 = .bool true := hdp ⟨4, .data⟩ (mfl (by simp) rfl)
              have e9 : f 9 = .bool true := hdp ⟨9, .data⟩ (mfl (by simp) rfl)
              simp only [fS, Nat.reduceAdd, e4, e9]
              go_wp2
              exact ⟨rfl, _, rfl, rfl, Below.refl _ _⟩
            · intro f W hbW hdp
              have e10 : f 10 = .bool true := hdp ⟨10, .data⟩ (mfl (by simp) rfl)
              simp only [fS, Nat.reduceAdd, e10]
              go_wp2
              exact ⟨rfl, _, rfl, rfl, Below.refl _ _⟩
            · intro f W hbW hdp
              have e11 : f 11 = .bool true := hdp ⟨11, .guard⟩ (mfl (by simp) rfl)
              simp only [fS, Nat.reduceAdd, e11]
              go_wp2
              exact ⟨rfl, _, rfl, rfl, Below.refl _ _⟩
            · intro f W hbW hdp
              have e11 : f 11 = .bool true := hdp ⟨11, .guard⟩ (mfl (by simp) rfl)
              have e12 : f 12 = .pointer none := hdp ⟨12, .data⟩ (mfl (by simp) rfl)
              simp only [fS, Nat.reduceAdd, e11, e12]
              go_wp2
              exact ⟨rfl, _, rfl, rfl, Below.refl _ _⟩
            · intro f W hbW hdp
              have e11 : f 11 = .bool true := hdp ⟨11, .guard⟩ (mfl (by simp) rfl)
              have e13 : f 13 = .bool true := hdp ⟨13, .data⟩ (mfl (by simp) rfl)
              simp only [fS, Nat.reduceAdd, e11, e13]
              go_wp2
              exact ⟨rfl, _, rfl, rfl, Below.refl _ _⟩
            · intro f W hbW hdp
              have e14 : f 14 = .bool true := hdp ⟨14, .guard⟩ (mfl (by simp) rfl)
              simp only [fS, Nat.reduceAdd, e14]
              go_wp2
              exact ⟨rfl, _, rfl, rfl, Below.refl _ _⟩
            · intro f W hbW hdp
              have e14 : f 14 = .bool true := hdp ⟨14, .guard⟩ (mfl (by simp) rfl)
              simp only [fS, Nat.reduceAdd, e14]
              go_wp2
              exact ⟨rfl, _, rfl, rfl, Below.refl _ _⟩
            · intro f W hbW hdp
              have e14 : f 14 = .bool true := hdp ⟨14, .guard⟩ (mfl (by simp) rfl)
              simp only [fS, Nat.reduceAdd, e14]
              go_wp2
              exact ⟨rfl, _, rfl, rfl, Below.refl _ _⟩
            · intro f W hbW hdp
              have e14 : f 14 = .bool true := hdp ⟨14, .guard⟩ (mfl (by simp) rfl)
              simp only [fS, Nat.reduceAdd, e14]
              go_wp2
              exact ⟨rfl, _, rfl, rfl, Below.refl _ _⟩
            · intro f W hbW hdp
              have e14 : f 14 = .bool true := hdp ⟨14, .guard⟩ (mfl (by simp) rfl)
              simp only [fS, Nat.reduceAdd, e14]
              go_wp2
              exact ⟨rfl, _, rfl, rfl, Below.refl _ _⟩
            · intro f W hbW hdp
              have e14 : f 14 = .bool true := hdp ⟨14, .guard⟩ (mfl (by simp) rfl)
              simp only [fS, Nat.reduceAdd, e14]
              go_wp2
              exact ⟨rfl, _, rfl, rfl, Below.refl _ _⟩
            · intro f W hbW hdp
              have e11 : f 11 = .bool true := hdp ⟨11, .guard⟩ (mfl (by simp) rfl)
              have e14 : f 14 = .bool true := hdp ⟨14, .data⟩ (mfl (by simp) rfl)
              simp only [fS, Nat.reduceAdd, e11, e14]
              go_wp2
              exact ⟨rfl, _, rfl, rfl, Below.refl _ _⟩
            · intro f W hbW hdp
              have e11 : f 11 = .bool true := hdp ⟨11, .data⟩ (mfl (by simp) rfl)
              have e21 : f 21 = .bool true := hdp ⟨21, .data⟩ (mfl (by simp) rfl)
              simp only [fS, Nat.reduceAdd, e11, e21]
              go_wp2
              exact ⟨rfl, _, rfl, rfl, Below.refl _ _⟩
            · intro f W hbW hdp
              have e22 : f 22 = .bool true := hdp ⟨22, .data⟩ (mfl (by simp) rfl)
              simp only [fS, Nat.reduceAdd, e22]
              go_wp2
              exact ⟨rfl, _, rfl, rfl, Below.refl _ _⟩
            · intro f W hbW hdp
              have e23 : f 23 = .bool true := hdp ⟨23, .guard⟩ (mfl (by simp) rfl)
              simp only [fS, Nat.reduceAdd, e23]
              go_wp2
              exact ⟨rfl, _, rfl, rfl, Below.refl _ _⟩
            · intro f W hbW hdp
              have e23 : f 23 = .bool true := hdp ⟨23, .guard⟩ (mfl (by simp) rfl)
              have e24 : f 24 = .int .i64 4 := hdp ⟨24, .data⟩ (mfl (by simp) rfl)
              simp only [fS, Nat.reduceAdd, e23, e24]
              go_wp2_with (go_at_call 38; refine (HCD.out 4 _).mono ?_; rintro e w' ⟨rfl, hw'⟩; obtain rfl := hw'.symm)
              exact ⟨rfl, _, rfl, rfl, Below.refl _ _⟩
            · intro f W hbW hdp
              have e23 : f 23 = .bool true := hdp ⟨23, .guard⟩ (mfl (by simp) rfl)
              have e25 : f 25 = .int .i64 4 := hdp ⟨25, .data⟩ (mfl (by simp) rfl)
              simp only [fS, Nat.reduceAdd, e23, e25]
              go_wp2
              exact ⟨rfl, _, rfl, rfl, Below.refl _ _⟩
            · intro f W hbW hdp
              have e23 : f 23 = .bool true := hdp ⟨23, .data⟩ (mfl (by simp) rfl)
              have e26 : f 26 = .bool true := hdp ⟨26, .data⟩ (mfl (by simp) rfl)
              simp only [fS, Nat.reduceAdd, e23, e26]
              go_wp2
              exact ⟨rfl, _, rfl, rfl, Below.refl _ _⟩
            · intro f W hbW hdp
              have e27 : f 27 = .bool true := hdp ⟨27, .data⟩ (mfl (by simp) rfl)
              simp only [fS, Nat.reduceAdd, e27]
              go_wp2
              exact ⟨rfl, _, rfl, rfl, Below.refl _ _⟩
            · intro f W hbW hdp
              have e28 : f 28 = .bool true := hdp ⟨28, .guard⟩ (mfl (by simp) rfl)
              simp only [fS, Nat.reduceAdd, e28]
              go_wp2
              exact ⟨rfl, _, rfl, rfl, Below.refl _ _⟩
            · intro f W hbW hdp
              have e28 : f 28 = .bool true := hdp ⟨28, .guard⟩ (mfl (by simp) rfl)
              have e29 : f 29 = .int .i64 4 := hdp ⟨29, .data⟩ (mfl (by simp) rfl)
              simp only [fS, Nat.reduceAdd, e28, e29]
              go_wp2_with (go_at_call 38; refine (HCD.out 4 _).mono ?_; rintro e w' ⟨rfl, hw'⟩; obtain rfl := hw'.symm)
              exact ⟨rfl, _, rfl, rfl, Below.refl _ _⟩
            · intro f W hbW hdp
              have e28 : f 28 = .bool true := hdp ⟨28, .guard⟩ (mfl (by simp) rfl)
              have e30 : f 30 = .int .i64 4 := hdp ⟨30, .data⟩ (mfl (by simp) rfl)
              simp only [fS, Nat.reduceAdd, e28, e30]
              go_wp2
              exact ⟨rfl, _, rfl, rfl, Below.refl _ _⟩
            · intro f W hbW hdp
              have e28 : f 28 = .bool true := hdp ⟨28, .data⟩ (mfl (by simp) rfl)
              have e31 : f 31 = .bool true := hdp ⟨31, .data⟩ (mfl (by simp) rfl)
              simp only [fS, Nat.reduceAdd, e28, e31]
              go_wp2
              exact ⟨rfl, _, rfl, rfl, Below.refl _ _⟩
            · intro f W hbW hdp
              have e32 : f 32 = .bool true := hdp ⟨32, .data⟩ (mfl (by simp) rfl)
              simp only [fS, Nat.reduceAdd, e32]
              go_wp2
              exact ⟨rfl, _, rfl, rfl, Below.refl _ _⟩
            · intro f W hbW hdp
              have e33 : f 33 = .bool true := hdp ⟨33, .guard⟩ (mfl (by simp) rfl)
              simp only [fS, Nat.reduceAdd, e33]
              go_wp2
              exact ⟨rfl, _, rfl, rfl, Below.refl _ _⟩
            · intro f W hbW hdp
              have e33 : f 33 = .bool true := hdp ⟨33, .guard⟩ (mfl (by simp) rfl)
              have e34 : f 34 = .int .i64 4 := hdp ⟨34, .data⟩ (mfl (by simp) rfl)
              simp only [fS, Nat.reduceAdd, e33, e34]
              go_wp2_with (go_at_call 38; refine (HCD.out 4 _).mono ?_; rintro e w' ⟨rfl, hw'⟩; obtain rfl := hw'.symm)
              exact ⟨rfl, _, rfl, rfl, Below.refl _ _⟩
            · intro f W hbW hdp
              have e33 : f 33 = .bool true := hdp ⟨33, .guard⟩ (mfl (by simp) rfl)
              have e35 : f 35 = .int .i64 4 := hdp ⟨35, .data⟩ (mfl (by simp) rfl)
              simp only [fS, Nat.reduceAdd, e33, e35]
              go_wp2
              exact ⟨rfl, _, rfl, rfl, Below.refl _ _⟩
            · intro f W hbW hdp
              have e33 : f 33 = .bool true := hdp ⟨33, .data⟩ (mfl (by simp) rfl)
              have e36 : f 36 = .bool true := hdp ⟨36, .data⟩ (mfl (by simp) rfl)
              simp only [fS, Nat.reduceAdd, e33, e36]
              go_wp2
              exact ⟨rfl, _, rfl, rfl, Below.refl _ _⟩
            · intro f W hbW hdp
              have e37 : f 37 = .bool true := hdp ⟨37, .data⟩ (mfl (by simp) rfl)
              simp only [fS, Nat.reduceAdd, e37]
              go_wp2
              exact ⟨rfl, _, rfl, rfl, Below.refl _ _⟩
            · intro f W hbW hdp
              have e38 : f 38 = .bool true := hdp ⟨38, .guard⟩ (mfl (by simp) rfl)
              simp only [fS, Nat.reduceAdd, e38]
              go_wp2
              exact ⟨rfl, _, rfl, rfl, Below.refl _ _⟩
            · intro f W hbW hdp
              have e38 : f 38 = .bool true := hdp ⟨38, .guard⟩ (mfl (by simp) rfl)
              simp only [fS, Nat.reduceAdd, e38]
              go_wp2
              exact ⟨rfl, _, rfl, rfl, Below.refl _ _⟩
            · intro f W hbW hdp
              have e38 : f 38 = .bool true := hdp ⟨38, .guard⟩ (mfl (by simp) rfl)
              have e39 : f 39 = .pointer none := hdp ⟨39, .data⟩ (mfl (by simp) rfl)
              have e40 : f 40 = .agg #[.int .i64 0, .int .i64 0, .int .i64 0, .int .i64 0, .slice none 0 0, .int .i64 0, .string ⟨#[]⟩, .int .i64 0, .string ⟨#[]⟩, .int .i64 0, .slice none 0 0, .int .i64 0, .int .i64 0, .int .i64 0, .int .i64 0] := hdp ⟨40, .data⟩ (mfl (by simp) rfl)
              simp only [fS, Nat.reduceAdd, e38, e39, e40]
              go_wp2_with (go_at_call 39; refine (HRN.out _ _).mono ?_; rintro e w' ⟨rfl, hb'⟩)
              exact ⟨rfl, _, rfl, rfl, hb'⟩
            · intro f W hbW hdp
              have e38 : f 38 = .bool true := hdp ⟨38, .guard⟩ (mfl (by simp) rfl)
              have e41 : f 41 = .int .i64 4 := hdp ⟨41, .data⟩ (mfl (by simp) rfl)
              simp only [fS, Nat.reduceAdd, e38, e41]
              go_wp2_with (go_at_call 38; refine (HCD.out 4 _).mono ?_; rintro e w' ⟨rfl, hw'⟩; obtain rfl := hw'.symm)
              exact ⟨rfl, _, rfl, rfl, Below.refl _ _⟩
            · intro f W hbW hdp
              have e38 : f 38 = .bool true := hdp ⟨38, .guard⟩ (mfl (by simp) rfl)
              have e42 : f 42 = .int .i64 4 := hdp ⟨42, .data⟩ (mfl (by simp) rfl)
              simp only [fS, Nat.reduceAdd, e38, e42]
              go_wp2
              exact ⟨rfl, _, rfl, rfl, Below.refl _ _⟩
            · intro f W hbW hdp
              have e38 : f 38 = .bool true := hdp ⟨38, .data⟩ (mfl (by simp) rfl)
              have e43 : f 43 = .bool true := hdp ⟨43, .data⟩ (mfl (by simp) rfl)
              simp only [fS, Nat.reduceAdd, e38, e43]
              go_wp2
              exact ⟨rfl, _, rfl, rfl, Below.refl _ _⟩
            · intro f W hbW hdp
              have e44 : f 44 = .bool true := hdp ⟨44, .data⟩ (mfl (by simp) rfl)
              simp only [fS, Nat.reduceAdd, e44]
              go_wp2
              exact ⟨rfl, _, rfl, rfl, Below.refl _ _⟩
            · intro f W hbW hdp
              have e45 : f 45 = .bool true := hdp ⟨45, .guard⟩ (mfl (by simp) rfl)
              simp only [fS, Nat.reduceAdd, e45]
              go_wp2_with (go_at_call 33; refine (HLV.out _).mono ?_; rintro e w' ⟨rfl, hb'⟩)
              exact ⟨rfl, _, rfl, rfl, hb'⟩
            · intro f W hbW hdp
              have e45 : f 45 = .bool true := hdp ⟨45, .data⟩ (mfl (by simp) rfl)
              have e46 : f 46 = .bool true := hdp ⟨46, .data⟩ (mfl (by simp) rfl)
              simp only [fS, Nat.reduceAdd, e45, e46]
              go_wp2
              exact ⟨rfl, _, rfl, rfl, Below.refl _ _⟩
            · intro f W hbW hdp
              have e47 : f 47 = .bool true := hdp ⟨47, .data⟩ (mfl (by simp) rfl)
              simp only [fS, Nat.reduceAdd, e47]
              go_wp2
              exact ⟨rfl, _, rfl, rfl, Below.refl _ _⟩
          case fin =>
            intro f W hbW hA
            have e48 : f 48 = .bool true := hA 48 (by simp)
            show wpList Tryz.prog #[] (Exit.then _ _) [] _ _
            simp only [fS, Nat.reduceAdd, e48]
            clear hA e48
            go_wp2
            go_ret
            exact ⟨rfl, HB7.out.trans ((HB7e.out.trans (hbW.mono HB7e.out.size)).mono HB7.out.size)⟩
        · subst he0
          obtain ⟨k91, k92, k93, kb9⟩ := hp9.kb
          have HB7f := HB7e
          have hxx : x = x9 ∧ ok = true := by
            rcases HMX.out with ⟨h1, h2⟩ | ⟨h1, h2⟩
            · rw [hm9] at h1; cases h1
            · rw [hm9] at h1
              injection h1 with h1
              injection h1 with h1 h3
              exact ⟨h1.symm, h2⟩
          obtain ⟨rfl, rfl⟩ := hxx
          have KB := hide (Blk.via HB7e.out kb9)
          clear HX7 HER HMX kb9 hp9 hm9
          refine wp_region_inv [fun v _ => v = .int .i64 0, fun v _ => v = .int .i64 0, fun v _ => v = .int .i64 0, fun v _ => v = .bool true, fun v _ => v = .bool true, fun v _ => v = .pointer (some ⟨b9, 0, none⟩), fun v _ => v = .bool true, fun v _ => v = .int .i64 0, fun v _ => v = .bool true, fun v _ => v = .bool true, fun v _ => v = .bool true, fun v _ => v = .bool true, fun v _ => v = .pointer (some ⟨b9, 0, none⟩), fun v _ => v = .bool false, fun v _ => v = .bool false, fun v _ => v = .pointer (some ⟨b9, 0, none⟩), fun v _ => v = .pointer (some ⟨b9, 0, none⟩), fun v _ => v = .pointer (some ⟨b9, 1, none⟩), fun v _ => v = .agg #[.int .i64 x.b, .int .i64 x.p, .int .i64 x.f, .int .i64 x.c, .int .i64 x.l], fun v _ => v = .agg #[.int .i64 x.b, .int .i64 x.p, .int .i64 x.f, .int .i64 x.c, .int .i64 x.l], fun v _ => v = .bool true, fun v _ => v = .bool true, fun v _ => v = .bool true, fun v _ => v = .bool true, fun v _ => v = .int .i64 4, fun v _ => v = .int .i64 4, fun v _ => v = .bool true, fun v _ => v = .bool true, fun v _ => v = .bool true, fun v _ => v = .int .i64 4, fun v _ => v = .int .i64 4, fun v _ => v = .bool true, fun v _ => v = .bool true, fun v _ => v = .bool true, fun v _ => v = .int .i64 4, fun v _ => v = .int .i64 4, fun v _ => v = .bool true, fun v _ => v = .bool true, fun v _ => v = .bool true, fun v _ => v = .pointer none, fun v _ => v = .agg #[.int .i64 0, .int .i64 0, .int .i64 0, .int .i64 0, .slice none 0 0, .int .i64 0, .string ⟨#[]⟩, .int .i64 0, .string ⟨#[]⟩, .int .i64 0, .slice none 0 0, .int .i64 0, .int .i64 0, .int .i64 0, .int .i64 0], fun v _ => v = .int .i64 4, fun v _ => v = .int .i64 4, fun v _ => v = .bool true, fun v _ => v = .bool true, fun v _ => v = .bool true, fun v _ => v = .bool true, fun v _ => v = .bool true, fun v _ => v = .bool true] (by kernel_rfl) (by kernel_rfl) (by kernel_rfl) ?st ?steps ?fin
          case st =>
            intro i v W W' hWW h
            match i with
            | 0 | 1 | 2 | 3 | 4 | 5 | 6 | 7 | 8 | 9 | 10 | 11 | 12 | 13 | 14 | 15 | 16 | 17 | 18 | 19 | 20 | 21 | 22 | 23 | 24 | 25 | 26 | 27 | 28 | 29 | 30 | 31 | 32 | 33 | 34 | 35 | 36 | 37 | 38 | 39 | 40 | 41 | 42 | 43 | 44 | 45 | 46 | 47 | 48 => exact h
            | (i + 49) => exact h
          case steps =>
            simp only [stepsI]
            refine ⟨?_, ?_, ?_, ?_, ?_, ?_, ?_, ?_, ?_, ?_, ?_, ?_, ?_, ?_, ?_, ?_, ?_, ?_, ?_, ?_, ?_, ?_, ?_, ?_, ?_, ?_, ?_, ?_, ?_, ?_, ?_, ?_, ?_, ?_, ?_, ?_, ?_, ?_, ?_, ?_, ?_, ?_, ?_, ?_, ?_, ?_, ?_, ?_, ?_, trivial⟩
            · intro f W hbW hdp
              simp only [fS, Nat.reduceAdd]
              go_wp2
              exact ⟨rfl, _, rfl, rfl, Below.refl _ _⟩
            · intro f W hbW hdp
              have e0 : f 0 = .int .i64 0 := hdp ⟨0, .data⟩ (mfl (by simp) rfl)
              simp only [fS, Nat.reduceAdd, e0]
              go_wp2_with (go_at_call 38; refine (HCD.out 0 _).mono ?_; rintro e w' ⟨rfl, hw'⟩; obtain rfl := hw'.symm)
              exact ⟨rfl, _, rfl, rfl, Below.refl _ _⟩
            · intro f W hbW hdp
              simp only [fS, Nat.reduceAdd]
              go_wp2
              exact ⟨rfl, _, rfl, rfl, Below.refl _ _⟩
            · intro f W hbW hdp
              have e1 : f 1 = .int .i64 0 := hdp ⟨1, .data⟩ (mfl (by simp) rfl)
              have e2 : f 2 = .int .i64 0 := hdp ⟨2, .data⟩ (mfl (by simp) rfl)
              simp only [fS, Nat.reduceAdd, e1, e2]
              go_wp2
              exact ⟨rfl, _, rfl, rfl, Below.refl _ _⟩
            · intro f W hbW hdp
              have e3 : f 3 = .bool true := hdp ⟨3, .data⟩ (mfl (by simp) rfl)
              simp only [fS, Nat.reduceAdd, e3]
              go_wp2
              exact ⟨rfl, _, rfl, rfl, Below.refl _ _⟩
            · intro f W hbW hdp
              have e4 : f 4 = .bool true := hdp ⟨4, .guard⟩ (mfl (by simp) rfl)
              simp only [fS, Nat.reduceAdd, e4]
              go_wp2
              exact ⟨rfl, _, rfl, rfl, Below.refl _ _⟩
            · intro f W hbW hdp
              have e4 : f 4 = .bool true := hdp ⟨4, .guard⟩ (mfl (by simp) rfl)
              have e5 : f 5 = .pointer (some ⟨b9, 0, none⟩) := hdp ⟨5, .data⟩ (mfl (by simp) rfl)
              simp only [fS, Nat.reduceAdd, e4, e5]
              go_wp2
              exact ⟨rfl, _, rfl, rfl, Below.refl _ _⟩
            · intro f W hbW hdp
              have e4 : f 4 = .bool true := hdp ⟨4, .guard⟩ (mfl (by simp) rfl)
              simp only [fS, Nat.reduceAdd, e4]
              go_wp2
              exact ⟨rfl, _, rfl, rfl, Below.refl _ _⟩
            · intro f W hbW hdp
              have e4 : f 4 = .bool true := hdp ⟨4, .guard⟩ (mfl (by simp) rfl)
              have e7 : f 7 = .int .i64 0 := hdp ⟨7, .data⟩ (mfl (by simp) rfl)
              simp only [fS, Nat.reduceAdd, e4, e7]
              go_wp2
              exact ⟨rfl, _, rfl, rfl, Below.refl _ _⟩
            · intro f W hbW hdp
              have e4 : f 4 = .bool true := hdp ⟨4, .guard⟩ (mfl (by simp) rfl)
              have e6 : f 6 = .bool true := hdp ⟨6, .data⟩ (mfl (by simp) rfl)
              have e8 : f 8 = .bool true := hdp ⟨8, .data⟩ (mfl (by simp) rfl)
              simp only [fS, Nat.reduceAdd, e4, e6, e8]
              go_wp2
              exact ⟨rfl, _, rfl, rfl, Below.refl _ _⟩
            · intro f W hbW hdp
              have e4 : f 4 = .bool true := hdp ⟨4, .data⟩ (mfl (by simp) rfl)
              have e9 : f 9 = .bool true := hdp ⟨9, .data⟩ (mfl (by simp) rfl)
              simp only [fS, Nat.reduceAdd, e4, e9]
              go_wp2
              exact ⟨rfl, _, rfl, rfl, Below.refl _ _⟩
            · intro f W hbW hdp
              have e10 : f 10 = .bool true := hdp ⟨10, .data⟩ (mfl (by simp) rfl)
              simp only [fS, Nat.reduceAdd, e10]
              go_wp2
              exact ⟨rfl, _, rfl, rfl, Below.refl _ _⟩
            · intro f W hbW hdp
              have e11 : f 11 = .bool true := hdp ⟨11, .guard⟩ (mfl (by simp) rfl)
              simp only [fS, Nat.reduceAdd, e11]
              go_wp2
              exact ⟨rfl, _, rfl, rfl, Below.refl _ _⟩
            · intro f W hbW hdp
              have e11 : f 11 = .bool true := hdp ⟨11, .guard⟩ (mfl (by simp) rfl)
              have e12 : f 12 = .pointer (some ⟨b9, 0, none⟩) := hdp ⟨12, .data⟩ (mfl (by simp) rfl)
              simp only [fS, Nat.reduceAdd, e11, e12]
              go_wp2
              exact ⟨rfl, _, rfl, rfl, Below.refl _ _⟩
            · intro f W hbW hdp
              have e11 : f 11 = .bool true := hdp ⟨11, .guard⟩ (mfl (by simp) rfl)
              have e13 : f 13 = .bool false := hdp ⟨13, .data⟩ (mfl (by simp) rfl)
              simp only [fS, Nat.reduceAdd, e11, e13]
              go_wp2
              exact ⟨rfl, _, rfl, rfl, Below.refl _ _⟩
            · intro f W hbW hdp
              have e14 : f 14 = .bool false := hdp ⟨14, .guard⟩ (mfl (by simp) rfl)
              simp only [fS, Nat.reduceAdd, e14]
              go_wp2
              exact ⟨rfl, _, rfl, rfl, Below.refl _ _⟩
            · intro f W hbW hdp
              have e14 : f 14 = .bool false := hdp ⟨14, .guard⟩ (mfl (by simp) rfl)
              have e15 : f 15 = .pointer (some ⟨b9, 0, none⟩) := hdp ⟨15, .data⟩ (mfl (by simp) rfl)
              simp only [fS, Nat.reduceAdd, e14, e15]
              go_wp2
              exact ⟨rfl, _, rfl, rfl, Below.refl _ _⟩
            · intro f W hbW hdp
              have e14 : f 14 = .bool false := hdp ⟨14, .guard⟩ (mfl (by simp) rfl)
              have e16 : f 16 = .pointer (some ⟨b9, 0, none⟩) := hdp ⟨16, .data⟩ (mfl (by simp) rfl)
              simp only [fS, Nat.reduceAdd, e14, e16]
              go_wp2
              exact ⟨rfl, _, rfl, rfl, Below.refl _ _⟩
            · intro f W hbW hdp
              have e14 : f 14 = .bool false := hdp ⟨14, .guard⟩ (mfl (by simp) rfl)
              have e17 : f 17 = .pointer (some ⟨b9, 1, none⟩) := hdp ⟨17, .data⟩ (mfl (by simp) rfl)
              have kb := Blk.via hbW KB.out
              have z1 := kb.cell 1
              have z2 := kb.cell 2
              have z3 := kb.cell 3
              have z4 := kb.cell 4
              have z5 := kb.cell 5
              have zl := kb.lt
              simp only [fS, Nat.reduceAdd, e14, e17]
              go_wp2
              exact ⟨rfl, _, rfl, rfl, Below.refl _ _⟩
            · intro f W hbW hdp
              have e14 : f 14 = .bool false := hdp ⟨14, .guard⟩ (mfl (by simp) rfl)
              have kb := Blk.via hbW KC13.out
              have z0 := kb.cell 0
              have z1 := kb.cell 1
              have z2 := kb.cell 2
              have z3 := kb.cell 3
              have z4 := kb.cell 4
              have zl := kb.lt
              simp only [fS, Nat.reduceAdd, e14]
              go_wp2
              exact ⟨rfl, _, rfl, rfl, Below.refl _ _⟩
            · intro f W hbW hdp
              have e14 : f 14 = .bool false := hdp ⟨14, .guard⟩ (mfl (by simp) rfl)
              have e18 : f 18 = .agg #[.int .i64 x.b, .int .i64 x.p, .int .i64 x.f, .int .i64 x.c, .int .i64 x.l] := hdp ⟨18, .data⟩ (mfl (by simp) rfl)
              have e19 : f 19 = .agg #[.int .i64 x.b, .int .i64 x.p, .int .i64 x.f, .int .i64 x.c, .int .i64 x.l] := hdp ⟨19, .data⟩ (mfl (by simp) rfl)
              simp only [fS, Nat.reduceAdd, e14, e18, e19]
              go_wp2
              exact ⟨rfl, _, rfl, rfl, Below.refl _ _⟩
            · intro f W hbW hdp
              have e11 : f 11 = .bool true := hdp ⟨11, .guard⟩ (mfl (by simp) rfl)
              have e14 : f 14 = .bool false := hdp ⟨14, .data⟩ (mfl (by simp) rfl)
              have e20 : f 20 = .bool true := hdp ⟨20, .data⟩ (mfl (by simp) rfl)
              simp only [fS, Nat.reduceAdd, e11, e14, e20]
              go_wp2
              exact ⟨rfl, _, rfl, rfl, Below.refl _ _⟩
            · intro f W hbW hdp
              have e11 : f 11 = .bool true := hdp ⟨11, .data⟩ (mfl (by simp) rfl)
              have e21 : f 21 = .bool true := hdp ⟨21, .data⟩ (mfl (by simp) rfl)
              simp only [fS, Nat.reduceAdd, e11, e21]
              go_wp2
              exact ⟨rfl, _, rfl, rfl, Below.refl _ _⟩
            · intro f W hbW hdp
              have e22 : f 22 = .bool true := hdp ⟨22, .data⟩ (mfl (by simp) rfl)
              simp only [fS, Nat.reduceAdd, e22]
              go_wp2
              exact ⟨rfl, _, rfl, rfl, Below.refl _ _⟩
            · intro f W hbW hdp
              have e23 : f 23 = .bool true := hdp ⟨23, .guard⟩ (mfl (by simp) rfl)
              simp only [fS, Nat.reduceAdd, e23]
              go_wp2
              exact ⟨rfl, _, rfl, rfl, Below.refl _ _⟩
            · intro f W hbW hdp
              have e23 : f 23 = .bool true := hdp ⟨23, .guard⟩ (mfl (by simp) rfl)
              have e24 : f 24 = .int .i64 4 := hdp ⟨24, .data⟩ (mfl (by simp) rfl)
              simp only [fS, Nat.reduceAdd, e23, e24]
              go_wp2_with (go_at_call 38; refine (HCD.out 4 _).mono ?_; rintro e w' ⟨rfl, hw'⟩; obtain rfl := hw'.symm)
              exact ⟨rfl, _, rfl, rfl, Below.refl _ _⟩
            · intro f W hbW hdp
              have e23 : f 23 = .bool true := hdp ⟨23, .guard⟩ (mfl (by simp) rfl)
              have e25 : f 25 = .int .i64 4 := hdp ⟨25, .data⟩ (mfl (by simp) rfl)
              simp only [fS, Nat.reduceAdd, e23, e25]
              go_wp2
              exact ⟨rfl, _, rfl, rfl, Below.refl _ _⟩
            · intro f W hbW hdp
              have e23 : f 23 = .bool true := hdp ⟨23, .data⟩ (mfl (by simp) rfl)
              have e26 : f 26 = .bool true := hdp ⟨26, .data⟩ (mfl (by simp) rfl)
              simp only [fS, Nat.reduceAdd, e23, e26]
              go_wp2
              exact ⟨rfl, _, rfl, rfl, Below.refl _ _⟩
            · intro f W hbW hdp
              have e27 : f 27 = .bool true := hdp ⟨27, .data⟩ (mfl (by simp) rfl)
              simp only [fS, Nat.reduceAdd, e27]
              go_wp2
              exact ⟨rfl, _, rfl, rfl, Below.refl _ _⟩
            · intro f W hbW hdp
              have e28 : f 28 = .bool true := hdp ⟨28, .guard⟩ (mfl (by simp) rfl)
              simp only [fS, Nat.reduceAdd, e28]
              go_wp2
              exact ⟨rfl, _, rfl, rfl, Below.refl _ _⟩
            · intro f W hbW hdp
              have e28 : f 28 = .bool true := hdp ⟨28, .guard⟩ (mfl (by simp) rfl)
              have e29 : f 29 = .int .i64 4 := hdp ⟨29, .data⟩ (mfl (by simp) rfl)
              simp only [fS, Nat.reduceAdd, e28, e29]
              go_wp2_with (go_at_call 38; refine (HCD.out 4 _).mono ?_; rintro e w' ⟨rfl, hw'⟩; obtain rfl := hw'.symm)
              exact ⟨rfl, _, rfl, rfl, Below.refl _ _⟩
            · intro f W hbW hdp
              have e28 : f 28 = .bool true := hdp ⟨28, .guard⟩ (mfl (by simp) rfl)
              have e30 : f 30 = .int .i64 4 := hdp ⟨30, .data⟩ (mfl (by simp) rfl)
              simp only [fS, Nat.reduceAdd, e28, e30]
              go_wp2
              exact ⟨rfl, _, rfl, rfl, Below.refl _ _⟩
            · intro f W hbW hdp
              have e28 : f 28 = .bool true := hdp ⟨28, .data⟩ (mfl (by simp) rfl)
              have e31 : f 31 = .bool true := hdp ⟨31, .data⟩ (mfl (by simp) rfl)
              simp only [fS, Nat.reduceAdd, e28, e31]
              go_wp2
              exact ⟨rfl, _, rfl, rfl, Below.refl _ _⟩
            · intro f W hbW hdp
              have e32 : f 32 = .bool true := hdp ⟨32, .data⟩ (mfl (by simp) rfl)
              simp only [fS, Nat.reduceAdd, e32]
              go_wp2
              exact ⟨rfl, _, rfl, rfl, Below.refl _ _⟩
            · intro f W hbW hdp
              have e33 : f 33 = .bool true := hdp ⟨33, .guard⟩ (mfl (by simp) rfl)
              simp only [fS, Nat.reduceAdd, e33]
              go_wp2
              exact ⟨rfl, _, rfl, rfl, Below.refl _ _⟩
            · intro f W hbW hdp
              have e33 : f 33 = .bool true := hdp ⟨33, .guard⟩ (mfl (by simp) rfl)
              have e34 : f 34 = .int .i64 4 := hdp ⟨34, .data⟩ (mfl (by simp) rfl)
              simp only [fS, Nat.reduceAdd, e33, e34]
              go_wp2_with (go_at_call 38; refine (HCD.out 4 _).mono ?_; rintro e w' ⟨rfl, hw'⟩; obtain rfl := hw'.symm)
              exact ⟨rfl, _, rfl, rfl, Below.refl _ _⟩
            · intro f W hbW hdp
              have e33 : f 33 = .bool true := hdp ⟨33, .guard⟩ (mfl (by simp) rfl)
              have e35 : f 35 = .int .i64 4 := hdp ⟨35, .data⟩ (mfl (by simp) rfl)
              simp only [fS, Nat.reduceAdd, e33, e35]
              go_wp2
              exact ⟨rfl, _, rfl, rfl, Below.refl _ _⟩
            · intro f W hbW hdp
              have e33 : f 33 = .bool true := hdp ⟨33, .data⟩ (mfl (by simp) rfl)
              have e36 : f 36 = .bool true := hdp ⟨36, .data⟩ (mfl (by simp) rfl)
              simp only [fS, Nat.reduceAdd, e33, e36]
              go_wp2
              exact ⟨rfl, _, rfl, rfl, Below.refl _ _⟩
            · intro f W hbW hdp
              have e37 : f 37 = .bool true := hdp ⟨37, .data⟩ (mfl (by simp) rfl)
              simp only [fS, Nat.reduceAdd, e37]
              go_wp2
              exact ⟨rfl, _, rfl, rfl, Below.refl _ _⟩
            · intro f W hbW hdp
              have e38 : f 38 = .bool true := hdp ⟨38, .guard⟩ (mfl (by simp) rfl)
              simp only [fS, Nat.reduceAdd, e38]
              go_wp2
              exact ⟨rfl, _, rfl, rfl, Below.refl _ _⟩
            · intro f W hbW hdp
              have e38 : f 38 = .bool true := hdp ⟨38, .guard⟩ (mfl (by simp) rfl)
              simp only [fS, Nat.reduceAdd, e38]
              go_wp2
              exact ⟨rfl, _, rfl, rfl, Below.refl _ _⟩
            · intro f W hbW hdp
              have e38 : f 38 = .bool true := hdp ⟨38, .guard⟩ (mfl (by simp) rfl)
              have e39 : f 39 = .pointer none := hdp ⟨39, .data⟩ (mfl (by simp) rfl)
              have e40 : f 40 = .agg #[.int .i64 0, .int .i64 0, .int .i64 0, .int .i64 0, .slice none 0 0, .int .i64 0, .string ⟨#[]⟩, .int .i64 0, .string ⟨#[]⟩, .int .i64 0, .slice none 0 0, .int .i64 0, .int .i64 0, .int .i64 0, .int .i64 0] := hdp ⟨40, .data⟩ (mfl (by simp) rfl)
              simp only [fS, Nat.reduceAdd, e38, e39, e40]
              go_wp2_with (go_at_call 39; refine (HRN.out _ _).mono ?_; rintro e w' ⟨rfl, hb'⟩)
              exact ⟨rfl, _, rfl, rfl, hb'⟩
            · intro f W hbW hdp
              have e38 : f 38 = .bool true := hdp ⟨38, .guard⟩ (mfl (by simp) rfl)
              have e41 : f 41 = .int .i64 4 := hdp ⟨41, .data⟩ (mfl (by simp) rfl)
              simp only [fS, Nat.reduceAdd, e38, e41]
              go_wp2_with (go_at_call 38; refine (HCD.out 4 _).mono ?_; rintro e w' ⟨rfl, hw'⟩; obtain rfl := hw'.symm)
              exact ⟨rfl, _, rfl, rfl, Below.refl _ _⟩
            · intro f W hbW hdp
              have e38 : f 38 = .bool true := hdp ⟨38, .guard⟩ (mfl (by simp) rfl)
              have e42 : f 42 = .int .i64 4 := hdp ⟨42, .data⟩ (mfl (by simp) rfl)
              simp only [fS, Nat.reduceAdd, e38, e42]
              go_wp2
              exact ⟨rfl, _, rfl, rfl, Below.refl _ _⟩
            · intro f W hbW hdp
              have e38 : f 38 = .bool true := hdp ⟨38, .data⟩ (mfl (by simp) rfl)
              have e43 : f 43 = .bool true := hdp ⟨43, .data⟩ (mfl (by simp) rfl)
              simp only [fS, Nat.reduceAdd, e38, e43]
              go_wp2
              exact ⟨rfl, _, rfl, rfl, Below.refl _ _⟩
            · intro f W hbW hdp
              have e44 : f 44 = .bool true := hdp ⟨44, .data⟩ (mfl (by simp) rfl)
              simp only [fS, Nat.reduceAdd, e44]
              go_wp2
              exact ⟨rfl, _, rfl, rfl, Below.refl _ _⟩
            · intro f W hbW hdp
              have e45 : f 45 = .bool true := hdp ⟨45, .guard⟩ (mfl (by simp) rfl)
              simp only [fS, Nat.reduceAdd, e45]
              go_wp2_with (go_at_call 33; refine (HLV.out _).mono ?_; rintro e w' ⟨rfl, hb'⟩)
              exact ⟨rfl, _, rfl, rfl, hb'⟩
            · intro f W hbW hdp
              have e45 : f 45 = .bool true := hdp ⟨45, .data⟩ (mfl (by simp) rfl)
              have e46 : f 46 = .bool true := hdp ⟨46, .data⟩ (mfl (by simp) rfl)
              simp only [fS, Nat.reduceAdd, e45, e46]
              go_wp2
              exact ⟨rfl, _, rfl, rfl, Below.refl _ _⟩
            · intro f W hbW hdp
              have e47 : f 47 = .bool true := hdp ⟨47, .data⟩ (mfl (by simp) rfl)
              simp only [fS, Nat.reduceAdd, e47]
              go_wp2
              exact ⟨rfl, _, rfl, rfl, Below.refl _ _⟩
          case fin =>
            intro f W hbW hA
            have e48 : f 48 = .bool true := hA 48 (by simp)
            show wpList Tryz.prog #[] (Exit.then _ _) [] _ _
            simp only [fS, Nat.reduceAdd, e48]
            clear hA e48
            go_wp2
            go_ret
            exact ⟨rfl, HB7.out.trans ((HB7e.out.trans (hbW.mono HB7e.out.size)).mono HB7.out.size)⟩
end Go.Proofs.YtnanlaefehaifaaGreat
namespace Go.Proofs.YtnanlaefehaifaaGreat
open Go.RowKit Go.ChangeShapes Go.WideShapes Go.Deep
theorem cells_512 : Tryz.prog.cellsOf 62 = 512 := by kernel_rfl
theorem mapM_all {α β : Type} {f : α → Option β} : ∀ {l : List α} {ys : List β}, l.mapM f = some ys → ∀ a ∈ l, ∃ y, f a = some y
  | [], _, _, a, ha => by cases ha
  | x :: l, ys, h, a, ha => by
    rw [List.mapM_cons] at h
    simp only [bind, Option.bind_eq_some_iff, pure, Option.some.injEq] at h
    obtain ⟨y, hy, ys', hys, _⟩ := h
    rcases List.mem_cons.1 ha with rfl | ha
    · exact ⟨y, hy⟩
    · exact mapM_all hys a ha
section
variable {H : Type} {enc : TypeId × Value → H} {w : World} {base : Nat} {spare : Nat → Bool} {held : Bool}
theorem open_arr512 {fuel : Nat} {cs : List Value} {x : DataW H × List MemPlace} (h : DataW.trod enc Tryz.prog w base spare held fuel 62 cs = some x) : ∃ p : List UInt8, p.length = 512 ∧ cs = p.map byteV := by
  cases fuel with
  | zero => simp [DataW.trod] at h
  | succ m =>
    rw [DataW.trod_step] at h
    unfold DataW.trodStep at h
    simp only [Tryz.underlying62, cells_512, cells_u8] at h
    split at h
    · rename_i hl
      simp only [Option.map_eq_some_iff] at h
      obtain ⟨xs, hx, _⟩ := h
      have hat : ∀ i, i < 512 → ∃ z, cs[i]? = some (.int .u8 z) ∧ (Lit.int .u8 z).wf = true := fun i hi => by
        obtain ⟨y, hy⟩ := mapM_all hx i (List.mem_range.2 hi)
        obtain ⟨z, hz, _, hw⟩ := DataW.trod_int Tryz.underlying5 hy
        refine ⟨z, ?_, hw⟩
        have := congrArg (fun l => l[0]?) hz
        simpa [List.getElem?_take, List.getElem?_drop] using this
      refine ⟨cs.map (fun v => match v with | .int _ z => UInt8.ofNat z.toNat | _ => 0), by rw [List.length_map]; exact hl, ?_⟩
      refine List.ext_getElem? (fun i => ?_)
      rw [List.getElem?_map, List.getElem?_map]
      rcases Nat.lt_or_ge i 512 with hi | hi
      · obtain ⟨z, hz, hw⟩ := hat i hi
        rw [hz]
        simp only [Option.map_some]
        rw [byte_back hw]
      · rw [List.getElem?_eq_none (by omega)]
        rfl
    · cases h
theorem okWide_arr512 {r : Reach} {b0 : Nat} {v : Value} (h : Value.okWide Tryz.prog w r b0 62 v) : ∃ xs : Array Value, v = .agg xs := by
  simp only [Value.okWide, Tryz.underlying62] at h
  obtain ⟨cs, h1, _⟩ := h
  exact ⟨cs, h1⟩
end
end Go.Proofs.YtnanlaefehaifaaGreat
