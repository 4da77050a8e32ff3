/-
  Texts of this claim, joined: RZh, LA, KD, KE, KF, KG, KH, KI, KJ, KL.
-/
import Derived.Maps.RangeWalk
import Derived.Test.YtnanlaefehaifaaGreatAu04
set_option maxHeartbeats 6400000
set_option maxRecDepth 100000
namespace Go.Proofs.YtnanlaefehaifaaGreat
open Go.RowKit Go.Maps
def heldV (v : Value) : Option (DataW Value × List MemPlace) := some (.held v, [])
theorem keyInt : Keyed Tryz.prog 3 := int_keyed Tryz.underlying3
theorem key_of {p : Int} (h : (Lit.int .i64 p).wf = true) : keyOf Tryz.prog 3 (.int .i64 p) = some (.int .i64 p) := keyOf_int_mk Tryz.underlying3 h
def MapF (W : World) (m k : Nat) (f : Int → Option Value) : Prop := ∃ D : DataW Value, W.ownsMap Tryz.prog 3 heldV m k D ∧ ∀ p : Int, Maps.has D (.int .i64 p) = (f p).isSome ∧ ∀ v, f p = some v → ∀ z, D.atKey (.int .i64 p) z = .held v
theorem MapF.ne {W : World} {m k g : Nat} {f : Int → Option Value} {cs : Array Value} {t : TypeId} (h : MapF W m k f) (kb : W.heap[g]? = some (Obj.cells cs t (0, 0))) : g ≠ m := by
  obtain ⟨D, ⟨es, clock, hb, _⟩, _⟩ := h
  rintro rfl
  rw [hb] at kb
  cases kb
theorem MapF.start (w : World) : MapF (w.alloc (.map #[] 0)) w.heap.size 0 (fun _ => none) := ⟨.map [], World.ownsMap_made _ _ _ _, fun _ => ⟨rfl, fun _ h => by cases h⟩⟩
theorem MapF.put {W' : World} {m k : Nat} {f : Int → Option Value} {D : DataW Value} {p : Int} {v : Value} (hD : ∀ p : Int, Maps.has D (.int .i64 p) = (f p).isSome ∧ ∀ v, f p = some v → ∀ z, D.atKey (.int .i64 p) z = .held v) (hm : Maps.IsMap D) (h : W'.ownsMap Tryz.prog 3 heldV m k (D.put (.int .i64 p) (.held v))) : MapF W' m k (fun q => if q = p then some v else f q) := by
  refine ⟨_, h, fun q => ?_⟩
  by_cases hq : q = p
  · subst hq
    simp only [if_true]
    exact ⟨has_put_same hm (show WideAt.IsKeyLit (.int .i64 q) by simp [WideAt.IsKeyLit]) _, fun u hu z => by injection hu with hu; subst hu; exact atKey_put_same hm (show WideAt.IsKeyLit (.int .i64 q) by simp [WideAt.IsKeyLit]) _ _⟩
  · have hne : (Lit.int .i64 q) ≠ (Lit.int .i64 p) := fun e => hq (by injection e)
    simp only [if_neg hq]
    exact ⟨(has_put_other hne _).trans (hD q).1, fun u hu z => (atKey_put_other hne _ _).trans ((hD q).2 u hu z)⟩
theorem MapF.kept {W W' : World} {m k : Nat} {f : Int → Option Value} (h : MapF W m k f) (hk : W'.heap[m]? = W.heap[m]?) : MapF W' m k f := by
  obtain ⟨D, ⟨es, clock, hb, r⟩, hD⟩ := h
  exact ⟨D, ⟨es, clock, hk.trans hb, r⟩, hD⟩
theorem MapF.lt {W : World} {m k : Nat} {f : Int → Option Value} (h : MapF W m k f) : m < W.heap.size := by
  obtain ⟨D, hD, _⟩ := h
  exact hD.lt
theorem World.ownsMap.kept' {W W' : World} {m k : Nat} {f : Int → Option Value} (h : MapF W m k f) (hb : Below W.heap.size W W') : MapF W' m k f := h.kept (hb.block m h.lt)
end Go.Proofs.YtnanlaefehaifaaGreat
namespace Go.Proofs.YtnanlaefehaifaaGreat
open Go.RowKit
theorem numNil_any (A : Option Addr) (c : Nat) (w : World) : Calls Tryz.prog 167 #[.slice A 0 c, .int .i64 0, .int .i64 2] w fun e w' => e = .returned (.tuple #[.int .i64 0, .bool false]) ∧ w' = w := by
  have HW := hide (wide_any 2 true (by decide) w)
  go_enter Tryz.func167, Tryz.ntmps167
  go_wp2_with (go_at_call 175; refine HW.out.mono ?_; rintro e w' ⟨rfl, hw'⟩; obtain rfl := hw'.symm)
  go_ret2
  exact ⟨rfl, rfl⟩
theorem results_row_2 {fn : Func} {p t2 t3 : Tmp} {ty : TypeId} (h : fn.results = #[.cell p ty, .tmp t2, .tmp t3]) (tmps : Array Value) (w : World) (g : Nat) (cs : Array Value)
    (hp : tmps.getD p undef = .pointer (some ⟨g, 0, none⟩)) (hl : (loadVar ty ⟨g, 0, none⟩).run Tryz.prog w = .ok (.agg cs) w) :
    (results fn tmps).run Tryz.prog w = .ok (.tuple #[.agg cs, tmps.getD t2 undef, tmps.getD t3 undef]) w := by
  have hp' : tmps[p]?.getD undef = .pointer (some ⟨g, 0, none⟩) := by simpa using hp
  simp [results, h, hp', asAddr, hl]
def recZ : Array Value := #[.int .i64 0, .int .i64 0, .int .i64 0, .int .i64 0, .slice none 0 0, .int .i64 0, .string ⟨#[]⟩, .int .i64 0, .string ⟨#[]⟩, .int .i64 0, .slice none 0 0, .int .i64 0, .int .i64 0, .int .i64 0, .int .i64 0]
theorem getNil_any (A : Option Addr) (c : Nat) (w : World) : Calls Tryz.prog 107 #[.slice A 0 c] w fun e w' => e = .returned (.tuple #[.agg recZ, .int .i64 0, .int .i64 13]) ∧ Below w.heap.size w w' := by
  have HN := hide (fun W => numNil_any A c W)
  go_enter Tryz.func107, Tryz.ntmps107
  go_upto_region 1 with (fail)
  refine gen1 (R := fun W => Code.wp _ _ _ _ W) (fun W1 kb hb1 hz1 => ?_)
  have HB1 := hide hb1
  have HKB := hide kb
  clear kb hb1
  go_upto_region 3 with (go_at_call 167; refine (HN.out _).mono ?_; rintro e w' ⟨rfl, hw'⟩; obtain rfl := hw'.symm)
  have hX : recZ = #[.int .i64 0, .int .i64 0, .int .i64 0, .int .i64 0, .slice none 0 0, .int .i64 0, .string ⟨#[]⟩, .int .i64 0, .string ⟨#[]⟩, .int .i64 0, .slice none 0 0, .int .i64 0, .int .i64 0, .int .i64 0, .int .i64 0] := rfl
  have HX := hide hX
  clear hX
  have HII := hide (show (Tryz.prog.info? 41).map (·.size) = some recZ.size by rw [HX.out]; kernel_rfl)
  have H1C := hide (show recZ.all (·.oneCell') = true by rw [HX.out]; simp [Value.oneCell'])
  have HZX := hide (show (15 : Nat) = recZ.size by rw [HX.out]; rfl)
  have hK4 : Blk (W1.setRow w.heap.size recZ) w.heap.size 41 recZ := setRow_heap W1 w.heap.size _ _ _ _ HKB.out
  have HK4 := hide hK4
  clear hK4
  have HB4 := hide ((touch_setRow W1 w.heap.size recZ).below HB1.out (Nat.le_refl _))
  go_wp2_with (refine wpList_store_row rfl 41 (.tmp 2) (.tmp 23) rfl w.heap.size recZ rfl (by rw [HX.out]; rfl) 41 _ HKB.out HII.out HZX.out H1C.out ?_)
  refine bodyPost_ret (results_row_2 Tryz.results107 _ _ w.heap.size recZ rfl (run_loadVar_row _ _ _ _ recZ (0, 0) _ HK4.out Tryz.underlying41 rfl HII.out)) rfl ?_
  exact ⟨rfl, HB4.out⟩
end Go.Proofs.YtnanlaefehaifaaGreat
namespace Go.Proofs.YtnanlaefehaifaaGreat
open Go.RowKit
theorem numI_one (bs : List UInt8) (i : Nat) (x : UInt8) (h : bs[i]? = some x) : numI (cutB bs i 1) = (x.toNat : Nat) := by
  have h1 : cutB bs i 1 = [x] := by
    have := cutB_succ (bs := bs) (at_ := i) (k := 0) (by simpa using h)
    rw [this]
    simp [cutB]
  have hx := x.toNat_lt
  rw [h1]
  unfold numI
  rw [show numB [x] = x.toNat by simp [numB]]
  unfold wrap64
  omega
def cellG (bs : List UInt8) : Option CellD :=
  if (bs.getD 0 0).toNat = 1 then (if (bs.getD 1 0).toNat ≤ 32 then some ⟨1, cutB bs 2 (bs.getD 1 0).toNat, 0, 0, 0⟩ else none)
  else if (bs.getD 0 0).toNat = 2 then (if numI (cutB bs 1 8) ≤ numI (cutB bs 17 8) ∧ numI (cutB bs 17 8) ≤ numI (cutB bs 9 8) then some ⟨2, [], numI (cutB bs 1 8), numI (cutB bs 9 8), numI (cutB bs 17 8)⟩ else none)
  else none
def CellGP (w : World) (o : Option CellD) (e : Ending) (w' : World) : Prop :=
  ((o = none ∧ ∃ sz er, e = .returned (.tuple #[.agg #[.int .i64 0, .slice none 0 0, .int .i64 0, .int .i64 0, .int .i64 0], .int .i64 sz, .int .i64 er]) ∧ er ≠ 0) ∨ (∃ d A n c sz, o = some d ∧ e = .returned (.tuple #[.agg #[.int .i64 d.kind, .slice A n c, .int .i64 d.lo, .int .i64 d.hi, .int .i64 d.val], .int .i64 sz, .int .i64 0]) ∧ BytesAt w' w'.heap.size (.slice A n c) d.data)) ∧ Below w.heap.size w w'
theorem info_cellK : (Tryz.prog.info? 35).map (·.size) = some 5 := by kernel_rfl
theorem cellGet_any (A : Option Addr) (n c : Nat) (bs : List UInt8) (B : Nat) (w : World) (hB : B ≤ w.heap.size) (hm : 46 ≤ n) (hm2 : n ≤ 64) (hnc : n ≤ c) (hn : n = bs.length) (hr : Reads w B 1 A n (bs.map byteV)) :
    Calls Tryz.prog 202 #[.slice A n c] w (CellGP w (cellG bs)) := by
  have HNUM := hide (fun (at_ width : Nat) (W : World) (h1 : 1 ≤ width) (h8 : width ≤ 8) (hin : at_ + width ≤ n) (hb : Below w.heap.size w W) => num_any A n c bs at_ width B W (by omega) hnc hn (hr.below hb hB) h1 h8 hin)
  have HRD := hide (fun (W : World) (hb : Below w.heap.size w W) => hr.below hb hB)
  have HN := hide hn
  obtain ⟨b, o, rfl, hbB, _⟩ := hr.plain (by omega) (by omega)
  clear hr
  obtain ⟨x0, hx0⟩ : ∃ x, bs[0]? = some x := ⟨_, List.getElem?_eq_getElem (by omega)⟩
  obtain ⟨x1, hx1⟩ : ∃ x, bs[1]? = some x := ⟨_, List.getElem?_eq_getElem (by omega)⟩
  have H0 := hide (numI_one bs 0 x0 hx0)
  have H1 := hide (numI_one bs 1 x1 hx1)
  have HG := hide (show cellG bs = (if x0.toNat = 1 then (if x1.toNat ≤ 32 then some ⟨1, cutB bs 2 x1.toNat, 0, 0, 0⟩ else none)
    else if x0.toNat = 2 then (if numI (cutB bs 1 8) ≤ numI (cutB bs 17 8) ∧ numI (cutB bs 17 8) ≤ numI (cutB bs 9 8) then some ⟨2, [], numI (cutB bs 1 8), numI (cutB bs 9 8), numI (cutB bs 17 8)⟩ else none) else none) by
    unfold cellG
    rw [show bs.getD 0 0 = x0 by rw [List.getD_eq_getElem?_getD, hx0]; rfl, show bs.getD 1 0 = x1 by rw [List.getD_eq_getElem?_getD, hx1]; rfl])
  have hxl0 := x0.toNat_lt
  have hxl1 := x1.toNat_lt
  generalize x0.toNat = k0 at *
  generalize x1.toNat = k1 at *
  clear hn hx0 hx1
  go_enter Tryz.func202, Tryz.ntmps202
  go_upto_region 1 with (fail)
  refine gen1 (R := fun W => Code.wp _ _ _ _ W) (fun W1 kb hb1 hz1 => ?_)
  have HB1 := hide hb1
  have HKB := hide kb
  clear kb hb1
  have HC0 := hide (HNUM.out 0 1 W1 (by omega) (by omega) (by omega) HB1.out)
  rw [H0.out] at HC0
  go_upto_region 5 with (go_at_call 167; refine HC0.out.mono ?_; rintro e w' ⟨rfl, hw'⟩; obtain rfl := hw'.symm)
  refine gen1 (R := fun W => Code.wp _ _ _ _ W) (fun W2 kc hb2 hz2 => ?_)
  have HL2 := hide (HB1.out.trans (hb2.mono HB1.out.size))
  have HKB2 := hide (Blk.via hb2 HKB.out)
  have HKC := hide kc
  have hzz := HB1.out.size
  clear kc hb2
  by_cases hk1 : k0 = 1
  · subst hk1
    have HC1 := hide (HNUM.out 1 1 W2 (by omega) (by omega) (by omega) HL2.out)
    rw [H1.out] at HC1
    by_cases hsz : (n : Int) < 2 + (k1 : Int)
    · have HNO := hide (show cellG bs = none by rw [HG.out, if_pos rfl, if_neg (by omega)])
      have c20 := (HKB2.out).cell 0
      have c21 := (HKB2.out).cell 1
      have c22 := (HKB2.out).cell 2
      have c23 := (HKB2.out).cell 3
      have c24 := (HKB2.out).cell 4
      have f20 := (HKB2.out).frozen 0
      have f21 := (HKB2.out).frozen 1
      have f22 := (HKB2.out).frozen 2
      have f23 := (HKB2.out).frozen 3
      have f24 := (HKB2.out).frozen 4
      have l20 := (HKB2.out).lt
      go_wp2_with (go_at_call 167; refine HC1.out.mono ?_; rintro e w' ⟨rfl, hw'⟩; obtain rfl := hw'.symm)
      refine bodyPost_ret (results_row_2 Tryz.results202 _ _ w.heap.size #[.int .i64 0, .slice none 0 0, .int .i64 0, .int .i64 0, .int .i64 0] rfl (run_loadVar_row _ _ _ _ #[.int .i64 0, .slice none 0 0, .int .i64 0, .int .i64 0, .int .i64 0] (0, 0) _ (((((Blk.set_ HKB2.out 0 _).set_ 1 _).set_ 2 _).set_ 3 _).set_ 4 _) Tryz.underlying35 rfl info_cellK)) rfl ⟨?_, (((((Below.setCell HL2.out (p := ⟨w.heap.size, 0, none⟩) (Nat.le_refl _) _).setCell (p := ⟨w.heap.size, 1, none⟩) (Nat.le_refl _) _).setCell (p := ⟨w.heap.size, 2, none⟩) (Nat.le_refl _) _).setCell (p := ⟨w.heap.size, 3, none⟩) (Nat.le_refl _) _).setCell (p := ⟨w.heap.size, 4, none⟩) (Nat.le_refl _) _)⟩
      exact .inl ⟨HNO.out, _, _, rfl, by omega⟩
    · have hszn : 2 + k1 ≤ n := by omega
      go_upto_region 12 with (go_at_call 167; refine HC1.out.mono ?_; rintro e w' ⟨rfl, hw'⟩; obtain rfl := hw'.symm)
      obtain ⟨i0, hi, hz0, hz1', hz2'⟩ := info_parts info_u8R
      have hcut : ((bs.map byteV).drop (2 * 1)).take (k1 * 1) = (cutB bs 2 k1).map byteV := by
        unfold cutB
        rw [Nat.mul_one, Nat.mul_one, List.map_take, List.map_drop]
      have hclen : (cutB bs 2 k1).length = k1 := by
        unfold cutB
        rw [List.length_take, List.length_drop, ← HN.out]
        omega
      have hrd : Reads W2 B 1 (some ⟨b, o + 2, none⟩) k1 ((cutB bs 2 k1).map byteV) := by
        have h := ((HRD.out W2 HL2.out).cut (k := 2) (cap := c) (by omega) hnc).take (k := k1) (by omega)
        rw [if_neg (by omega), Option.map_some, add_plain, hcut] at h
        exact h
      have g1 : (2 : Int) + k1 ≤ c := by omega
      have g2 : (2 : Int) ≤ 2 + k1 := by omega
      have g3 : ¬ (c = 2) := by omega
      have HRDX := hide hrd
      have HCLEN := hide hclen
      clear hrd hcut hclen
      go_wp2_with (at_builtin; refine heldG ?_)
      refine unheldG ?_
      at_builtin
      rw [show 2 + k1 - 2 = k1 by omega]
      refine wpList_append_any _ rfl _ _ _ rfl W2.heap.size 5 i0 _ 1 1 Tryz.underlying33 hi hz0 hz1' hz2' rfl (by omega) (.slice none 0 0) 0 [] rfl (World.ownsRow_nil _ _ _ _) B (some ⟨b, o + 2, none⟩) k1 (c - 2) ((cutB bs 2 k1).map byteV) rfl HRDX.out (bytes_one _) (by unfold maxLen; omega) (by omega) (Nat.le_refl _) ?_
      intro v3 w3 hown hg _
      simp only [Nat.zero_add, List.nil_append] at hown
      obtain ⟨A3, c3, rfl, hnc3, hcm3, hnil3, _⟩ := own_slice hown
      have hb3 : Below W2.heap.size W2 w3 := (Below.refl _ _).grown hg (Nat.le_refl _) (fun q hq => by cases hq)
      have kc3 := Blk.via hb3 HKC.out
      have e1 := kc3.cell 1
      have f1 := kc3.frozen 1
      have l1 := kc3.lt
      have HKC3 := hide kc3
      have HB3 := hide hb3
      have HOW := hide hown
      clear hown hg hb3 kc3
      go_upto_region 20 with (fail)
      refine nameW (w := World.setCell _ _ _) (R := fun W => Code.wp _ _ _ _ W) (fun W4 hW4 => ?_)
      have kc4 : Blk W4 W1.heap.size 35 #[.int .i64 1, .slice A3 k1 c3, .int .i64 0, .int .i64 0, .int .i64 0] := hW4 ▸ HKC3.out.set_ 1 _
      have kb4 : Blk W4 w.heap.size 35 #[.int .i64 0, .slice none 0 0, .int .i64 0, .int .i64 0, .int .i64 0] := hW4 ▸ (Blk.via HB3.out HKB2.out).far (by simp; omega) _
      have hl3 : Below w.heap.size w w3 := HL2.out.trans (HB3.out.mono HL2.out.size)
      have hl4 : Below w.heap.size w W4 := hW4 ▸ hl3.setCell (p := ⟨W1.heap.size, 1, none⟩) (by simp; omega) _
      have ho4 : W4.ownsRow W2.heap.size 5 1 (.slice A3 k1 c3) k1 ((cutB bs 2 k1).map byteV) := hW4 ▸ row_keep HOW.out (fun q hq => Below.heap_setCell _ _ _ _ (by
        have := (World.ownsRow.lt HOW.out q hq).1
        have := HKC.out.lt
        simp; omega))
      have hz24 : w.heap.size < W2.heap.size := by omega
      have HKC4 := hide kc4
      have HKB4 := hide kb4
      have HL4 := hide hl4
      have HO4 := hide ho4
      clear hW4 kc4 kb4 hl3 hl4 ho4 e1 f1 l1
      have HCK := hide (cellCheck_any ⟨1, cutB bs 2 k1, 0, 0, 0⟩ A3 k1 c3 W4 HCLEN.out.symm)
      have z0 := HKC4.out.cell 0
      have z1 := HKC4.out.cell 1
      have z2 := HKC4.out.cell 2
      have z3 := HKC4.out.cell 3
      have z4 := HKC4.out.cell 4
      by_cases hok : k1 ≤ 32
      · have HE := hide (show cellE ⟨1, cutB bs 2 k1, 0, 0, 0⟩ = 0 from by unfold cellE rightC; rw [if_pos (by simp [HCLEN.out]; omega)])
        have HGG := hide (show cellG bs = some ⟨1, cutB bs 2 k1, 0, 0, 0⟩ from by rw [HG.out, if_pos (by trivial), if_pos hok])
        rw [HE.out] at HCK
        clear hok
        go_upto_region 22 with (go_at_call 240; refine HCK.out.mono ?_; rintro e W5 ⟨rfl, hb5⟩; have HB5 := hide hb5; clear hb5)
        have kc5 := Blk.via HB5.out HKC4.out
        have kb5 := Blk.via HB5.out HKB4.out
        have y0 := kc5.cell 0
        have y1 := kc5.cell 1
        have y2 := kc5.cell 2
        have y3 := kc5.cell 3
        have y4 := kc5.cell 4
        have HKB5 := hide kb5
        have hl5 : Below w.heap.size w W5 := HL4.out.trans (HB5.out.mono HL4.out.size)
        have HL5 := hide hl5
        clear kc5 kb5 hl5
        have c20 := (HKB5.out).cell 0
        have c21 := (HKB5.out).cell 1
        have c22 := (HKB5.out).cell 2
        have c23 := (HKB5.out).cell 3
        have c24 := (HKB5.out).cell 4
        have f20 := (HKB5.out).frozen 0
        have f21 := (HKB5.out).frozen 1
        have f22 := (HKB5.out).frozen 2
        have f23 := (HKB5.out).frozen 3
        have f24 := (HKB5.out).frozen 4
        have l20 := (HKB5.out).lt
        go_wp2_with fail
        refine bodyPost_ret (results_row_2 Tryz.results202 _ _ w.heap.size #[.int .i64 (⟨1, cutB bs 2 k1, 0, 0, 0⟩ : CellD).kind, .slice A3 k1 c3, .int .i64 (⟨1, cutB bs 2 k1, 0, 0, 0⟩ : CellD).lo, .int .i64 (⟨1, cutB bs 2 k1, 0, 0, 0⟩ : CellD).hi, .int .i64 (⟨1, cutB bs 2 k1, 0, 0, 0⟩ : CellD).val] rfl (run_loadVar_row _ _ _ _ #[.int .i64 (⟨1, cutB bs 2 k1, 0, 0, 0⟩ : CellD).kind, .slice A3 k1 c3, .int .i64 (⟨1, cutB bs 2 k1, 0, 0, 0⟩ : CellD).lo, .int .i64 (⟨1, cutB bs 2 k1, 0, 0, 0⟩ : CellD).hi, .int .i64 (⟨1, cutB bs 2 k1, 0, 0, 0⟩ : CellD).val] (0, 0) _ (((((Blk.set_ HKB5.out 0 _).set_ 1 _).set_ 2 _).set_ 3 _).set_ 4 _) Tryz.underlying35 rfl info_cellK)) rfl ⟨?_, (((((Below.setCell HL5.out (p := ⟨w.heap.size, 0, none⟩) (Nat.le_refl _) _).setCell (p := ⟨w.heap.size, 1, none⟩) (Nat.le_refl _) _).setCell (p := ⟨w.heap.size, 2, none⟩) (Nat.le_refl _) _).setCell (p := ⟨w.heap.size, 3, none⟩) (Nat.le_refl _) _).setCell (p := ⟨w.heap.size, 4, none⟩) (Nat.le_refl _) _)⟩
        refine .inr ⟨_, A3, k1, c3, _, HGG.out, rfl, ?_⟩
        have ho5 := own_via HO4.out HB5.out
        have hne5 : ∀ q, (Value.slice A3 k1 c3).ownBlock = some q → q ≠ w.heap.size := fun q hq => by have := (World.ownsRow.lt HO4.out q hq).1; omega
        exact BytesAt.of_own (own_far (p := ⟨w.heap.size, 4, none⟩) (own_far (p := ⟨w.heap.size, 3, none⟩) (own_far (p := ⟨w.heap.size, 2, none⟩) (own_far (p := ⟨w.heap.size, 1, none⟩) (own_far (p := ⟨w.heap.size, 0, none⟩) ho5 hne5 _) hne5 _) hne5 _) hne5 _) hne5 _)
      · have HE := hide (show cellE ⟨1, cutB bs 2 k1, 0, 0, 0⟩ = 1 from by unfold cellE rightC; rw [if_neg (by simp [HCLEN.out]; omega)])
        have HGG := hide (show cellG bs = none from by rw [HG.out, if_pos (by trivial), if_neg hok])
        rw [HE.out] at HCK
        clear hok
        go_upto_region 21 with (go_at_call 240; refine HCK.out.mono ?_; rintro e W5 ⟨rfl, hb5⟩; have HB5 := hide hb5; clear hb5)
        have kb5 := Blk.via HB5.out HKB4.out
        have HKB5 := hide kb5
        have hl5 : Below w.heap.size w W5 := HL4.out.trans (HB5.out.mono HL4.out.size)
        have HL5 := hide hl5
        clear kb5 hl5
        have c20 := (HKB5.out).cell 0
        have c21 := (HKB5.out).cell 1
        have c22 := (HKB5.out).cell 2
        have c23 := (HKB5.out).cell 3
        have c24 := (HKB5.out).cell 4
        have f20 := (HKB5.out).frozen 0
        have f21 := (HKB5.out).frozen 1
        have f22 := (HKB5.out).frozen 2
        have f23 := (HKB5.out).frozen 3
        have f24 := (HKB5.out).frozen 4
        have l20 := (HKB5.out).lt
        go_wp2_with fail
        refine bodyPost_ret (results_row_2 Tryz.results202 _ _ w.heap.size #[.int .i64 0, .slice none 0 0, .int .i64 0, .int .i64 0, .int .i64 0] rfl (run_loadVar_row _ _ _ _ #[.int .i64 0, .slice none 0 0, .int .i64 0, .int .i64 0, .int .i64 0] (0, 0) _ (((((Blk.set_ HKB5.out 0 _).set_ 1 _).set_ 2 _).set_ 3 _).set_ 4 _) Tryz.underlying35 rfl info_cellK)) rfl ⟨?_, (((((Below.setCell HL5.out (p := ⟨w.heap.size, 0, none⟩) (Nat.le_refl _) _).setCell (p := ⟨w.heap.size, 1, none⟩) (Nat.le_refl _) _).setCell (p := ⟨w.heap.size, 2, none⟩) (Nat.le_refl _) _).setCell (p := ⟨w.heap.size, 3, none⟩) (Nat.le_refl _) _).setCell (p := ⟨w.heap.size, 4, none⟩) (Nat.le_refl _) _)⟩
        exact .inl ⟨HGG.out, _, _, rfl, by omega⟩
  · by_cases hk2 : k0 = 2
    · subst hk2
      obtain ⟨lo, hlo⟩ : ∃ lo, lo = numI (cutB bs 1 8) := ⟨_, rfl⟩
      obtain ⟨hi, hhi⟩ : ∃ hi, hi = numI (cutB bs 9 8) := ⟨_, rfl⟩
      obtain ⟨va, hva⟩ : ∃ va, va = numI (cutB bs 17 8) := ⟨_, rfl⟩
      have HG2 := HG.out
      rw [← hlo, ← hhi, ← hva] at HG2
      have HG := hide HG2
      have hz1c := HKC.out.lt
      have n1 := fun (W : World) (hb : Below w.heap.size w W) => HNUM.out 1 8 W (by omega) (by omega) (by omega) hb
      have n2 := fun (W : World) (hb : Below w.heap.size w W) => HNUM.out 9 8 W (by omega) (by omega) (by omega) hb
      have n3 := fun (W : World) (hb : Below w.heap.size w W) => HNUM.out 17 8 W (by omega) (by omega) (by omega) hb
      rw [← hlo] at n1
      rw [← hhi] at n2
      rw [← hva] at n3
      have HN1 := hide n1
      have HN2 := hide n2
      have HN3 := hide n3
      clear HG2 n1 n2 n3 hlo hhi hva
      have hw1 : w.heap.size ≤ W1.heap.size := hzz
      have y2 := HKC.out.cell 2
      have y3 := HKC.out.cell 3
      have y4 := HKC.out.cell 4
      have p2 := HKC.out.frozen 2
      have p3 := HKC.out.frozen 3
      have p4 := HKC.out.frozen 4
      go_upto_region 18 with (go_at_call 167; refine (HN1.out _ HL2.out).mono ?_; rintro e w' ⟨rfl, hw'⟩; obtain rfl := hw'.symm)
      go_upto_region 19 with (go_at_call 167; refine (HN2.out _ (HL2.out.setCell (p := ⟨W1.heap.size, 2, none⟩) hw1 _)).mono ?_; rintro e w' ⟨rfl, hw'⟩; obtain rfl := hw'.symm)
      go_upto_region 20 with (go_at_call 167; refine (HN3.out _ ((HL2.out.setCell (p := ⟨W1.heap.size, 2, none⟩) hw1 _).setCell (p := ⟨W1.heap.size, 3, none⟩) hw1 _)).mono ?_; rintro e w' ⟨rfl, hw'⟩; obtain rfl := hw'.symm)
      refine nameW (w := World.setCell _ _ _) (R := fun W => Code.wp _ _ _ _ W) (fun W4 hW4 => ?_)
      have kc4 : Blk W4 W1.heap.size 35 #[.int .i64 2, .slice none 0 0, .int .i64 lo, .int .i64 hi, .int .i64 va] := hW4 ▸ (((HKC.out.set_ 2 _).set_ 3 _).set_ 4 _)
      have kb4 : Blk W4 w.heap.size 35 #[.int .i64 0, .slice none 0 0, .int .i64 0, .int .i64 0, .int .i64 0] := hW4 ▸ (((HKB2.out.far (by simp; omega) _).far (by simp; omega) _).far (by simp; omega) _)
      have hl4 : Below w.heap.size w W4 := hW4 ▸ (((HL2.out.setCell (p := ⟨W1.heap.size, 2, none⟩) hw1 _).setCell (p := ⟨W1.heap.size, 3, none⟩) hw1 _).setCell (p := ⟨W1.heap.size, 4, none⟩) hw1 _)
      have ho4 : W4.ownsRow W2.heap.size 5 1 (.slice none 0 0) 0 (([] : List UInt8).map byteV) := World.ownsRow_nil _ _ _ _
      have hz24 : w.heap.size < W2.heap.size := by omega
      have HKC4 := hide kc4
      have HKB4 := hide kb4
      have HL4 := hide hl4
      have HO4 := hide ho4
      clear hW4 kc4 kb4 hl4 ho4 y2 y3 y4 p2 p3 p4
      have HCK := hide (cellCheck_any ⟨2, [], lo, hi, va⟩ none 0 0 W4 rfl)
      have z0 := HKC4.out.cell 0
      have z1 := HKC4.out.cell 1
      have z2 := HKC4.out.cell 2
      have z3 := HKC4.out.cell 3
      have z4 := HKC4.out.cell 4
      by_cases hok : lo ≤ va ∧ va ≤ hi
      · have HE := hide (show cellE ⟨2, [], lo, hi, va⟩ = 0 from by unfold cellE rightC; rw [if_pos (by simpa using hok)])
        have HGG := hide (show cellG bs = some ⟨2, [], lo, hi, va⟩ from by rw [HG.out, if_neg (by decide), if_pos (by trivial), if_pos hok])
        rw [HE.out] at HCK
        clear hok
        go_upto_region 22 with (go_at_call 240; refine HCK.out.mono ?_; rintro e W5 ⟨rfl, hb5⟩; have HB5 := hide hb5; clear hb5)
        have kc5 := Blk.via HB5.out HKC4.out
        have kb5 := Blk.via HB5.out HKB4.out
        have y0 := kc5.cell 0
        have y1 := kc5.cell 1
        have y2 := kc5.cell 2
        have y3 := kc5.cell 3
        have y4 := kc5.cell 4
        have HKB5 := hide kb5
        have hl5 : Below w.heap.size w W5 := HL4.out.trans (HB5.out.mono HL4.out.size)
        have HL5 := hide hl5
        clear kc5 kb5 hl5
        have c20 := (HKB5.out).cell 0
        have c21 := (HKB5.out).cell 1
        have c22 := (HKB5.out).cell 2
        have c23 := (HKB5.out).cell 3
        have c24 := (HKB5.out).cell 4
        have f20 := (HKB5.out).frozen 0
        have f21 := (HKB5.out).frozen 1
        have f22 := (HKB5.out).frozen 2
        have f23 := (HKB5.out).frozen 3
        have f24 := (HKB5.out).frozen 4
        have l20 := (HKB5.out).lt
        go_wp2_with fail
        refine bodyPost_ret (results_row_2 Tryz.results202 _ _ w.heap.size #[.int .i64 (⟨2, [], lo, hi, va⟩ : CellD).kind, .slice none 0 0, .int .i64 (⟨2, [], lo, hi, va⟩ : CellD).lo, .int .i64 (⟨2, [], lo, hi, va⟩ : CellD).hi, .int .i64 (⟨2, [], lo, hi, va⟩ : CellD).val] rfl (run_loadVar_row _ _ _ _ #[.int .i64 (⟨2, [], lo, hi, va⟩ : CellD).kind, .slice none 0 0, .int .i64 (⟨2, [], lo, hi, va⟩ : CellD).lo, .int .i64 (⟨2, [], lo, hi, va⟩ : CellD).hi, .int .i64 (⟨2, [], lo, hi, va⟩ : CellD).val] (0, 0) _ (((((Blk.set_ HKB5.out 0 _).set_ 1 _).set_ 2 _).set_ 3 _).set_ 4 _) Tryz.underlying35 rfl info_cellK)) rfl ⟨?_, (((((Below.setCell HL5.out (p := ⟨w.heap.size, 0, none⟩) (Nat.le_refl _) _).setCell (p := ⟨w.heap.size, 1, none⟩) (Nat.le_refl _) _).setCell (p := ⟨w.heap.size, 2, none⟩) (Nat.le_refl _) _).setCell (p := ⟨w.heap.size, 3, none⟩) (Nat.le_refl _) _).setCell (p := ⟨w.heap.size, 4, none⟩) (Nat.le_refl _) _)⟩
        refine .inr ⟨_, none, 0, 0, _, HGG.out, rfl, ?_⟩
        have ho5 := own_via HO4.out HB5.out
        have hne5 : ∀ q, (Value.slice none 0 0).ownBlock = some q → q ≠ w.heap.size := fun q hq => by have := (World.ownsRow.lt HO4.out q hq).1; omega
        exact BytesAt.of_own (own_far (p := ⟨w.heap.size, 4, none⟩) (own_far (p := ⟨w.heap.size, 3, none⟩) (own_far (p := ⟨w.heap.size, 2, none⟩) (own_far (p := ⟨w.heap.size, 1, none⟩) (own_far (p := ⟨w.heap.size, 0, none⟩) ho5 hne5 _) hne5 _) hne5 _) hne5 _) hne5 _)
      · have HE := hide (show cellE ⟨2, [], lo, hi, va⟩ = 1 from by unfold cellE rightC; rw [if_neg (by simpa using hok)])
        have HGG := hide (show cellG bs = none from by rw [HG.out, if_neg (by decide), if_pos (by trivial), if_neg hok])
        rw [HE.out] at HCK
        clear hok
        go_upto_region 21 with (go_at_call 240; refine HCK.out.mono ?_; rintro e W5 ⟨rfl, hb5⟩; have HB5 := hide hb5; clear hb5)
        have kb5 := Blk.via HB5.out HKB4.out
        have HKB5 := hide kb5
        have hl5 : Below w.heap.size w W5 := HL4.out.trans (HB5.out.mono HL4.out.size)
        have HL5 := hide hl5
        clear kb5 hl5
        have c20 := (HKB5.out).cell 0
        have c21 := (HKB5.out).cell 1
        have c22 := (HKB5.out).cell 2
        have c23 := (HKB5.out).cell 3
        have c24 := (HKB5.out).cell 4
        have f20 := (HKB5.out).frozen 0
        have f21 := (HKB5.out).frozen 1
        have f22 := (HKB5.out).frozen 2
        have f23 := (HKB5.out).frozen 3
        have f24 := (HKB5.out).frozen 4
        have l20 := (HKB5.out).lt
        go_wp2_with fail
        refine bodyPost_ret (results_row_2 Tryz.results202 _ _ w.heap.size #[.int .i64 0, .slice none 0 0, .int .i64 0, .int .i64 0, .int .i64 0] rfl (run_loadVar_row _ _ _ _ #[.int .i64 0, .slice none 0 0, .int .i64 0, .int .i64 0, .int .i64 0] (0, 0) _ (((((Blk.set_ HKB5.out 0 _).set_ 1 _).set_ 2 _).set_ 3 _).set_ 4 _) Tryz.underlying35 rfl info_cellK)) rfl ⟨?_, (((((Below.setCell HL5.out (p := ⟨w.heap.size, 0, none⟩) (Nat.le_refl _) _).setCell (p := ⟨w.heap.size, 1, none⟩) (Nat.le_refl _) _).setCell (p := ⟨w.heap.size, 2, none⟩) (Nat.le_refl _) _).setCell (p := ⟨w.heap.size, 3, none⟩) (Nat.le_refl _) _).setCell (p := ⟨w.heap.size, 4, none⟩) (Nat.le_refl _) _)⟩
        exact .inl ⟨HGG.out, _, _, rfl, by omega⟩
    · have b1 : (((k0 : Nat) : Int) == 1) = false := by rw [beq_eq_false_iff_ne]; omega
      have b2 : (((k0 : Nat) : Int) == 2) = false := by rw [beq_eq_false_iff_ne]; omega
      have HRC := hide (show rightC ⟨(k0 : Nat), [], 0, 0, 0⟩ = false by
        unfold rightC
        rw [if_neg (by simp; omega)]
        simp
        omega)
      have HNN := hide (show cellG bs = none by rw [HG.out, if_neg hk1, if_neg hk2])
      have HKC4 := HKC
      have HKB4 := HKB2
      have HL4 := HL2
      have HCK := hide (cellCheck_any ⟨(k0 : Nat), [], 0, 0, 0⟩ none 0 0 W2 rfl)
      clear hk1 hk2
      go_upto_region 20 with (fail)
      have z0 := HKC4.out.cell 0
      have z1 := HKC4.out.cell 1
      have z2 := HKC4.out.cell 2
      have z3 := HKC4.out.cell 3
      have z4 := HKC4.out.cell 4
      have HE := hide (show cellE ⟨(k0 : Nat), [], 0, 0, 0⟩ = 1 from by unfold cellE; rw [HRC.out]; rfl)
      have HGG := hide (show cellG bs = none from HNN.out)
      rw [HE.out] at HCK
      go_upto_region 21 with (go_at_call 240; refine HCK.out.mono ?_; rintro e W5 ⟨rfl, hb5⟩; have HB5 := hide hb5; clear hb5)
      have kb5 := Blk.via HB5.out HKB4.out
      have HKB5 := hide kb5
      have hl5 : Below w.heap.size w W5 := HL4.out.trans (HB5.out.mono HL4.out.size)
      have HL5 := hide hl5
      clear kb5 hl5
      have c20 := (HKB5.out).cell 0
      have c21 := (HKB5.out).cell 1
      have c22 := (HKB5.out).cell 2
      have c23 := (HKB5.out).cell 3
      have c24 := (HKB5.out).cell 4
      have f20 := (HKB5.out).frozen 0
      have f21 := (HKB5.out).frozen 1
      have f22 := (HKB5.out).frozen 2
      have f23 := (HKB5.out).frozen 3
      have f24 := (HKB5.out).frozen 4
      have l20 := (HKB5.out).lt
      go_wp2_with fail
      refine bodyPost_ret (results_row_2 Tryz.results202 _ _ w.heap.size #[.int .i64 0, .slice none 0 0, .int .i64 0, .int .i64 0, .int .i64 0] rfl (run_loadVar_row _ _ _ _ #[.int .i64 0, .slice none 0 0, .int .i64 0, .int .i64 0, .int .i64 0] (0, 0) _ (((((Blk.set_ HKB5.out 0 _).set_ 1 _).set_ 2 _).set_ 3 _).set_ 4 _) Tryz.underlying35 rfl info_cellK)) rfl ⟨?_, (((((Below.setCell HL5.out (p := ⟨w.heap.size, 0, none⟩) (Nat.le_refl _) _).setCell (p := ⟨w.heap.size, 1, none⟩) (Nat.le_refl _) _).setCell (p := ⟨w.heap.size, 2, none⟩) (Nat.le_refl _) _).setCell (p := ⟨w.heap.size, 3, none⟩) (Nat.le_refl _) _).setCell (p := ⟨w.heap.size, 4, none⟩) (Nat.le_refl _) _)⟩
      exact .inl ⟨HGG.out, _, _, rfl, by omega⟩
end Go.Proofs.YtnanlaefehaifaaGreat
namespace Go.Proofs.YtnanlaefehaifaaGreat
open Go.RowKit
theorem cellGetR_any (A : Option Addr) (n c : Nat) (bs : List UInt8) (B : Nat) (w : World) (hB : B ≤ w.heap.size) (hm : 46 ≤ n) (hm2 : n ≤ 64) (hnc : n ≤ c) (hcm : c ≤ maxLen) (hn : n = bs.length) (hr : Reads w B 1 A n (bs.map byteV)) :
    Calls Tryz.prog 194 #[.slice A n c] w (CellGP w (cellG bs)) := by
  have HNUM := hide (fun (at_ width : Nat) (W : World) (h1 : 1 ≤ width) (h8 : width ≤ 8) (hin : at_ + width ≤ n) (hb : Below w.heap.size w W) => atR_any A n c bs at_ width B W (by omega) hn (hr.below hb hB) h1 h8 hin)
  have HRD := hide (fun (W : World) (hb : Below w.heap.size w W) => hr.below hb hB)
  have HN := hide hn
  have HCM := hide hcm
  obtain ⟨b, o, rfl, hbB, _⟩ := hr.plain (by omega) (by omega)
  clear hr
  obtain ⟨x0, hx0⟩ : ∃ x, bs[0]? = some x := ⟨_, List.getElem?_eq_getElem (by omega)⟩
  obtain ⟨x1, hx1⟩ : ∃ x, bs[1]? = some x := ⟨_, List.getElem?_eq_getElem (by omega)⟩
  have H0 := hide (numI_one bs 0 x0 hx0)
  have H1 := hide (numI_one bs 1 x1 hx1)
  have HG := hide (show cellG bs = (if x0.toNat = 1 then (if x1.toNat ≤ 32 then some ⟨1, cutB bs 2 x1.toNat, 0, 0, 0⟩ else none)
    else if x0.toNat = 2 then (if numI (cutB bs 1 8) ≤ numI (cutB bs 17 8) ∧ numI (cutB bs 17 8) ≤ numI (cutB bs 9 8) then some ⟨2, [], numI (cutB bs 1 8), numI (cutB bs 9 8), numI (cutB bs 17 8)⟩ else none) else none) by
    unfold cellG
    rw [show bs.getD 0 0 = x0 by rw [List.getD_eq_getElem?_getD, hx0]; rfl, show bs.getD 1 0 = x1 by rw [List.getD_eq_getElem?_getD, hx1]; rfl])
  have hxl0 := x0.toNat_lt
  have hxl1 := x1.toNat_lt
  generalize x0.toNat = k0 at *
  generalize x1.toNat = k1 at *
  clear hn hx0 hx1 hcm
  go_enter Tryz.func194, Tryz.ntmps194
  go_upto_region 1 with (fail)
  refine gen1 (R := fun W => Code.wp _ _ _ _ W) (fun W1 kb hb1 hz1 => ?_)
  have HB1 := hide hb1
  have HKB := hide kb
  clear kb hb1
  have HC0 := hide (HNUM.out 0 1 W1 (by omega) (by omega) (by omega) HB1.out)
  rw [H0.out] at HC0
  have HC1 := hide (HNUM.out 1 1 W1 (by omega) (by omega) (by omega) HB1.out)
  rw [H1.out] at HC1
  have c20 := HKB.out.cell 0
  have c21 := HKB.out.cell 1
  have c22 := HKB.out.cell 2
  have c23 := HKB.out.cell 3
  have c24 := HKB.out.cell 4
  have f20 := HKB.out.frozen 0
  have f21 := HKB.out.frozen 1
  have f22 := HKB.out.frozen 2
  have f23 := HKB.out.frozen 3
  have f24 := HKB.out.frozen 4
  have l20 := HKB.out.lt
  go_upto_region 4 with (go_at_call 132; refine HC0.out.mono ?_; rintro e w' ⟨rfl, hw'⟩; obtain rfl := hw'.symm)
  by_cases hk2 : k0 = 2
  · subst hk2
    obtain ⟨lo, hlo⟩ : ∃ lo, lo = numI (cutB bs 1 8) := ⟨_, rfl⟩
    obtain ⟨hi, hhi⟩ : ∃ hi, hi = numI (cutB bs 9 8) := ⟨_, rfl⟩
    obtain ⟨va, hva⟩ : ∃ va, va = numI (cutB bs 17 8) := ⟨_, rfl⟩
    have HG2 := HG.out
    rw [← hlo, ← hhi, ← hva] at HG2
    have HG := hide HG2
    have n1 := HNUM.out 1 8 W1 (by omega) (by omega) (by omega) HB1.out
    have n2 := HNUM.out 9 8 W1 (by omega) (by omega) (by omega) HB1.out
    have n3 := HNUM.out 17 8 W1 (by omega) (by omega) (by omega) HB1.out
    rw [← hlo] at n1
    rw [← hhi] at n2
    rw [← hva] at n3
    have HN1 := hide n1
    have HN2 := hide n2
    have HN3 := hide n3
    clear HG2 n1 n2 n3 hlo hhi hva
    go_upto_region 6 with (go_at_call 132; refine HN1.out.mono ?_; rintro e w' ⟨rfl, hw'⟩; obtain rfl := hw'.symm)
    go_upto_region 7 with (go_at_call 132; refine HN2.out.mono ?_; rintro e w' ⟨rfl, hw'⟩; obtain rfl := hw'.symm)
    go_upto_region 8 with (go_at_call 132; refine HN3.out.mono ?_; rintro e w' ⟨rfl, hw'⟩; obtain rfl := hw'.symm)
    by_cases h1 : va < lo
    · have HNO := hide (show cellG bs = none by rw [HG.out, if_neg (by decide), if_pos (by trivial), if_neg (by omega)])
      go_wp2
      refine bodyPost_ret (results_row_2 Tryz.results194 _ _ w.heap.size #[.int .i64 0, .slice none 0 0, .int .i64 0, .int .i64 0, .int .i64 0] rfl (run_loadVar_row _ _ _ _ #[.int .i64 0, .slice none 0 0, .int .i64 0, .int .i64 0, .int .i64 0] (0, 0) _ (((((Blk.set_ HKB.out 0 _).set_ 1 _).set_ 2 _).set_ 3 _).set_ 4 _) Tryz.underlying35 rfl info_cellK)) rfl ⟨?_, (((((Below.setCell HB1.out (p := ⟨w.heap.size, 0, none⟩) (Nat.le_refl _) _).setCell (p := ⟨w.heap.size, 1, none⟩) (Nat.le_refl _) _).setCell (p := ⟨w.heap.size, 2, none⟩) (Nat.le_refl _) _).setCell (p := ⟨w.heap.size, 3, none⟩) (Nat.le_refl _) _).setCell (p := ⟨w.heap.size, 4, none⟩) (Nat.le_refl _) _)⟩
      exact .inl ⟨HNO.out, _, _, rfl, by omega⟩
    · by_cases h2 : hi < va
      · have HNO := hide (show cellG bs = none by rw [HG.out, if_neg (by decide), if_pos (by trivial), if_neg (by omega)])
        go_wp2
        refine bodyPost_ret (results_row_2 Tryz.results194 _ _ w.heap.size #[.int .i64 0, .slice none 0 0, .int .i64 0, .int .i64 0, .int .i64 0] rfl (run_loadVar_row _ _ _ _ #[.int .i64 0, .slice none 0 0, .int .i64 0, .int .i64 0, .int .i64 0] (0, 0) _ (((((Blk.set_ HKB.out 0 _).set_ 1 _).set_ 2 _).set_ 3 _).set_ 4 _) Tryz.underlying35 rfl info_cellK)) rfl ⟨?_, (((((Below.setCell HB1.out (p := ⟨w.heap.size, 0, none⟩) (Nat.le_refl _) _).setCell (p := ⟨w.heap.size, 1, none⟩) (Nat.le_refl _) _).setCell (p := ⟨w.heap.size, 2, none⟩) (Nat.le_refl _) _).setCell (p := ⟨w.heap.size, 3, none⟩) (Nat.le_refl _) _).setCell (p := ⟨w.heap.size, 4, none⟩) (Nat.le_refl _) _)⟩
        exact .inl ⟨HNO.out, _, _, rfl, by omega⟩
      · have HYES := hide (show cellG bs = some ⟨2, [], lo, hi, va⟩ by rw [HG.out, if_neg (by decide), if_pos (by trivial), if_pos (by omega)])
        go_wp2
        refine bodyPost_ret (results_row_2 Tryz.results194 _ _ w.heap.size #[.int .i64 2, .slice none 0 0, .int .i64 lo, .int .i64 hi, .int .i64 va] rfl (run_loadVar_row _ _ _ _ #[.int .i64 2, .slice none 0 0, .int .i64 lo, .int .i64 hi, .int .i64 va] (0, 0) _ (((((Blk.set_ HKB.out 0 _).set_ 1 _).set_ 2 _).set_ 3 _).set_ 4 _) Tryz.underlying35 rfl info_cellK)) rfl ⟨?_, (((((Below.setCell HB1.out (p := ⟨w.heap.size, 0, none⟩) (Nat.le_refl _) _).setCell (p := ⟨w.heap.size, 1, none⟩) (Nat.le_refl _) _).setCell (p := ⟨w.heap.size, 2, none⟩) (Nat.le_refl _) _).setCell (p := ⟨w.heap.size, 3, none⟩) (Nat.le_refl _) _).setCell (p := ⟨w.heap.size, 4, none⟩) (Nat.le_refl _) _)⟩
        exact .inr ⟨_, none, 0, 0, _, HYES.out, rfl, ⟨none, 0, 0, rfl, Nat.le_refl _, Nat.zero_le _, rfl, fun _ => rfl, Reads.none_⟩⟩
  · by_cases hk1 : k0 = 1
    · subst hk1
      go_upto_region 16 with (go_at_call 132; refine HC1.out.mono ?_; rintro e w' ⟨rfl, hw'⟩; obtain rfl := hw'.symm)
      by_cases h1 : (n : Int) - 2 < k1
      · have HNO := hide (show cellG bs = none by rw [HG.out, if_pos (by trivial), if_neg (by omega)])
        go_wp2
        refine bodyPost_ret (results_row_2 Tryz.results194 _ _ w.heap.size #[.int .i64 0, .slice none 0 0, .int .i64 0, .int .i64 0, .int .i64 0] rfl (run_loadVar_row _ _ _ _ #[.int .i64 0, .slice none 0 0, .int .i64 0, .int .i64 0, .int .i64 0] (0, 0) _ (((((Blk.set_ HKB.out 0 _).set_ 1 _).set_ 2 _).set_ 3 _).set_ 4 _) Tryz.underlying35 rfl info_cellK)) rfl ⟨?_, (((((Below.setCell HB1.out (p := ⟨w.heap.size, 0, none⟩) (Nat.le_refl _) _).setCell (p := ⟨w.heap.size, 1, none⟩) (Nat.le_refl _) _).setCell (p := ⟨w.heap.size, 2, none⟩) (Nat.le_refl _) _).setCell (p := ⟨w.heap.size, 3, none⟩) (Nat.le_refl _) _).setCell (p := ⟨w.heap.size, 4, none⟩) (Nat.le_refl _) _)⟩
        exact .inl ⟨HNO.out, _, _, rfl, by omega⟩
      · by_cases h2 : (32 : Int) < k1
        · have HNO := hide (show cellG bs = none by rw [HG.out, if_pos (by trivial), if_neg (by omega)])
          go_wp2
          refine bodyPost_ret (results_row_2 Tryz.results194 _ _ w.heap.size #[.int .i64 0, .slice none 0 0, .int .i64 0, .int .i64 0, .int .i64 0] rfl (run_loadVar_row _ _ _ _ #[.int .i64 0, .slice none 0 0, .int .i64 0, .int .i64 0, .int .i64 0] (0, 0) _ (((((Blk.set_ HKB.out 0 _).set_ 1 _).set_ 2 _).set_ 3 _).set_ 4 _) Tryz.underlying35 rfl info_cellK)) rfl ⟨?_, (((((Below.setCell HB1.out (p := ⟨w.heap.size, 0, none⟩) (Nat.le_refl _) _).setCell (p := ⟨w.heap.size, 1, none⟩) (Nat.le_refl _) _).setCell (p := ⟨w.heap.size, 2, none⟩) (Nat.le_refl _) _).setCell (p := ⟨w.heap.size, 3, none⟩) (Nat.le_refl _) _).setCell (p := ⟨w.heap.size, 4, none⟩) (Nat.le_refl _) _)⟩
          exact .inl ⟨HNO.out, _, _, rfl, by omega⟩
        · have HYES := hide (show cellG bs = some ⟨1, cutB bs 2 k1, 0, 0, 0⟩ by rw [HG.out, if_pos (by trivial), if_pos (by omega)])
          have g1 : (2 : Int) + k1 ≤ c := by omega
          have g2 : (2 : Int) ≤ 2 + k1 := by omega
          have g3 : ¬ (c = 2) := by omega
          have hcut : ((bs.map byteV).drop (2 * 1)).take (k1 * 1) = (cutB bs 2 k1).map byteV := by
            unfold cutB
            rw [Nat.mul_one, Nat.mul_one, List.map_take, List.map_drop]
          have hclen : (cutB bs 2 k1).length = k1 := by
            unfold cutB
            rw [List.length_take, List.length_drop, ← HN.out]
            omega
          have hrd : Reads W1 B 1 (some ⟨b, o + 2, none⟩) k1 ((cutB bs 2 k1).map byteV) := by
            have h := ((HRD.out W1 HB1.out).cut (k := 2) (cap := c) (by omega) hnc).take (k := k1) (by omega)
            rw [if_neg (by omega), Option.map_some, add_plain, hcut] at h
            exact h
          have HRDX := hide hrd
          have HCLEN := hide hclen
          clear hrd hcut hclen
          go_wp2
          refine bodyPost_ret (results_row_2 Tryz.results194 _ _ w.heap.size #[.int .i64 1, .slice (some ⟨b, o + 2, none⟩) k1 (c - 2), .int .i64 0, .int .i64 0, .int .i64 0] rfl (run_loadVar_row _ _ _ _ #[.int .i64 1, .slice (some ⟨b, o + 2, none⟩) k1 (c - 2), .int .i64 0, .int .i64 0, .int .i64 0] (0, 0) _ (((((Blk.set_ HKB.out 0 _).set_ 1 _).set_ 2 _).set_ 3 _).set_ 4 _) Tryz.underlying35 rfl info_cellK)) rfl ⟨?_, (((((Below.setCell HB1.out (p := ⟨w.heap.size, 0, none⟩) (Nat.le_refl _) _).setCell (p := ⟨w.heap.size, 1, none⟩) (Nat.le_refl _) _).setCell (p := ⟨w.heap.size, 2, none⟩) (Nat.le_refl _) _).setCell (p := ⟨w.heap.size, 3, none⟩) (Nat.le_refl _) _).setCell (p := ⟨w.heap.size, 4, none⟩) (Nat.le_refl _) _)⟩
          refine .inr ⟨⟨1, cutB bs 2 k1, 0, 0, 0⟩, some ⟨b, o + 2, none⟩, k1, c - 2, _, HYES.out, rfl, ⟨_, _, _, rfl, by omega, by have := HCM.out; omega, by rw [HCLEN.out], fun h => (by cases h), ?_⟩⟩
          have h5 := ((((HRDX.out.setCell (p := ⟨w.heap.size, 0, none⟩) hB (.int .i64 1)).setCell (p := ⟨w.heap.size, 1, none⟩) hB (.slice (some ⟨b, o + 2, none⟩) k1 (c - 2))).setCell (p := ⟨w.heap.size, 2, none⟩) hB (.int .i64 0)).setCell (p := ⟨w.heap.size, 3, none⟩) hB (.int .i64 0)).setCell (p := ⟨w.heap.size, 4, none⟩) hB (.int .i64 0)
          refine h5.more ?_
          have := HKB.out.lt
          simp [World.setCell]
          omega
    · have HNO := hide (show cellG bs = none by rw [HG.out, if_neg hk1, if_neg hk2])
      have b1 : (((k0 : Nat) : Int) == 2) = false := by rw [beq_eq_false_iff_ne]; omega
      have b2 : (((k0 : Nat) : Int) != 1) = true := by rw [bne_iff_ne]; omega
      clear hk1 hk2
      go_wp2
      refine bodyPost_ret (results_row_2 Tryz.results194 _ _ w.heap.size #[.int .i64 0, .slice none 0 0, .int .i64 0, .int .i64 0, .int .i64 0] rfl (run_loadVar_row _ _ _ _ #[.int .i64 0, .slice none 0 0, .int .i64 0, .int .i64 0, .int .i64 0] (0, 0) _ (((((Blk.set_ HKB.out 0 _).set_ 1 _).set_ 2 _).set_ 3 _).set_ 4 _) Tryz.underlying35 rfl info_cellK)) rfl ⟨?_, (((((Below.setCell HB1.out (p := ⟨w.heap.size, 0, none⟩) (Nat.le_refl _) _).setCell (p := ⟨w.heap.size, 1, none⟩) (Nat.le_refl _) _).setCell (p := ⟨w.heap.size, 2, none⟩) (Nat.le_refl _) _).setCell (p := ⟨w.heap.size, 3, none⟩) (Nat.le_refl _) _).setCell (p := ⟨w.heap.size, 4, none⟩) (Nat.le_refl _) _)⟩
      exact .inl ⟨HNO.out, _, _, rfl, by omega⟩
end Go.Proofs.YtnanlaefehaifaaGreat
namespace Go.Proofs.YtnanlaefehaifaaGreat
open Go.RowKit
section
variable (A : Option Addr) (n c : Nat) (bs : List UInt8) (B : Nat) (w : World) (hm : n ≤ 100000000) (hn : n = bs.length) (hr : Reads w B 1 A n (bs.map byteV))
include hm hn hr
theorem rNum_any (at_ width : Nat) (h1 : 1 ≤ width) (h8 : width ≤ 8) (hin : at_ + width ≤ n) :
    Calls Tryz.prog 99 #[.slice A n c, .int .i64 (at_ : Nat), .int .i64 (width : Nat)] w fun e w' => e = .returned (.int .i64 (numI (cutB bs at_ width))) ∧ w' = w := by
  have HN := hide (atR_any A n c bs at_ width B w hm hn hr h1 h8 hin)
  generalize numI (cutB bs at_ width) = v at *
  clear hr hn
  go_enter Tryz.func99, Tryz.ntmps99
  go_wp2_with (go_at_call 132; refine HN.out.mono ?_; rintro e w' ⟨rfl, hw'⟩; obtain rfl := hw'.symm)
  go_ret
  exact ⟨rfl, rfl⟩
theorem rNo_any (h512 : n = 512) : Calls Tryz.prog 68 #[.slice A n c] w fun e w' => e = .returned (.int .i64 (numI (cutB bs 12 2))) ∧ w' = w := by
  have HN := hide (rNum_any A n c bs B w hm hn hr 12 2 (by omega) (by omega) (by omega))
  generalize numI (cutB bs 12 2) = v at *
  clear hr hn h512
  go_enter Tryz.func68, Tryz.ntmps68
  go_wp2_with (go_at_call 99; refine HN.out.mono ?_; rintro e w' ⟨rfl, hw'⟩; obtain rfl := hw'.symm)
  go_ret
  exact ⟨rfl, rfl⟩
theorem rNext_any (h512 : n = 512) : Calls Tryz.prog 100 #[.slice A n c] w fun e w' => e = .returned (.int .i64 (numI (cutB bs 14 2))) ∧ w' = w := by
  have HN := hide (rNum_any A n c bs B w hm hn hr 14 2 (by omega) (by omega) (by omega))
  generalize numI (cutB bs 14 2) = v at *
  clear hr hn h512
  go_enter Tryz.func100, Tryz.ntmps100
  go_wp2_with (go_at_call 99; refine HN.out.mono ?_; rintro e w' ⟨rfl, hw'⟩; obtain rfl := hw'.symm)
  go_ret
  exact ⟨rfl, rfl⟩
theorem rGood_any (hnc : n ≤ c) (h512 : n = 512) : Calls Tryz.prog 67 #[.slice A n c] w fun e w' => e = .returned (.bool (numI (cutB bs 0 4) == ((moreR 0 (bs.drop 4) : Nat) : Int))) ∧ w' = w := by
  have HN := hide (atR_any A n c bs 0 4 B w hm hn hr (by omega) (by omega) (by omega))
  have hlt : moreR 0 (bs.drop 4) < 4294967296 := by unfold moreR; omega
  obtain ⟨b, o, rfl, hbB, _⟩ := hr.plain (by omega) (by omega)
  have hcut := hr.cut (k := 4) (cap := c) (by omega) hnc
  rw [if_neg (by omega), Option.map_some, add_plain] at hcut
  have HM := hide (moreR_any 0 (some ⟨b, o + 4, none⟩) (n - 4) (c - 4) (bs.drop 4) B w (by omega) (by omega) (by rw [List.length_drop, hn]) (by rw [List.map_drop]; simpa using hcut))
  generalize numI (cutB bs 0 4) = u at *
  generalize moreR 0 (bs.drop 4) = v at *
  subst h512
  have g1 : (4 : Int) ≤ c := by omega
  have g3 : ¬ (c = 4) := by omega
  clear hr hn hcut
  go_enter Tryz.func67, Tryz.ntmps67
  go_wp2_with (first
    | (go_at_call 132; refine HN.out.mono ?_; rintro e w' ⟨rfl, hw'⟩; obtain rfl := hw'.symm)
    | (go_at_call 131; refine HM.out.mono ?_; rintro e w' ⟨rfl, hw'⟩; obtain rfl := hw'.symm))
  go_ret
  exact ⟨rfl, rfl⟩
end
theorem zeros_any (m : Nat) (hm : m ≤ 1000000) (w : World) : Calls Tryz.prog 70 #[.int .i64 (m : Nat)] w fun e w' => (∃ A c, e = .returned (.slice A m c) ∧ OwnB w' w.heap.size (.slice A m c) (List.replicate m 0)) ∧ Below w.heap.size w w' := by
  obtain ⟨i0, hi, hz0, hz1, hz2⟩ := info_parts info_u8R
  go_enter Tryz.func70, Tryz.ntmps70
  go_wp2
  go_loopw [3, 4] (fun v iv wr => ∃ k : Nat, k ≤ m ∧ iv = .int .i64 k ∧ Hid (OwnB wr w.heap.size v (List.replicate k 0)) ∧ Below w.heap.size w wr) (fun _ iv _ => m - (intOf iv).toNat)
  case atStart => exact ⟨0, Nat.zero_le _, rfl, hide (OwnB.nil _ _), Below.refl _ _⟩
  case round =>
    obtain ⟨k, hk, rfl, hO, hb⟩ := hrel
    have hown := hO.out
    unfold OwnB at hown
    rw [List.length_replicate] at hown
    obtain ⟨A1, c1, rfl, _⟩ := own_slice hown
    have hz := hb.size
    by_cases hlt : (k : Int) < m
    · have HO := hide hown
      clear hown
      go_wp2_with (at_builtin; refine heldG ?_)
      refine unheldG ?_
      at_builtin
      refine wpList_append_any _ rfl _ _ _ rfl w.heap.size 5 i0 _ 1 1 Tryz.underlying33 hi hz0 hz1 hz2 rfl (by omega) (.slice A1 k c1) k _ rfl (HO.out.alloc _) (wr.heap.size + 1) (some ⟨wr.heap.size, 0, none⟩) 1 1 [.int .u8 0] rfl (Reads.of_blk (n := 1) (size := 1) (Blk.new _ _ _) rfl) (fun u hu => by rw [List.mem_singleton] at hu; subst hu; rfl) (by unfold maxLen; omega) (by omega) (by simp; omega) ?_
      intro v' w4 hown4 hg4 _
      have hb4 := (hb.alloc hz (.cells #[.int .u8 0] 5)).grown hg4 (by simp; omega) (fun q hq => (World.ownsRow.lt HO.out q hq).1)
      have HN := hide (show OwnB w4 w.heap.size v' (List.replicate (k + 1) 0) by
        unfold OwnB
        rw [List.length_replicate, List.replicate_succ', List.map_append]
        exact hown4)
      have HB4 := hide hb4
      clear hown4 hg4 hb4
      go_wp2
      go_roundw
      case rel => exact ⟨k + 1, by omega, by go_num, HN, HB4.out⟩
      case measure => simp [intOf]; omega
    · obtain rfl : k = m := by omega
      go_wp2
      go_ret
      exact ⟨⟨A1, c1, rfl, hO.out⟩, hb⟩
end Go.Proofs.YtnanlaefehaifaaGreat
namespace Go.Proofs.YtnanlaefehaifaaGreat
open Go.RowKit
theorem beB_succ (k : Nat) (n : Int) : beB (k + 1) n = byteS n (8 * k) :: beB k n := by
  unfold beB
  rw [List.range_succ_eq_map, List.map_cons, List.map_map]
  congr 1
  apply List.map_congr_left
  intro i hi
  have := List.mem_range.1 hi
  show byteS n (8 * (k + 1 - 1 - (i + 1))) = byteS n (8 * (k - 1 - i))
  congr 1
  omega
theorem byteS_val (n : Int) (k U : Nat) (hU : IntKind.u64.wrap n = (U : Nat)) : byteV (byteS n (8 * k)) = .int .u8 ((U / 256 ^ k % 256 : Nat) : Int) := by
  unfold byteV
  rw [byteS_int, hU]
  have h1 : ((2 : Int) ^ (8 * k)) = ((256 ^ k : Nat) : Int) := by
    rw [show (256 : Nat) ^ k = 2 ^ (8 * k) by rw [Nat.pow_mul], Int.natCast_pow]
    rfl
  rw [h1, ← Int.natCast_ediv]
  rfl
theorem bytesR_any (width : Nat) (n : Int) (hw : width ≤ 8) (w : World) : Calls Tryz.prog 61 #[.int .i64 (width : Nat), .int .i64 n] w fun e w' => (∃ A c, e = .returned (.slice A width c) ∧ OwnB w' w.heap.size (.slice A width c) (beB width n)) ∧ Below w.heap.size w w' := by
  obtain ⟨i0, hi, hz0, hz1, hz2⟩ := info_parts info_u8R
  obtain ⟨U, hU⟩ : ∃ U : Nat, IntKind.u64.wrap n = (U : Nat) := ⟨(IntKind.u64.wrap n).toNat, by rw [IntKind.wrap_u64]; omega⟩
  have hU2 : n % 18446744073709551616 = (U : Nat) := by rw [← hU, IntKind.wrap_u64]
  have hUl : U < 18446744073709551616 := by omega
  have HU := hide hU
  have h8 : (width : Int) ≤ 8 := by omega
  clear hU
  go_enter Tryz.func61, Tryz.ntmps61
  go_wp2
  go_loopw [5, 6, 7] (fun uv v iv wr => ∃ k : Nat, k ≤ width ∧ iv = .int .i64 k ∧ uv = .int .u64 ((U / 256 ^ k : Nat) : Int) ∧ Hid (OwnB wr w.heap.size v (beB k n)) ∧ Below w.heap.size w wr) (fun _ _ iv _ => width - (intOf iv).toNat)
  case atStart => exact ⟨0, Nat.zero_le _, rfl, by rw [HU.out]; simp, hide (OwnB.nil _ _), Below.refl _ _⟩
  case round =>
    obtain ⟨k, hk, rfl, rfl, hO, hb⟩ := hrel
    have hown := hO.out
    unfold OwnB at hown
    rw [beB_length] at hown
    obtain ⟨A1, c1, rfl, _⟩ := own_slice hown
    have hz := hb.size
    by_cases hlt : (k : Int) < width
    · have HV := hide (byteS_val n k U HU.out)
      have HD := hide (show U / 256 ^ (k + 1) = U / 256 ^ k / 256 by rw [Nat.pow_succ, Nat.div_div_eq_div_mul])
      have hy : U / 256 ^ k < 18446744073709551616 := Nat.lt_of_le_of_lt (Nat.div_le_self _ _) hUl
      generalize U / 256 ^ k = y at *
      have HO := hide hown
      clear hown
      go_wp2_with (at_builtin; refine heldG ?_)
      refine unheldG ?_
      at_builtin
      have hrow : (wr.alloc (.cells #[.int .u8 ((y : Int) % 256)] 5)).ownsRow w.heap.size 5 1 (.slice (some ⟨wr.heap.size, 0, none⟩) 1 1) 1 [.int .u8 ((y : Int) % 256)] := own_new (cur := [.int .u8 ((y : Int) % 256)]) (Blk.new _ _ _) hz rfl (Nat.le_refl _) (by unfold maxLen; omega) rfl rfl
      refine wpList_append_any _ rfl _ _ _ rfl w.heap.size 5 i0 _ 1 1 Tryz.underlying33 hi hz0 hz1 hz2 rfl (by omega) (.slice (some ⟨wr.heap.size, 0, none⟩) 1 1) 1 _ rfl hrow wr.heap.size A1 k c1 ((beB k n).map byteV) rfl ((Reads.of_own HO.out).alloc (Nat.le_refl _) _) (bytes_one _) (by unfold maxLen; omega) (by omega) (by simp; omega) ?_
      intro v' w4 hown4 hg4 _
      have hb4 := (hb.alloc hz (.cells #[.int .u8 ((y : Int) % 256)] 5)).grown hg4 (by simp; omega) (fun q hq => by cases hq; exact hz)
      have HN := hide (show OwnB w4 w.heap.size v' (beB (k + 1) n) by
        unfold OwnB
        rw [beB_length, beB_succ, List.map_cons, HV.out]
        rw [show 1 + k = k + 1 by omega] at hown4
        exact hown4)
      have HB4 := hide hb4
      clear hown4 hg4 hb4 hrow
      go_wp2
      go_roundw
      case rel => exact ⟨k + 1, by omega, by go_num, by rw [HD.out]; rfl, HN, HB4.out⟩
      case measure => simp [intOf]; omega
    · obtain rfl : k = width := by omega
      go_wp2
      go_ret
      exact ⟨⟨A1, c1, rfl, hO.out⟩, hb⟩
end Go.Proofs.YtnanlaefehaifaaGreat
namespace Go.Proofs.YtnanlaefehaifaaGreat
open Go.RowKit
noncomputable def pagesZ (n : Nat) : Array Value := madeCells (Value.agg Tryz.zeroCells63).cells (n * 512)
theorem devNewN_any (n : Nat) (h1 : 1 ≤ n) (h2 : n ≤ 1024) (w : World) : Calls Tryz.prog 8 #[.int .i64 (n : Nat)] w fun e w' => ∃ d g m, e = .returned (.pointer (some ⟨d, 0, none⟩)) ∧ Blk w' d 107 (devC (.slice (some ⟨g, 0, none⟩) n n) (.map (some m)) (.slice none 0 0) 0 0 0 0 0) ∧ Blk w' g 63 (pagesZ n) ∧ MapF w' m 0 (fun _ => none) ∧ w.heap.size ≤ d ∧ w.heap.size ≤ g ∧ w.heap.size ≤ m ∧ Below w.heap.size w w' := by
  obtain ⟨i0, hi, hz0, hz1, hz2⟩ := info_parts info_page
  have hmk0 := fun W => run_make_rowN (P := Tryz.prog) 104 63 i0 (.agg Tryz.zeroCells63) Tryz.underlying104 hi hz0 .i64 .i64 n n (Nat.le_refl _) (by rw [hz2]; omega) (by omega) W
  rw [hz1] at hmk0
  obtain ⟨X, hX⟩ : ∃ X, X = pagesZ n := ⟨_, rfl⟩
  unfold pagesZ at hX ⊢
  rw [← hX] at hmk0 ⊢
  have hmk : ∀ W : World, (Instr.makeSlice 104 (.int .i64 (n : Nat)) (.int .i64 (n : Nat))).run Tryz.prog W = .ok (.slice (some ⟨W.heap.size, 0, none⟩) n n) (W.alloc (.cells X 63)) := hmk0
  clear hX hmk0 hi hz0 hz1 hz2
  have hmm := @run_makeMap Tryz.prog
  have a1 : max (n : Int) 1 = n := by omega
  have a2 : min (n : Int) 1024 = n := by omega
  go_enter Tryz.func8, Tryz.ntmps8
  go_wp2
  go_ret
  have hs : ((w.alloc (.cells X 63)).alloc (.map #[] 0)).heap.size = w.heap.size + 1 + 1 := by simp
  have kn := Blk.new ((w.alloc (.cells X 63)).alloc (.map #[] 0)) 107 (devC (.slice (some ⟨w.heap.size, 0, none⟩) n n) (.map (some (w.heap.size + 1))) (.slice none 0 0) 0 0 0 0 0)
  rw [hs] at kn
  have hmf := MapF.start (w.alloc (.cells X 63))
  have hsz1 : (w.alloc (.cells X 63)).heap.size = w.heap.size + 1 := by simp
  rw [hsz1] at hmf
  exact ⟨_, _, _, rfl, kn, ((Blk.new w _ _).alloc _).alloc _, hmf.kept (Below.heap_alloc _ _ _ (by simp)), by omega, by omega, by omega, (below2 w _ _).alloc (by simp; omega) _⟩
end Go.Proofs.YtnanlaefehaifaaGreat
namespace Go.Proofs.YtnanlaefehaifaaGreat
open Go.RowKit
structure ConfD where
  b : Int
  p : Int
  f : Int
  c : Int
  l : Int
def confV (x : ConfD) : Value := .agg #[.int .i64 x.b, .int .i64 x.p, .int .i64 x.f, .int .i64 x.c, .int .i64 x.l]
def confOk (x : ConfD) : Bool := decide (1 ≤ x.b ∧ x.b ≤ 16 ∧ x.b < x.p ∧ x.p ≤ 1024 ∧ 4 ≤ x.f ∧ x.f ≤ 64 ∧ 1 ≤ x.c ∧ x.c ≤ 16 ∧ 4 ≤ x.l ∧ x.l ≤ 1024)
def confE (x : ConfD) : Int := if confOk x = true then 0 else 1
def withinB (n a b : Int) : Bool := decide (a ≤ n ∧ n ≤ b)
theorem metaWithin_any (n a b : Int) (w : World) : Calls Tryz.prog 139 #[.int .i64 n, .int .i64 a, .int .i64 b] w fun e w' => e = .returned (.bool (withinB n a b)) ∧ w' = w := by
  by_cases h1 : a ≤ n
  · by_cases h2 : n ≤ b
    · have HD := hide (show withinB n a b = true by simp [withinB]; omega)
      go_enter Tryz.func139, Tryz.ntmps139
      go_wp2
      go_ret
      exact ⟨ret_bool HD.out.symm, rfl⟩
    · have HD := hide (show withinB n a b = false by simp [withinB]; omega)
      go_enter Tryz.func139, Tryz.ntmps139
      go_wp2
      go_ret
      exact ⟨ret_bool HD.out.symm, rfl⟩
  · have HD := hide (show withinB n a b = false by simp [withinB]; omega)
    go_enter Tryz.func139, Tryz.ntmps139
    go_wp2
    go_ret
    exact ⟨ret_bool HD.out.symm, rfl⟩
theorem rightConf_any (x : ConfD) (w : World) : Calls Tryz.prog 18 #[confV x] w fun e w' => e = .returned (.bool (confOk x)) ∧ Below w.heap.size w w' := by
  obtain ⟨b, p, f, c, l⟩ := x
  unfold confV
  dsimp only
  go_enter Tryz.func18, Tryz.ntmps18
  by_cases h1 : b < 1
  · have HD := hide (show confOk ⟨b, p, f, c, l⟩ = false by simp [confOk]; omega)
    go_wp2
    go_ret
    exact ⟨ret_bool HD.out.symm, (Below.refl _ _).alloc (Nat.le_refl _) _⟩
  by_cases h2 : 16 < b
  · have HD := hide (show confOk ⟨b, p, f, c, l⟩ = false by simp [confOk]; omega)
    go_wp2
    go_ret
    exact ⟨ret_bool HD.out.symm, (Below.refl _ _).alloc (Nat.le_refl _) _⟩
  by_cases h3 : p ≤ b
  · have HD := hide (show confOk ⟨b, p, f, c, l⟩ = false by simp [confOk]; omega)
    go_wp2
    go_ret
    exact ⟨ret_bool HD.out.symm, (Below.refl _ _).alloc (Nat.le_refl _) _⟩
  by_cases h4 : 1024 < p
  · have HD := hide (show confOk ⟨b, p, f, c, l⟩ = false by simp [confOk]; omega)
    go_wp2
    go_ret
    exact ⟨ret_bool HD.out.symm, (Below.refl _ _).alloc (Nat.le_refl _) _⟩
  by_cases h5 : 4 ≤ f
  rotate_left
  · have HD := hide (show confOk ⟨b, p, f, c, l⟩ = false by simp [confOk]; omega)
    go_wp2
    go_ret
    exact ⟨ret_bool HD.out.symm, (Below.refl _ _).alloc (Nat.le_refl _) _⟩
  by_cases h6 : f ≤ 64
  rotate_left
  · have HD := hide (show confOk ⟨b, p, f, c, l⟩ = false by simp [confOk]; omega)
    go_wp2
    go_ret
    exact ⟨ret_bool HD.out.symm, (Below.refl _ _).alloc (Nat.le_refl _) _⟩
  by_cases h7 : 1 ≤ c
  rotate_left
  · have HD := hide (show confOk ⟨b, p, f, c, l⟩ = false by simp [confOk]; omega)
    go_wp2
    go_ret
    exact ⟨ret_bool HD.out.symm, (Below.refl _ _).alloc (Nat.le_refl _) _⟩
  by_cases h8 : c ≤ 16
  rotate_left
  · have HD := hide (show confOk ⟨b, p, f, c, l⟩ = false by simp [confOk]; omega)
    go_wp2
    go_ret
    exact ⟨ret_bool HD.out.symm, (Below.refl _ _).alloc (Nat.le_refl _) _⟩
  by_cases h9 : 4 ≤ l
  rotate_left
  · have HD := hide (show confOk ⟨b, p, f, c, l⟩ = false by simp [confOk]; omega)
    go_wp2
    go_ret
    exact ⟨ret_bool HD.out.symm, (Below.refl _ _).alloc (Nat.le_refl _) _⟩
  by_cases h10 : l ≤ 1024
  rotate_left
  · have HD := hide (show confOk ⟨b, p, f, c, l⟩ = false by simp [confOk]; omega)
    go_wp2
    go_ret
    exact ⟨ret_bool HD.out.symm, (Below.refl _ _).alloc (Nat.le_refl _) _⟩
  have HD := hide (show confOk ⟨b, p, f, c, l⟩ = true by simp [confOk]; omega)
  go_wp2
  go_ret
  exact ⟨ret_bool HD.out.symm, (Below.refl _ _).alloc (Nat.le_refl _) _⟩
theorem metaCheck_any (x : ConfD) (w : World) : Calls Tryz.prog 138 #[confV x] w fun e w' => e = .returned (.int .i64 (confE x)) ∧ Below w.heap.size w w' := by
  obtain ⟨b, p, f, c, l⟩ := x
  unfold confV
  dsimp only
  have HW := hide (fun n a b W => metaWithin_any n a b W)
  go_enter Tryz.func138, Tryz.ntmps138
  cases h1 : withinB b 1 16
  · have HD := hide (show confE ⟨b, p, f, c, l⟩ = 1 by rw [confE, if_neg]; simp [confOk]; simp [withinB] at *; omega)
    go_wp2_with (go_at_call 139; refine (HW.out _ _ _ _).mono ?_; rintro e w' ⟨rfl, hw'⟩; obtain rfl := hw'.symm)
    go_ret
    exact ⟨by rw [HD.out]; rfl, (Below.refl _ _).alloc (Nat.le_refl _) _⟩
  have hb : 1 ≤ b ∧ b ≤ 16 := by simpa [withinB] using h1
  obtain ⟨hb1, hb2⟩ := hb
  cases h2 : withinB p (b + 1) 1024
  · have HD := hide (show confE ⟨b, p, f, c, l⟩ = 1 by rw [confE, if_neg]; simp [confOk]; simp [withinB] at *; omega)
    go_wp2_with (go_at_call 139; refine (HW.out _ _ _ _).mono ?_; rintro e w' ⟨rfl, hw'⟩; obtain rfl := hw'.symm)
    go_ret
    exact ⟨by rw [HD.out]; rfl, (Below.refl _ _).alloc (Nat.le_refl _) _⟩
  cases h3 : withinB f 4 64
  · have HD := hide (show confE ⟨b, p, f, c, l⟩ = 1 by rw [confE, if_neg]; simp [confOk]; simp [withinB] at *; omega)
    go_wp2_with (go_at_call 139; refine (HW.out _ _ _ _).mono ?_; rintro e w' ⟨rfl, hw'⟩; obtain rfl := hw'.symm)
    go_ret
    exact ⟨by rw [HD.out]; rfl, (Below.refl _ _).alloc (Nat.le_refl _) _⟩
  cases h4 : withinB c 1 16
  · have HD := hide (show confE ⟨b, p, f, c, l⟩ = 1 by rw [confE, if_neg]; simp [confOk]; simp [withinB] at *; omega)
    go_wp2_with (go_at_call 139; refine (HW.out _ _ _ _).mono ?_; rintro e w' ⟨rfl, hw'⟩; obtain rfl := hw'.symm)
    go_ret
    exact ⟨by rw [HD.out]; rfl, (Below.refl _ _).alloc (Nat.le_refl _) _⟩
  cases h5 : withinB l 4 1024
  · have HD := hide (show confE ⟨b, p, f, c, l⟩ = 1 by rw [confE, if_neg]; simp [confOk]; simp [withinB] at *; omega)
    go_wp2_with (go_at_call 139; refine (HW.out _ _ _ _).mono ?_; rintro e w' ⟨rfl, hw'⟩; obtain rfl := hw'.symm)
    go_ret
    exact ⟨by rw [HD.out]; rfl, (Below.refl _ _).alloc (Nat.le_refl _) _⟩
  have HD := hide (show confE ⟨b, p, f, c, l⟩ = 0 by rw [confE, if_pos]; simp [confOk]; simp [withinB] at *; omega)
  go_wp2_with (go_at_call 139; refine (HW.out _ _ _ _).mono ?_; rintro e w' ⟨rfl, hw'⟩; obtain rfl := hw'.symm)
  go_ret
  exact ⟨by rw [HD.out]; rfl, (Below.refl _ _).alloc (Nat.le_refl _) _⟩
theorem devPages_any (d : Nat) (A : Option Addr) (n c : Nat) (mv lv : Value) (stale head sure fuse o : Int) (w : World) (k : Blk w d 107 (devC (.slice A n c) mv lv stale head sure fuse o)) :
    Calls Tryz.prog 75 #[.pointer (some ⟨d, 0, none⟩)] w fun e w' => e = .returned (.int .i64 (n : Nat)) ∧ w' = w := by
  have c0 : w.cell? ⟨d, 0, none⟩ = some (.slice A n c) := k.cell 0
  have ld := k.lt
  clear k
  go_enter Tryz.func75, Tryz.ntmps75
  go_wp2
  go_ret
  exact ⟨rfl, rfl⟩
end Go.Proofs.YtnanlaefehaifaaGreat
namespace Go.Proofs.YtnanlaefehaifaaGreat
open Go.RowKit
def NewP (w : World) (e : Ending) (w' : World) : Prop := (∃ p, e = .returned (.pointer (some ⟨p, 0, none⟩)) ∧ w.heap.size ≤ p) ∧ Below w.heap.size w w'
theorem locksNew_any (w : World) : Calls Tryz.prog 77 #[] w (NewP w) := by
  have hmm := @run_makeMap Tryz.prog
  have hb0 : Below w.heap.size w w := Below.refl _ _
  have hb1 := hb0.alloc hb0.size (.map #[] 0)
  have hb2 := hb1.alloc hb1.size (.map #[] 0)
  have hb3 := hb2.alloc hb2.size (.map #[] 0)
  have hb4 := hb3.alloc hb3.size (.map #[] 0)
  go_enter Tryz.func77, Tryz.ntmps77
  go_wp2
  go_ret
  exact ⟨⟨_, rfl, by first | exact hb4.size | (have := hb4.size; simp at *; omega)⟩, hb4.alloc hb4.size _⟩
theorem latchNew_any (w : World) : Calls Tryz.prog 78 #[] w (NewP w) := by
  have hmm := @run_makeMap Tryz.prog
  have hb0 : Below w.heap.size w w := Below.refl _ _
  have hb1 := hb0.alloc hb0.size (.map #[] 0)
  have hb2 := hb1.alloc hb1.size (.map #[] 0)
  go_enter Tryz.func78, Tryz.ntmps78
  go_wp2
  go_ret
  exact ⟨⟨_, rfl, by first | exact hb2.size | (have := hb2.size; simp at *; omega)⟩, hb2.alloc hb2.size _⟩
theorem escrowNew_any (w : World) : Calls Tryz.prog 79 #[] w (NewP w) := by
  have hmm := @run_makeMap Tryz.prog
  have hb0 : Below w.heap.size w w := Below.refl _ _
  have hb1 := hb0.alloc hb0.size (.map #[] 0)
  have hb2 := hb1.alloc hb1.size (.map #[] 0)
  go_enter Tryz.func79, Tryz.ntmps79
  go_wp2
  go_ret
  exact ⟨⟨_, rfl, by first | exact hb2.size | (have := hb2.size; simp at *; omega)⟩, hb2.alloc hb2.size _⟩
theorem txnsNew_any (n : Int) (h1 : 1 ≤ n) (h2 : n ≤ 281474976710656) (w : World) : Calls Tryz.prog 80 #[.int .i64 n] w fun e w' => ∃ p m, e = .returned (.pointer (some ⟨p, 0, none⟩)) ∧ Blk w' p 226 #[.int .i64 n, .map (some m)] ∧ w.heap.size ≤ p ∧ Below w.heap.size w w' := by
  have hmm := @run_makeMap Tryz.prog
  have a1 : max n 1 = n := by omega
  have a2 : min n 281474976710656 = n := by omega
  have hb0 : Below w.heap.size w w := Below.refl _ _
  have hb1 := hb0.alloc hb0.size (.map #[] 0)
  go_enter Tryz.func80, Tryz.ntmps80
  go_wp2
  go_ret
  have hs : (w.alloc (.map #[] 0)).heap.size = w.heap.size + 1 := by simp
  have kn := Blk.new (w.alloc (.map #[] 0)) 226 #[.int .i64 n, .map (some w.heap.size)]
  rw [hs] at kn
  exact ⟨_, _, rfl, kn, by omega, hb1.alloc hb1.size _⟩
end Go.Proofs.YtnanlaefehaifaaGreat
namespace Go.Proofs.YtnanlaefehaifaaGreat
open Go.RowKit
structure ItemD where
  st : Int
  key : ByteArray
  cell : CellD
def item0 : ItemD := ⟨0, ⟨#[]⟩, ⟨0, [], 0, 0, 0⟩⟩
def slotS (bs : List UInt8) : Nat := (bs.getD 0 0).toNat
def slotN (bs : List UInt8) : Nat := (bs.getD 1 0).toNat
def slotK (bs : List UInt8) : ByteArray := ⟨(cutB bs 2 (slotN bs)).toArray⟩
def slotOk (bs : List UInt8) (d : CellD) : Prop := rightI (slotS bs) (slotK bs) d = true ∧ pad64 (itemB (slotS bs) (slotK bs) d) = bs
instance (bs : List UInt8) (d : CellD) : Decidable (slotOk bs d) := inferInstanceAs (Decidable (_ ∧ _))
def slotD (bs : List UInt8) : Option CellD → Option ItemD
  | none => none
  | some d => if slotOk bs d then some ⟨slotS bs, slotK bs, d⟩ else none
def slotG (bs : List UInt8) : Option ItemD :=
  if bs = List.replicate 64 0 then some item0 else if 16 < slotN bs then none else slotD bs (cellG (bs.drop (2 + slotN bs)))
theorem cellG_kind {bs : List UInt8} {d : CellD} (h : cellG bs = some d) : d.kind = 1 ∨ d.kind = 2 := by
  unfold cellG at h
  split at h
  · split at h
    · injection h with h; subst h; exact .inl rfl
    · cases h
  · split at h
    · split at h
      · injection h with h; subst h; exact .inr rfl
      · cases h
    · cases h
theorem slotG_zero {bs : List UInt8} (h0 : slotS bs = 0) (hne : bs ≠ List.replicate 64 0) : slotG bs = none := by
  unfold slotG
  rw [if_neg hne]
  split
  · rfl
  · cases hc : cellG (bs.drop (2 + slotN bs)) with
    | none => rfl
    | some d =>
      show (if slotOk bs d then _ else none) = none
      rw [if_neg]
      rintro ⟨h, _⟩
      rw [h0] at h
      have hk := cellG_kind hc
      unfold rightI itemZ cellEq cell0 at h
      simp at h
      omega
def slotB (bs : List UInt8) (i : Nat) : List UInt8 := cutB bs (32 + 64 * i) 64
theorem slotB_length {bs : List UInt8} (hl : bs.length = 512) {i : Nat} (hi : i < 7) : (slotB bs i).length = 64 := by
  unfold slotB cutB
  rw [List.length_take, List.length_drop]
  omega
def slotsOk (bs : List UInt8) : Nat → Bool
  | 0 => true
  | i + 1 => slotsOk bs i && (slotG (slotB bs i)).isSome
theorem slotsOk_iff {bs : List UInt8} (n : Nat) : slotsOk bs n = true ↔ ∀ i, i < n → (slotG (slotB bs i)).isSome = true := by
  induction n with
  | zero => simp [slotsOk]
  | succ n ih =>
    simp only [slotsOk, Bool.and_eq_true, ih]
    constructor
    · rintro ⟨h1, h2⟩ i hi
      rcases Nat.lt_or_ge i n with h | h
      · exact h1 i h
      · obtain rfl : i = n := by omega
        exact h2
    · intro h
      exact ⟨fun i hi => h i (by omega), h n (by omega)⟩
theorem slotsOk_no {bs : List UInt8} {i n : Nat} (hi : i < n) (h : slotG (slotB bs i) = none) : slotsOk bs n = false := by
  cases hs : slotsOk bs n with
  | false => rfl
  | true => have := (slotsOk_iff n).1 hs i hi; rw [h] at this; cases this
def rightP (bs : List UInt8) (no : Int) : Bool :=
  (numI (cutB bs 0 4) == ((moreD 0 (bs.drop 4) : Nat) : Int)) && ((numI (cutB bs 12 2) == no) && ((cutB bs 24 8 == List.replicate 8 0) && ((bs.drop 480 == List.replicate 32 0) && slotsOk bs 7)))
end Go.Proofs.YtnanlaefehaifaaGreat
