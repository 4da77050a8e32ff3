/-
  WALKS OF THE PROGRAM: wal.Log.Rec of a place that is there.
-/
import Derived.Test.YtnanlaefehaifaaGreatRZi
namespace Go.Proofs.YtnanlaefehaifaaGreat
open Go.RowKit Go.Maps

/-- The look-up of a place that is there. -/
theorem MapF.look {W : World} {m k : Nat} {f : Int → Option Value} {p : Int} {v z : Value} {t e : TypeId} (h : MapF W m k f) (hp : (Lit.int .i64 p).wf = true) (hv : f p = some v) (ht : Tryz.prog.underlying t = some (.map 3 e)) (hz : ∀ W, (zeroValue e).run Tryz.prog W = .ok z W) : (Instr.lookup t (.map (some m)) (.int .i64 p) true).run Tryz.prog W = .ok (.tuple #[v, .bool true]) W := by
  obtain ⟨D, hD, hf⟩ := h
  obtain ⟨h1, h2⟩ := hf p
  obtain ⟨u, us, hrun, hu⟩ := hD.look_ok keyInt ht (hz W) (zd := .held z) (zp := []) rfl (key_of hp)
  rw [h1, hv] at hrun
  rw [h2 v hv] at hu
  have e : u = v := by
    simp only [heldV, Option.some.injEq, Prod.mk.injEq, DataW.held.injEq] at hu
    exact hu.1
  rw [e] at hrun
  exact hrun
/-- .. of one that is not there. -/
theorem MapF.lookNone {W : World} {m k : Nat} {f : Int → Option Value} {p : Int} {z : Value} {t e : TypeId} (h : MapF W m k f) (hp : (Lit.int .i64 p).wf = true) (hv : f p = none) (ht : Tryz.prog.underlying t = some (.map 3 e)) (hz : ∀ W, (zeroValue e).run Tryz.prog W = .ok z W) : (Instr.lookup t (.map (some m)) (.int .i64 p) true).run Tryz.prog W = .ok (.tuple #[z, .bool false]) W := by
  obtain ⟨D, hD, hf⟩ := h
  obtain ⟨h1, h2⟩ := hf p
  obtain ⟨u, us, hrun, hu⟩ := hD.look_ok keyInt ht (hz W) (zd := .held z) (zp := []) rfl (key_of hp)
  rw [h1, hv] at hrun
  have hn : Maps.has D (.int .i64 p) = false := by rw [h1, hv]; rfl
  rw [atKey_of_not_has hn] at hu
  have e : u = z := by
    simp only [heldV, Option.some.injEq, Prod.mk.injEq, DataW.held.injEq] at hu
    exact hu.1
  rw [e] at hrun
  exact hrun
theorem zero_rec (w : World) : (zeroValue 41).run Tryz.prog w = .ok (recV ⟨0, 0, 0, 0, [], .slice none 0 0, undo0⟩) w := by kernel_rfl
/-- Results: a block of cells, and a slot. -/
theorem results_row_tmp {fn : Func} {p t2 : Tmp} {ty : TypeId} (h : fn.results = #[.cell p ty, .tmp t2]) (tmps : Array Value) (w : World) (g : Nat) (cs : Array Value)
    (hp : tmps.getD p undef = .pointer (some ⟨g, 0, none⟩)) (hl : (loadVar ty ⟨g, 0, none⟩).run Tryz.prog w = .ok (.agg cs) w) :
    (results fn tmps).run Tryz.prog w = .ok (.tuple #[.agg cs, tmps.getD t2 undef]) w := by
  have hp' : tmps[p]?.getD undef = .pointer (some ⟨g, 0, none⟩) := by simpa using hp
  simp [results, h, hp', asAddr, hl]
set_option maxHeartbeats 6400000 in
set_option maxRecDepth 100000 in
theorem walRec_any (l m k : Nat) (cs : Array Value) (f : Int → Option Value) (p : Int) (y : RecV) (B : Nat) (w : World) (hp : (Lit.int .i64 p).wf = true) (kl : Blk w l 97 cs) (c4 : cs[4]? = some (.map (some m))) (hm : MapF w m k f) (hf : f p = some (recV y)) (hs : RecSm y) (hB : B ≤ w.heap.size) (ha : RecOk w B y) :
    Calls Tryz.prog 125 #[.pointer (some ⟨l, 0, none⟩), .int .i64 p] w fun e w' => ∃ x : RecV, e = .returned (.tuple #[recV x, .bool true]) ∧ x.kind = y.kind ∧ x.txn = y.txn ∧ (∃ A n c, x.pv = .slice A n c) ∧ (∃ A n c, x.undo.cv = .slice A n c) ∧ Below w.heap.size w w' := by
  have HL := hide (fun W (hb : Below w.heap.size w W) => (World.ownsMap.kept' hm hb).look hp hf Tryz.underlying95 zero_rec)
  have HOWN := hide (fun W (hb : Below w.heap.size w W) => own_any y B W hs (Nat.le_trans hB hb.size) (ha.below hb hB))
  have KL := hide kl
  have HC4 := hide c4
  clear hm hf kl hs c4
  obtain ⟨⟨⟨Ap, cp, hpv, junk⟩, junk2⟩, hu⟩ := ha
  obtain ⟨Au, nu, cu, huv, junk3⟩ := hu
  clear junk junk2 junk3
  obtain ⟨kd, tx, pr, nx, ps, pvv, un⟩ := y
  obtain ⟨yu1, yu2, yu3, yu4, ⟨d1, d2, d3, d4, d5⟩, yuv, yu7⟩ := un
  dsimp only at *
  subst hpv huv
  unfold recV at HL HOWN
  dsimp only at *
  go_enter Tryz.func125, Tryz.ntmps125
  go_upto_region 3 with (fail)
  refine gen1 (R := fun W => Code.wp _ _ _ _ W) (fun W1 kb hb1 hz1 => ?_)
  have l4 : W1.cell? ⟨l, 4, none⟩ = some (.map (some m)) := ((Blk.via hb1 KL.out).cell 4).trans HC4.out
  have hlook := HL.out W1 hb1
  have HKB := hide kb
  have HB1 := hide hb1
  clear kb hb1
  go_wp2_with fail
  refine nameW (w := World.alloc _ _) (R := fun W => Calls Tryz.prog _ _ W _) (fun W2 hW2 => ?_)
  have hb2 : Below w.heap.size w W2 := hW2 ▸ HB1.out.alloc HB1.out.size _
  have kb2 : Blk W2 w.heap.size 41 _ := hW2 ▸ HKB.out.alloc _
  clear hW2
  refine (HOWN.out W2 hb2).mono ?_
  rintro e W3 ⟨x, rfl, hk3, ht3, hs3, hi3, hb3⟩
  have kb3 := Blk.via hb3 kb2
  have HE := hide (And.intro hk3 (And.intro ht3 (below_via hb2 hb3 hb2.size)))
  have hs1 := SliceAt.form hi3.ok.1.1
  have hs2 := hi3.ok.2
  clear hk3 ht3 hs3 hi3 hb3 hb2 kb2
  obtain ⟨Ax, cx, ex1, junk⟩ := hs1
  obtain ⟨Ay, ny, cy, ex2, junk2⟩ := hs2
  clear junk junk2
  obtain ⟨kdx, txx, prx, nxx, psx, pvx, unx⟩ := x
  obtain ⟨zu1, zu2, zu3, zu4, ⟨e1, e2, e3, e4, e5⟩, zuv, zu7⟩ := unx
  dsimp only at *
  subst ex1 ex2
  obtain ⟨np, hnp⟩ : ∃ np, np = psx.length := ⟨_, rfl⟩
  unfold recV
  dsimp only
  rw [← hnp]
  have HNP := hide hnp
  clear hnp
  obtain ⟨X, hX⟩ : ∃ X : Array Value, X = #[.int .i64 kdx, .int .i64 txx, .int .i64 prx, .int .i64 nxx, .slice Ax np cx, .int .i64 zu1, .string zu2, .int .i64 zu3, .string zu4, .int .i64 e1, .slice Ay ny cy, .int .i64 e3, .int .i64 e4, .int .i64 e5, .int .i64 zu7] := ⟨_, rfl⟩
  rw [← hX]
  have hii : (Tryz.prog.info? 41).map (·.size) = some X.size := by rw [hX]; kernel_rfl
  have h1c : X.all (·.oneCell') = true := by rw [hX]; simp [Value.oneCell']
  have HII := hide hii
  have H1C := hide h1c
  have HZX := hide (show (15 : Nat) = X.size by rw [hX]; rfl)
  have HX := hide hX
  have HKB3 := hide kb3
  have hK4 : Blk (W3.setRow w.heap.size X) w.heap.size 41 X := setRow_heap W3 w.heap.size _ _ _ _ kb3
  have HK4 := hide hK4
  have HB4 := hide ((touch_setRow W3 w.heap.size X).below HE.out.2.2 (Nat.le_refl _))
  clear hX hii h1c kb3 hK4
  go_wp2_with (refine wpList_store_row rfl 41 (.tmp 4) (.tmp 21) rfl w.heap.size X rfl rfl 41 _ HKB3.out HII.out HZX.out H1C.out ?_)
  refine bodyPost_ret (results_row_tmp Tryz.results125 _ _ w.heap.size X rfl (run_loadVar_row _ _ _ _ X (0, 0) _ HK4.out Tryz.underlying41 rfl HII.out)) rfl ?_
  refine ⟨⟨kdx, txx, prx, nxx, psx, .slice Ax np cx, ⟨zu1, zu2, zu3, zu4, ⟨e1, e2, e3, e4, e5⟩, .slice Ay ny cy, zu7⟩⟩, ?_, HE.out.1, HE.out.2.1, ⟨_, _, _, rfl⟩, ⟨_, _, _, rfl⟩, HB4.out⟩
  rw [HX.out]
  rfl
end Go.Proofs.YtnanlaefehaifaaGreat
