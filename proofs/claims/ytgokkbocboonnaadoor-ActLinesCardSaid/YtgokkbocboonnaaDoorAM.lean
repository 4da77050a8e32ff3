/-
  WALK OF THE PROGRAM: act.actOf: a call; any act.
-/
import Derived.Test.YtgokkbocboonnaaDoorAL
namespace Go.Proofs.YtgokkbocboonnaaDoor
open Go.RowKit Go.Shelf



theorem strs_tail2 {w : World} {B m c : Nat} {A : Option Addr} {k j : List UInt8} {r : List (List UInt8)} (h : Strs w B A (m + 2) (k :: j :: r)) (hc : m + 2 ≤ c) :
    ∃ A', (∀ W, (Instr.slice 51 (.slice A (m + 2) c) (some (.int .i64 2)) none none).run Tryd.prog W = .ok (.slice A' m (c - 2)) W) ∧ Strs w B A' m r := by
  have h1 := h.cut (k := 2) (cap := c) (by omega) hc
  rw [Nat.add_sub_cancel, List.drop_succ_cons, List.drop_succ_cons, List.drop_zero] at h1
  refine ⟨_, fun W => ?_, h1⟩
  have hE : Tryd.prog.elem 51 = 9 := by kernel_rfl
  have hz : (sizeOf 9).run Tryd.prog W = .ok 1 W := by kernel_rfl
  rw [run_slice_l (P := Tryd.prog) (w := W) 51 A (m + 2) c (by rw [hE]; exact Tryd.underlying51) .i64 2 (by omega) (by omega), hE, hz]
  simp [Result.andThen, sliced]
/-- Behind the call of opOf: what it told, laid in a block of its own. -/
def OpCut (w : World) (o : Option OpD) (s7 s8 : Value) (wx : World) : Prop :=
  ∃ b8 x A n c ok, s7 = .bool ok ∧ s8 = .pointer (some ⟨b8, 0, none⟩) ∧ w.heap.size ≤ b8 ∧ Blk wx b8 25 #[.int .i64 x.act, .string x.key, .slice A n c, .int .i64 x.lo, .int .i64 x.hi, .int .i64 x.n] ∧ Below w.heap.size w wx ∧
    ((o = none ∧ ok = false) ∨ (o = some x ∧ ok = true ∧ OwnB wx w.heap.size (.slice A n c) x.data))
/-- The same as one case. -/
theorem opOf_told {w : World} {o : Option OpD} {e : Ending} {w' : World} (h : OpPost w o e w') : ∃ x A n c ok, e = .returned (.tuple #[.agg #[.int .i64 x.act, .string x.key, .slice A n c, .int .i64 x.lo, .int .i64 x.hi, .int .i64 x.n], .bool ok]) ∧ Below w.heap.size w w' ∧
    Hid ((o = none ∧ ok = false) ∨ (o = some x ∧ ok = true ∧ OwnB w' w.heap.size (.slice A n c) x.data)) := by
  obtain ⟨hb, ⟨h1, x, A, n, c, h2⟩ | ⟨x, A, n, c, h1, h2, h3⟩⟩ := h
  · exact ⟨x, A, n, c, false, h2, hb, .inl ⟨h1, rfl⟩⟩
  · exact ⟨x, A, n, c, true, h2, hb, .inr ⟨h1, rfl, h3⟩⟩
theorem genPutD {w W : World} {g B : Nat} {t : TypeId} {cs : Array Value} {vs : List Value} {R : World → Prop} (k : Blk W g t cs) (hs : cs.size = vs.length) (hb : Below B w W) (hg : B ≤ g)
    (hR : ∀ W', Blk W' g t vs.toArray → Below B w W' → Touch g (g + 1) W W' → R W') : R (putL W g 0 vs).drew :=
  genPut (R := fun W' => R W'.drew) k hs hb hg fun _ h1 h2 h3 => hR _ h1.drew h2.drew ⟨h3.os, h3.tape, h3.output, h3.size, h3.block⟩
set_option maxRecDepth 100000 in
set_option maxHeartbeats 12800000 in
theorem actOf_call (s : ByteArray) (A : Option Addr) (m c : Nat) (ws : List (List UInt8)) (B : Nat) (w : World) (hB : B ≤ w.heap.size) (hm : m ≤ 1000) (hmc : m ≤ c) (h : Strs w B A m ws) (hl : ∀ x ∈ ws, x.length ≤ 1000000) (hv : ErrV w) (hk : s.data.toList = wCall) :
    Calls Tryd.prog 21 #[.string s, .slice A m c] w (ActPost w (actOfD s.data.toList ws)) := by
  have bk : (s.toList == [99, 97, 108, 108]) = true := lit_yes hk
  have HO := hide (show actOfD s.data.toList ws = callOfD (numsN ws 1) ws by unfold actOfD; rw [if_pos hk])
  rw [HO.out]
  clear HO
  have HNU := hide (fun W (hbW : Below w.heap.size w W) => numbers_any A m c ws 1 B W (Nat.le_trans hB hbW.size) hm (by omega) (h.below hbW hB) hl (hv.below hbW))
  have HML := hide h.1
  cases hns : numsN ws 1 with
  | none =>
    have HO := hide (show callOfD none ws = none from rfl)
    have HNS := hide hns
    clear hns hk h hl hv
    go_enter Tryd.func21, Tryd.ntmps21
    go_wp2_with fail
    refine (HNU.out _ ((Below.refl _ _).alloc (Nat.le_refl _) _)).mono ?_
    rintro e w1 ⟨hb1, ⟨hno, rfl⟩ | ⟨ns', g, hyes, rfl, hg, hgk⟩⟩
    · have k1 := Blk.via hb1 (Blk.new w _ _)
      have hbw1 := below_via ((Below.refl _ w).alloc (Nat.le_refl _) _) hb1 (by simp)
      clear hno
      have q0 := (k1).cell
      have f0 := (k1).frozen
      have l0 := (k1).lt
      go_wp2
      refine genPut (vs := [.int .i64 (plainV act00).d.act, .int .i64 (plainV act00).d.client, .int .i64 (plainV act00).d.op.act, .string (plainV act00).d.op.key, (plainV act00).dv, .int .i64 (plainV act00).d.op.lo, .int .i64 (plainV act00).d.op.hi, .int .i64 (plainV act00).d.op.n, .int .i64 (plainV act00).d.n, (plainV act00).pv, .int .i64 (plainV act00).d.log]) k1 rfl hbw1 (Nat.le_refl _) (fun W' k6 hb6 ht => ?_)
      have q6 := k6.cell
      refine bodyPost_ret (v := .tuple #[actV (plainV act00), .bool false]) (by simp [results, Tryd.results21, go_sem, actV, q6]) rfl ?_
      exact ⟨hb6, .inl ⟨HO.out, _, _, _, _, _, _, _, rfl, rfl, rfl⟩⟩
    · rw [HNS.out] at hyes; cases hyes
  | some ns =>
    have HNS := hide hns
    have hns1 : ns.length = 1 ∧ 1 ≤ ws.length := by
      unfold numsN at hns
      split at hns
      · rename_i h1
        refine ⟨?_, h1⟩
        rw [numsD_length hns, List.length_take]
        omega
      · cases hns
    obtain ⟨a, rfl⟩ := nums1 hns1.1
    cases ws with
    | nil => exact absurd hns1.2 (by decide)
    | cons x0 rest =>
      cases rest with
      | nil =>
        have HO := hide (show callOfD (some [a]) [x0] = none from rfl)
        obtain rfl : m = 1 := HML.out
        clear hns hns1 hk h hl hv
        go_enter Tryd.func21, Tryd.ntmps21
        go_wp2_with fail
        refine (HNU.out _ ((Below.refl _ _).alloc (Nat.le_refl _) _)).mono ?_
        rintro e w1 ⟨hb1, ⟨hno, rfl⟩ | ⟨ns', g, hyes, rfl, hg, hgk⟩⟩
        · rw [HNS.out] at hno; cases hno
        · rw [HNS.out] at hyes
          obtain rfl := Option.some.inj hyes
          have k1 := Blk.via hb1 (Blk.new w _ _)
          have hbw1 := below_via ((Below.refl _ w).alloc (Nat.le_refl _) _) hb1 (by simp)
          clear hyes
          have q0 := (k1).cell
          have f0 := (k1).frozen
          have l0 := (k1).lt
          go_wp2
          refine genPut (vs := [.int .i64 (plainV act00).d.act, .int .i64 (plainV act00).d.client, .int .i64 (plainV act00).d.op.act, .string (plainV act00).d.op.key, (plainV act00).dv, .int .i64 (plainV act00).d.op.lo, .int .i64 (plainV act00).d.op.hi, .int .i64 (plainV act00).d.op.n, .int .i64 (plainV act00).d.n, (plainV act00).pv, .int .i64 (plainV act00).d.log]) k1 rfl hbw1 (Nat.le_refl _) (fun W' k6 hb6 ht => ?_)
          have q6 := k6.cell
          refine bodyPost_ret (v := .tuple #[actV (plainV act00), .bool false]) (by simp [results, Tryd.results21, go_sem, actV, q6]) rfl ?_
          exact ⟨hb6, .inl ⟨HO.out, _, _, _, _, _, _, _, rfl, rfl, rfl⟩⟩
      | cons nm r =>
        obtain ⟨m, rfl⟩ : ∃ m', m = m' + 2 := ⟨r.length, by have := HML.out; simpa using this⟩
        have HO := hide (show callOfD (some [a]) (x0 :: nm :: r) = (opOfD nm r).map fun x => { act00 with client := a, op := x } from rfl)
        obtain ⟨A', hsl, hr⟩ := strs_tail2 h hmc
        obtain ⟨bq, o, x, rfl, hbq, hkx, c0⟩ := h.at_ (k := 1) (by omega)
        obtain rfl : nm = x := by simpa using hkx
        have hlt : bq < w.heap.size := by omega
        have HR := hide hr
        have b2 : ¬ ((m : Int) + 2 < 2) := by omega
        have HOP := hide (fun W (hbW : Below w.heap.size w W) => tx_data nm ▸ opOf_any (tx nm) A' m (c - 2) r B W (Nat.le_trans hB hbW.size) (by omega) (by omega) (HR.out.below hbW hB) (fun x hx => hl x (by simp [hx])) (hv.below hbW))
        clear hns hns1 hk h hl hv hr hkx
        go_enter Tryd.func21, Tryd.ntmps21
        go_wp2_with fail
        refine (HNU.out _ ((Below.refl _ _).alloc (Nat.le_refl _) _)).mono ?_
        rintro e w1 ⟨hb1, ⟨hno, rfl⟩ | ⟨ns', g, hyes, rfl, hg, hgk⟩⟩
        · rw [HNS.out] at hno; cases hno
        · rw [HNS.out] at hyes
          obtain rfl := Option.some.inj hyes
          have k1 := Blk.via hb1 (Blk.new w _ _)
          have hbw1 := below_via ((Below.refl _ w).alloc (Nat.le_refl _) _) hb1 (by simp)
          clear hyes
          have g0 := hgk.cell
          have gl := hgk.lt
          go_wp2_with fail
          go_cut [7, 8] (fun s7 s8 wx => OpCut w1 (opOfD nm r) s7 s8 wx)
          case first =>
            have jb := (Below.refl w1.heap.size w1).drew
            have c1 : ∀ W, Below w1.heap.size w1 W → W.cell? ⟨bq, o + 1, none⟩ = some (.string (tx nm)) := fun W hW => (hW.cell (p := ⟨bq, o + 1, none⟩) (by have := hbw1.size; show bq < _; omega)).trans ((hbw1.cell (p := ⟨bq, o + 1, none⟩) hlt).trans c0)
            have C1 := hide c1
            clear c1 g0
            have i1 : (1 : Int) < (m : Int) + 2 := by omega
            have i2 : (1 : Int) < ((m + 2 : Nat) : Int) := by omega
            go_region_held3 (fun w' => w'.cell? ⟨bq, o + 1, none⟩ = some (.string (tx nm)))
              (first | (with_reducible exact C1.out _ jb) | (with_reducible exact C1.out _ (((Below.refl w1.heap.size w1).alloc (Nat.le_refl _) _).drew)) | (with_reducible exact C1.out _ jq) | (with_reducible exact C1.out _ (jq.alloc jq.size _)) | exact C1.out _ ((((((jq.setCell (p := ⟨w1.heap.size, 0, none⟩) (Nat.le_refl _) _).setCell (p := ⟨w1.heap.size, 1, none⟩) (Nat.le_refl _) _).setCell (p := ⟨w1.heap.size, 2, none⟩) (Nat.le_refl _) _).setCell (p := ⟨w1.heap.size, 3, none⟩) (Nat.le_refl _) _).setCell (p := ⟨w1.heap.size, 4, none⟩) (Nat.le_refl _) _).setCell (p := ⟨w1.heap.size, 5, none⟩) (Nat.le_refl _) _))
              ((go_at_call 43; refine (HOP.out _ (below_via hbw1 (by (first | (with_reducible exact jb) | (with_reducible exact (((Below.refl w1.heap.size w1).alloc (Nat.le_refl _) _).drew)))) hbw1.size)).mono ?_; rintro e wq hq; obtain ⟨x, A2, n2, c2, ok, rfl, hbq, HQ⟩ := opOf_told hq; have jq : Below w1.heap.size w1 wq := (by (first | exact below_via jb hbq jb.size | exact below_via (((Below.refl w1.heap.size w1).alloc (Nat.le_refl _) _).drew) hbq (by simp))); try (have k8 := Blk.via hbq ((Blk.new w1 _ _).drew); have q8 := k8.cell; have f8 := k8.frozen; have l8 := k8.lt)))
            all_goals go_wp2_with fail
            all_goals go_meet
            · refine ⟨wq.heap.size, x, A2, n2, c2, ok, rfl, rfl, jq.size, Blk.new _ _ _, jq.alloc jq.size _, ?_⟩
              rcases HQ.out with h | ⟨h1, h2, h3⟩
              · exact .inl h
              · exact .inr ⟨h1, h2, (h3.alloc _).low (Nat.le_refl _)⟩
            · refine genPut (vs := [.int .i64 x.act, .string x.key, .slice A2 n2 c2, .int .i64 x.lo, .int .i64 x.hi, .int .i64 x.n]) k8 rfl jq (Nat.le_refl _) (fun W' k6 hb6 ht => ⟨w1.heap.size, x, A2, n2, c2, ok, rfl, rfl, Nat.le_refl _, k6, hb6, ?_⟩)
              rcases HQ.out with h | ⟨h1, h2, h3⟩
              · exact .inl h
              · exact .inr ⟨h1, h2, (own_put h3 k8 (by decide) ht).low (by simp)⟩
          case rest =>
            obtain ⟨b8, x, A2, n2, c2, ok, rfl, rfl, hb8, k8, hbx, HQ⟩ := hcut
            rename World => wx
            have HQ := hide HQ
            have k1 := Blk.via hbx k1
            have hgk := Blk.via hbx hgk
            have hbwx := below_via hbw1 hbx hbw1.size
            clear g0
            have g0 := hgk.cell
            have gl := hgk.lt
            have q8 := k8.cell
            have l8 := k8.lt
            have kW := k1.cell
            have fW := k1.frozen
            have lW := k1.lt
            go_wp2
            go_region
            go_wp2
            refine genPutD (vs := [.int .i64 0, .int .i64 a, .int .i64 x.act, .string x.key, .slice A2 n2 c2, .int .i64 x.lo, .int .i64 x.hi, .int .i64 x.n, .int .i64 0, .slice none 0 0, .int .i64 0]) k1 rfl hbwx (Nat.le_refl _) (fun W' k6 hb6 ht => ?_)
            have q6 := k6.cell
            refine bodyPost_ret (v := .tuple #[actV ⟨{ act00 with client := a, op := x }, .slice A2 n2 c2, .slice none 0 0⟩, .bool ok]) (by simp [results, Tryd.results21, go_sem, actV, act00, q6]) rfl ?_
            rcases HQ.out with ⟨h1, rfl⟩ | ⟨h1, rfl, h3⟩
            · exact ⟨hb6, .inl ⟨by rw [HO.out, h1]; rfl, _, _, _, _, _, _, _, rfl, rfl, rfl⟩⟩
            · exact ⟨hb6, .inr ⟨_, by rw [HO.out, h1]; rfl, rfl, (own_put h3 k1 (by decide) ht).low hbw1.size, OwnI.nil _ _⟩⟩
theorem actOf_any (s : ByteArray) (A : Option Addr) (m c : Nat) (ws : List (List UInt8)) (B : Nat) (w : World) (hB : B ≤ w.heap.size) (hm : m ≤ 1000) (hmc : m ≤ c) (h : Strs w B A m ws) (hl : ∀ x ∈ ws, x.length ≤ 1000000) (hv : ErrV w) :
    Calls Tryd.prog 21 #[.string s, .slice A m c] w (ActPost w (actOfD s.data.toList ws)) := by
  by_cases h1 : s.data.toList = wCall
  · exact actOf_call s A m c ws B w hB hm hmc h hl hv h1
  by_cases h2 : s.data.toList = wStep
  · exact actOf_step s A m c ws B w hB hm h hl hv h2
  by_cases h3 : s.data.toList = wFuse
  · exact actOf_fuse s A m c ws B w hB hm h hl hv h3
  by_cases h4 : s.data.toList = wCrash
  · exact actOf_crash s A m c ws B w hB hm h hl hv h4
  · exact actOf_word s A m c ws B w h h1 h2 h3 h4
end Go.Proofs.YtgokkbocboonnaaDoor
