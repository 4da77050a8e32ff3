/-
  WALK: serial.Order$1 (the closure 'wrong').
  WALK: serial.Order.
-/
import Derived.Test.YtkhpkclkjklccaaGreatDoorWA
import Derived.Deep.QuietTactic
import Derived.BigQuiet
import Derived.Test.YtkhpkclkjklccaaGreatDoorWF
import Derived.Test.YtkhpkclkjklccaaGreatDoorWG
import Derived.Test.YtkhpkclkjklccaaGreatDoorMem
import Derived.BigRegion
import Derived.RegionTactic
namespace Go.Proofs.YtkhpkclkjklccaaGreatDoor
open Go.RowKit

set_option maxHeartbeats 800000 in
/-- The closure: do the two at i and i + 1 stand the wrong way round? -/
theorem wrongC_any (n i a a' : Nat) (r r' : Int) (gR gB gA gX : Nat) (w : World) (hn : n ≤ 10000) (hi : i + 1 < n) (ha : a < n) (ha' : a' < n)
    (kR : w.cell? ⟨gB, 0, none⟩ = some (.slice (some ⟨gR, 0, none⟩) n n)) (kA : w.cell? ⟨gX, 0, none⟩ = some (.slice (some ⟨gA, 0, none⟩) n n))
    (c0 : w.cell? ⟨gA, i, none⟩ = some (.int .i64 a)) (c1 : w.cell? ⟨gA, i + 1, none⟩ = some (.int .i64 a'))
    (d0 : w.cell? ⟨gR, a, none⟩ = some (.int .i64 r)) (d1 : w.cell? ⟨gR, a', none⟩ = some (.int .i64 r')) :
    Calls Tryz.prog 28 #[.int .i64 i, .pointer (some ⟨gB, 0, none⟩), .pointer (some ⟨gX, 0, none⟩)] w fun e w' => e = .returned (.bool (decide (r' < r))) ∧ ∃ q, w' = w.drewN q := by
  have s1 : IntKind.i64.wrap ((i : Int) + 1) = (i : Int) + 1 := IntWalk.i64_in _ (by omega)
  have s2 : (0 : Int) ≤ (i : Int) + 1 := by omega
  have s3 : ((i : Int) + 1).toNat = i + 1 := by omega
  have s4 : (i : Int) < n := by omega
  have s5 : (i : Int) + 1 < n := by omega
  have s6 : (a : Int) < n := by omega
  have s7 : (a' : Int) < n := by omega
  go_enter Tryz.func28, Tryz.ntmps28
  go_wp2
  go_quiet (fail)
  go_wp2
  go_ret
  exact ⟨rfl, _, rfl⟩
end Go.Proofs.YtkhpkclkjklccaaGreatDoor
namespace Go.Proofs.YtkhpkclkjklccaaGreatDoor
open Go.RowKit

/-- The places as they are turned, and what stands there. -/
def AtOk (n : Nat) (xs cur : List DidV) (ps : List Nat) : Prop := ps.length = n ∧ cur.length = n ∧ ∀ j, j < n → ∃ a x, ps[j]? = some a ∧ a < n ∧ xs[a]? = some x ∧ cur[j]? = some x
theorem AtOk.swp {n : Nat} {xs cur : List DidV} {ps : List Nat} {i : Nat} (h : AtOk n xs cur ps) (hi : i + 1 < n) : AtOk n xs (swp cur i) (swp ps i) := by
  obtain ⟨h1, h2, h3⟩ := h
  refine ⟨by rw [swp_length, h1], by rw [swp_length, h2], fun j hj => ?_⟩
  rw [swp_at _ _ _ (by omega), swp_at _ _ _ (by omega)]
  split
  · exact h3 _ hi
  · split
    · exact h3 _ (by omega)
    · exact h3 j hj

/-- What lies in memory while Order goes: the two captured variables, the ranks, the places. -/
structure OSt (w : World) (n : Nat) (rs : List Int) (gR S : Nat) (f : Nat → Value) (wr : World) : Prop where
  kB : Blk wr S 46 #[.slice (some ⟨gR, 0, none⟩) n n]
  kA : wr.rowIs (S + 1) 3 n f
  kX : Blk wr (S + 2) 46 #[.slice (some ⟨S + 1, 0, none⟩) n n]
  kR : Blk wr gR 3 (rs.map (Value.int .i64)).toArray
  b : Below w.heap.size w wr
theorem OSt.start {w w1 : World} {n gR : Nat} {rs : List Int} (kR : Blk w1 gR 3 (rs.map (Value.int .i64)).toArray) (hb : Below w.heap.size w w1) :
    OSt w n rs gR w1.heap.size (fun _ => .int .i64 0) (((w1.alloc (.cells #[.slice (some ⟨gR, 0, none⟩) n n] 46)).alloc (.cells (madeCells #[.int .i64 0] n) 3)).alloc (.cells #[.slice (some ⟨w1.heap.size + 1, 0, none⟩) n n] 46)) := by
  have hz := hb.size
  refine ⟨((Blk.new w1 _ _).alloc _).alloc _, ?_, ?_, ((kR.alloc _).alloc _).alloc _, ((hb.alloc hz _).alloc (by simp; omega) _).alloc (by simp; omega) _⟩
  · have := World.rowIs_made (w1.alloc (.cells #[.slice (some ⟨gR, 0, none⟩) n n] 46)) (.int .i64 0) n 3
    simp only [World.size_alloc] at this
    exact this.alloc _
  · have := Blk.new ((w1.alloc (.cells #[.slice (some ⟨gR, 0, none⟩) n n] 46)).alloc (.cells (madeCells #[.int .i64 0] n) 3)) 46 #[.slice (some ⟨w1.heap.size + 1, 0, none⟩) n n]
    simpa using this
theorem genO {w wr : World} {n gR S : Nat} {rs : List Int} {f : Nat → Value} {R : World → Prop} (h : OSt w n rs gR S f wr) (k : ∀ W, OSt w n rs gR S f W → R W) : R wr := k _ h
theorem OSt.congr {w wr : World} {n gR S : Nat} {rs : List Int} {f f' : Nat → Value} (h : OSt w n rs gR S f wr) (hf : ∀ j, j < n → f j = f' j) : OSt w n rs gR S f' wr := ⟨h.kB, h.kA.congr hf, h.kX, h.kR, h.b⟩
theorem OSt.drewN {w wr : World} {n gR S : Nat} {rs : List Int} {f : Nat → Value} (h : OSt w n rs gR S f wr) (q : Nat) : OSt w n rs gR S f (wr.drewN q) := ⟨h.kB, h.kA, h.kX, h.kR, below_drewN h.b q⟩
theorem OSt.set {w wr : World} {n gR S : Nat} {rs : List Int} {f : Nat → Value} (h : OSt w n rs gR S f wr) (hgS : gR < S) (hwS : w.heap.size ≤ S) (i : Nat) (v : Value) : OSt w n rs gR S (fun j => if j = i then v else f j) (wr.setCell ⟨S + 1, i, none⟩ v) :=
  ⟨h.kB.far (by simp) _, h.kA.set i v, h.kX.far (by simp) _, h.kR.far (by simp; omega) _, h.b.setCell (by simp; omega) _⟩
theorem OSt.via {w wr w' : World} {n gR S : Nat} {rs : List Int} {f : Nat → Value} (h : OSt w n rs gR S f wr) (hwS : w.heap.size ≤ S) (hb : Below wr.heap.size wr w') : OSt w n rs gR S f w' :=
  have hs := h.kB.lt
  ⟨Blk.via hb h.kB, by obtain ⟨c, h1, h2, h3⟩ := h.kA; exact ⟨c, (hb.block _ (Blk.lt (t := 3) (cs := c) h1)).trans h1, h2, h3⟩, Blk.via hb h.kX, Blk.via hb h.kR, h.b.trans (hb.mono (by omega))⟩

theorem at_cells {w W : World} {n gR S j a a' : Nat} {rs : List Int} {ps : List Nat} (h : OSt w n rs gR S (fun t => .int .i64 (ps.getD t 0 : Nat)) W) (h1 : ps[j]? = some a) (h2 : ps[j + 1]? = some a') (hj : j < n) (hj1 : j + 1 < n) :
    W.cell? ⟨S + 1 + 1, 0, none⟩ = some (.slice (some ⟨S + 1, 0, none⟩) n n) ∧ W.cell? ⟨S + 1, j, none⟩ = some (.int .i64 a) ∧ W.cell? ⟨S + 1, j + 1, none⟩ = some (.int .i64 a') :=
  ⟨h.kX.cell 0, by have := h.kA.cell (i := j) hj; simpa [List.getD, h1] using this, by have := h.kA.cell (i := j + 1) hj1; simpa [List.getD, h2] using this⟩

theorem sorted_swp {cur : List DidV} {zs : List Int} {j : Nat} (h : ∀ t (ht : t + 1 < (cur.map (rank zs)).length), t < j → (cur.map (rank zs))[t] ≤ (cur.map (rank zs))[t + 1]) :
    ∀ t (ht : t + 1 < ((swp cur j).map (rank zs)).length), t < j - 1 → ((swp cur j).map (rank zs))[t] ≤ ((swp cur j).map (rank zs))[t + 1] := by
  intro t ht htj
  by_cases hj : j + 1 < cur.length
  · have hl : t + 1 < (cur.map (rank zs)).length := by simpa [swp_length] using ht
    have e1 : ((swp cur j).map (rank zs))[t]? = (cur.map (rank zs))[t]? := by
      rw [swp_map, swp_at _ _ _ (by simpa using hj), if_neg (by omega), if_neg (by omega)]
    have e2 : ((swp cur j).map (rank zs))[t + 1]? = (cur.map (rank zs))[t + 1]? := by
      rw [swp_map, swp_at _ _ _ (by simpa using hj), if_neg (by omega), if_neg (by omega)]
    rw [List.getElem?_eq_getElem (by omega), List.getElem?_eq_getElem (by omega)] at e1 e2
    injection e1 with e1
    injection e2 with e2
    rw [e1, e2]
    exact h t hl (by omega)
  · have : swp cur j = cur := swp_far cur j hj
    simp only [this] at ht ⊢
    exact h t ht (by omega)
theorem ord_swap {w W : World} {n gR S j a a' : Nat} {rs : List Int} {ps : List Nat} (h : OSt w n rs gR S (fun t => .int .i64 (ps.getD t 0 : Nat)) W) (hgS : gR < S) (hwS : w.heap.size ≤ S) (h1 : ps[j]? = some a) (h2 : ps[j + 1]? = some a') (hl : ps.length = n) (hj : j + 1 < n) :
    OSt w n rs gR S (fun t => .int .i64 ((swp ps j).getD t 0 : Nat)) (((W.setCell ⟨S + 1, j, none⟩ (.int .i64 a')).setCell ⟨S + 1, j + 1, none⟩ (.int .i64 a)).drew) := by
  refine OSt.congr (((h.set hgS hwS j (.int .i64 a')).set hgS hwS (j + 1) (.int .i64 a)).drewN 1) (fun t ht => ?_)
  simp only [List.getD, swp_at ps j t (by omega)]
  by_cases e1 : t = j + 1
  · subst e1; simp [h1]
  · by_cases e2 : t = j
    · subst e2; simp [h2]
    · simp [e1, e2]

theorem genT {w wr : World} {n gR S k g i : Nat} {rs : List Int} {f : Nat → Value} {t : TypeId} {cur done : List DidV} {R : World → Prop} (h : OSt w n rs gR S f wr) (h2 : TSt t k g i cur done wr) (kk : ∀ W, OSt w n rs gR S f W → TSt t k g i cur done W → R W) : R wr := kk _ h h2
theorem tcell {w : World} {g : Nat} {t : TypeId} {cs : Array Value} (k : Blk w g t cs) {i : Nat} (hi : i < cs.size) : w.cell? ⟨g, i, none⟩ = some (cs.getD i undef) := by rw [k.cell]; simp [hi]
theorem OSt.touch {w wr w' : World} {n gR S T : Nat} {rs : List Int} {f : Nat → Value} (h : OSt w n rs gR S f wr) (ht : Touch T (T + 1) wr w') (hT : S + 2 < T) (hwS : w.heap.size ≤ S) (hgS : gR < S) : OSt w n rs gR S f w' :=
  ⟨ht.blk h.kB (by omega), by obtain ⟨c, h1, h2, h3⟩ := h.kA; exact ⟨c, (ht.block _ (by omega)).trans h1, h2, h3⟩, ht.blk h.kX (by omega), ht.blk h.kR (by omega), ht.below h.b (by omega)⟩
theorem made_size (k : Nat) : (madeCells (Value.cells (.agg didZ)) (k * 13)).size = k * 13 := by simp [madeCells]

set_option maxHeartbeats 3200000 in
set_option maxRecDepth 100000 in
theorem sOrder_any (A O : Option Addr) (n c m d : Nat) (xs : List DidV) (zs : List Int) (B : Nat) (w : World) (hB : B ≤ w.heap.size) (hn : n ≤ 10000) (hm : m ≤ 10000) (hnc : n ≤ c) (h : Dids w B A n xs) (ho : Ints w B O m zs) (hwx : ∀ x ∈ xs, wfI x.d.txn) (hwz : ∀ z ∈ zs, wfI z)
    (hlen : ∀ x ∈ xs, x.d.op.data.length ≤ 1000000 ∧ x.d.cell.data.length ≤ 1000000) (ht : Tab w) (hg : 0 < B) :
    Calls Tryz.prog 16 #[.slice A n c, .slice O m d] w (OrdPost w n xs zs) := by
  have HL := hide h.1
  have HLEN := hide hlen
  clear hlen
  have hrk := ranksOf_any A O n c m d xs zs B w hB (by omega) (by omega) h ho hwx hwz
  have HRK := hide hrk
  clear hrk hwx hwz
  have hmk := run_make_row' (P := Tryz.prog) 46 3 (.int .i64 0) 8 Tryz.underlying46 info_int rfl .i64 .i64 n (by omega) (by omega)
  go_enter Tryz.func16, Tryz.ntmps16
  go_wp2
  go_step3
  go_wp2_with fail
  refine HRK.out.mono ?_
  rintro e w1 ⟨⟨hall, gR, hgR, rfl, kR⟩ | ⟨⟨x, hx, hneg⟩, rfl⟩, hb1⟩
  rotate_left
  · go_wp2
    rw [Exit.noGoto_ret]
    refine bodyPost_ret (results_tmp3 rfl _ _ _) rfl ?_
    exact ⟨(Below.alloc hb1 hb1.size _), .inl ⟨⟨x, hx, hneg⟩, rfl⟩⟩
  · have HALL := hide hall
    clear hall
    have hz1 := hb1.size
    have hgz := kR.lt
    have hst := OSt.start (w := w) (n := n) kR hb1
    go_wp2
    refine genO (R := fun W => Code.wp _ _ _ _ W) hst ?_
    clear hst
    intro W1 hst
    generalize hgg : w1.heap.size = S at *
    clear hgg kR
    go_loopw [30] (fun i wr => ∃ k : Nat, k ≤ n ∧ i = .int .i64 k ∧ OSt w n (xs.map (rank zs)) gR S (fun j => if j < k then .int .i64 j else .int .i64 0) wr) (fun i _ => n - (intOf i).toNat)
    case atStart => exact ⟨0, Nat.zero_le _, rfl, by simpa using hst⟩
    case round =>
      obtain ⟨k, hk, rfl, hst⟩ := hrel
      have e1 := hst.kX.cell 0
      by_cases hlt : k < n
      · have e2 : wr.cell? ⟨S + 1, k, none⟩ = some (.int .i64 0) := by have := hst.kA.cell (i := k) hlt; simpa using this
        have e3 : wr.frozen? ⟨S + 1, k, none⟩ = false := hst.kA.frozen _
        go_wp2
        go_roundw
        case rel =>
          refine ⟨k + 1, by omega, by go_num, (hst.set hgz hz1 k (.int .i64 k)).congr (fun j hj => ?_)⟩
          by_cases hjk : j = k
          · subst hjk; simp
          · by_cases hj2 : j < k
            · simp [hjk, hj2, show j < k + 1 by omega]
            · simp [hjk, hj2, show ¬ j < k + 1 by omega]
        case measure => simp [intOf]; omega
      · obtain rfl : k = n := by omega
        have hst2 : OSt w k (xs.map (rank zs)) gR S (fun j => .int .i64 ((List.range k).getD j 0 : Nat)) wr := hst.congr (fun j hj => by simp [hj, List.getD])
        clear hst e1
        have hcl0 : AtOk k xs xs (List.range k) := ⟨by simp, HL.out.symm, fun j hj => by
          have hjx : j < xs.length := by have := HL.out; omega
          exact ⟨j, xs[j], by simp [hj], hj, by simp [hjx], by simp [hjx]⟩⟩
        go_wp2
        go_step3
        go_wp2
        go_loopg [12, 13] (invs (xs.map (rank zs)) * (k + 2) + k) (fun g s i wr => ∃ (cur : List DidV) (ps : List Nat) (sw j : Nat), s = .int .i64 (sw : Int) ∧ i = .int .i64 (j : Int) ∧ j ≤ k ∧ AtOk k xs cur ps ∧ OSt w k (xs.map (rank zs)) gR S (fun t => .int .i64 (ps.getD t 0 : Nat)) wr ∧ Mid comV (rank zs) xs cur sw ∧ (∀ t (ht : t + 1 < (cur.map (rank zs)).length), t < j → (cur.map (rank zs))[t] ≤ (cur.map (rank zs))[t + 1]) ∧ g = invs (cur.map (rank zs)) * (k + 2) + (k - j))
        case atStart => exact ⟨xs, List.range k, 0, 0, rfl, rfl, Nat.zero_le _, hcl0, hst2, Mid.start _ _ _, fun t _ h0 => absurd h0 (by omega), by simp⟩
        case round =>
          obtain ⟨cur, ps, sw, j, rfl, rfl, hj, hat, hst, hmid, hsor, hg0⟩ := hrel
          have HG := hide hg0
          have HMID := hide hmid
          have HSOR := hide hsor
          have HAT := hide hat
          have hsw : sw ≤ 100000000 := by
            have h1 := hmid.le
            have h2 := invs_le (xs.map (rank zs))
            have h3 : (xs.map (rank zs)).length ≤ 10000 := by simp; have := HL.out; omega
            have h4 := Nat.mul_le_mul h3 h3
            omega
          clear hg0 hmid hsor
          have e1 := hst.kX.cell 0
          by_cases hlt : j + 1 < k
          · obtain ⟨a, x, hpa, hak, hxa, hcj⟩ := hat.2.2 j (by omega)
            obtain ⟨a', y, hpa', hak', hya, hcj'⟩ := hat.2.2 (j + 1) hlt
            have e2 : wr.cell? ⟨S + 1, j, none⟩ = some (.int .i64 a) := by have := hst.kA.cell (i := j) (by omega); simpa [List.getD, hpa] using this
            have e3 : wr.cell? ⟨S + 1, j + 1, none⟩ = some (.int .i64 a') := by have := hst.kA.cell (i := j + 1) (by omega); simpa [List.getD, hpa'] using this
            have d0 : wr.cell? ⟨gR, a, none⟩ = some (.int .i64 (rank zs x)) := by rw [hst.kR.cell]; simp [hxa]
            have d1 : wr.cell? ⟨gR, a', none⟩ = some (.int .i64 (rank zs y)) := by rw [hst.kR.cell]; simp [hya]
            have hw0 := wrongC_any k j a a' (rank zs x) (rank zs y) gR S (S + 1) (S + 2) wr (by omega) hlt hak hak' (hst.kB.cell 0) e1 e2 e3 d0 d1
            have HW := hide hw0
            have HP := hide (And.intro hpa (And.intro hxa hcj))
            have HP' := hide (And.intro hpa' (And.intro hya hcj'))
            clear hw0 hpa hxa hcj hpa' hya hcj' d0 d1
            by_cases hwr : rank zs y < rank zs x
            · have hwb : decide (rank zs y < rank zs x) = true := by simpa using hwr
              rw [hwb] at HW
              go_wp2_with (go_at_call 28; refine HW.out.mono ?_; rintro e w2 ⟨rfl, hq⟩)
              have hst2 : OSt w k (xs.map (rank zs)) gR S (fun t => .int .i64 (ps.getD t 0 : Nat)) w2 := by obtain ⟨q, rfl⟩ := hq; exact hst.drewN q
              clear hq e1 e2 e3
              have hD := h.below hst2.b hB
              obtain ⟨b, o, x', rfl, hb, hxa', hok, hc1⟩ := hD.at_ hak
              have R1 := fun (W : World) (hh : Dids W B (some ⟨b, o, none⟩) k xs) => hh.row HP.out.2.1
              have R2 := fun (W : World) (hh : Dids W B (some ⟨b, o, none⟩) k xs) => hh.row HP'.out.2.1
              have RA := fun (W : World) (hh : OSt w k (xs.map (rank zs)) gR S (fun t => .int .i64 (ps.getD t 0 : Nat)) W) => at_cells hh HP.out.1 HP'.out.1 (by omega) hlt
              have HRA := hide RA
              have hwF := wrg_first (l := cur.map (rank zs)) (i := j) (by simpa [HAT.out.2.1] using hlt) (by
                have e1 := HP.out.2.2
                have e2 := HP'.out.2.2
                obtain ⟨_, e1⟩ := List.getElem?_eq_some_iff.1 e1
                obtain ⟨_, e2⟩ := List.getElem?_eq_some_iff.1 e2
                simp only [List.getElem_map, e1, e2]
                exact hwr) HSOR.out
              have HWF := hide hwF
              obtain ⟨dx, dv, cv⟩ := x
              obtain ⟨dy, ev, fv⟩ := y
              dsimp only at *
              have HR1 := hide R1
              have HR2 := hide R2
              clear R1 R2 RA hc1 hok hxa' hwF
              have s1 : IntKind.i64.wrap ((j : Int) + 1) = (j : Int) + 1 := IntWalk.i64_in _ (by omega)
              have s2 : (0 : Int) ≤ (j : Int) + 1 := by omega
              have s3 : ((j : Int) + 1).toNat = j + 1 := by omega
              have s4 : (j : Int) < k := by omega
              have s5 : (j : Int) + 1 < k := by omega
              have s6 : (a : Int) < k := by omega
              have s7 : (a' : Int) < k := by omega
              have jS : OSt w k (xs.map (rank zs)) gR S (fun t => .int .i64 (ps.getD t 0 : Nat)) w2.drew := hst2.drewN 1
              have jD : Dids w2.drew B (some ⟨b, o, none⟩) k xs := hD.drewN 1
              have hz2 : S + 2 < w2.drew.heap.size := hst2.kX.lt
              have hcc := Commute_any dx.op dy.op dv ev w2.drew (ht.below jS.b (by omega)) (by omega)
              cases hcom : commute dx.op dy.op
              · rw [hcom] at hcc
                have HCC := hide hcc
                clear hcc hst hst2 hD
                go_region_held3 (fun w' => w'.cell? ⟨S + 1 + 1, 0, none⟩ = some (.slice (some ⟨S + 1, 0, none⟩) k k) ∧ w'.cell? ⟨S + 1, j, none⟩ = some (.int .i64 a) ∧ w'.cell? ⟨S + 1, j + 1, none⟩ = some (.int .i64 a') ∧ (w'.cell? ⟨b, o + a * 13, none⟩ = some (.int .i64 dx.txn) ∧ w'.cell? ⟨b, o + a * 13 + 1, none⟩ = some (.int .i64 dx.op.act) ∧ w'.cell? ⟨b, o + a * 13 + 1 + 1, none⟩ = some (.string dx.op.key) ∧ w'.cell? ⟨b, o + a * 13 + 1 + 2, none⟩ = some (dv) ∧ w'.cell? ⟨b, o + a * 13 + 1 + 3, none⟩ = some (.int .i64 dx.op.lo) ∧ w'.cell? ⟨b, o + a * 13 + 1 + 4, none⟩ = some (.int .i64 dx.op.hi) ∧ w'.cell? ⟨b, o + a * 13 + 1 + 5, none⟩ = some (.int .i64 dx.op.n) ∧ w'.cell? ⟨b, o + a * 13 + 7, none⟩ = some (.int .i64 dx.err) ∧ w'.cell? ⟨b, o + a * 13 + 7 + 1, none⟩ = some (.int .i64 dx.cell.kind) ∧ w'.cell? ⟨b, o + a * 13 + 7 + 2, none⟩ = some (cv) ∧ w'.cell? ⟨b, o + a * 13 + 7 + 3, none⟩ = some (.int .i64 dx.cell.lo) ∧ w'.cell? ⟨b, o + a * 13 + 7 + 4, none⟩ = some (.int .i64 dx.cell.hi) ∧ w'.cell? ⟨b, o + a * 13 + 7 + 5, none⟩ = some (.int .i64 dx.cell.val)) ∧ (w'.cell? ⟨b, o + a' * 13, none⟩ = some (.int .i64 dy.txn) ∧ w'.cell? ⟨b, o + a' * 13 + 1, none⟩ = some (.int .i64 dy.op.act) ∧ w'.cell? ⟨b, o + a' * 13 + 1 + 1, none⟩ = some (.string dy.op.key) ∧ w'.cell? ⟨b, o + a' * 13 + 1 + 2, none⟩ = some (ev) ∧ w'.cell? ⟨b, o + a' * 13 + 1 + 3, none⟩ = some (.int .i64 dy.op.lo) ∧ w'.cell? ⟨b, o + a' * 13 + 1 + 4, none⟩ = some (.int .i64 dy.op.hi) ∧ w'.cell? ⟨b, o + a' * 13 + 1 + 5, none⟩ = some (.int .i64 dy.op.n) ∧ w'.cell? ⟨b, o + a' * 13 + 7, none⟩ = some (.int .i64 dy.err) ∧ w'.cell? ⟨b, o + a' * 13 + 7 + 1, none⟩ = some (.int .i64 dy.cell.kind) ∧ w'.cell? ⟨b, o + a' * 13 + 7 + 2, none⟩ = some (fv) ∧ w'.cell? ⟨b, o + a' * 13 + 7 + 3, none⟩ = some (.int .i64 dy.cell.lo) ∧ w'.cell? ⟨b, o + a' * 13 + 7 + 4, none⟩ = some (.int .i64 dy.cell.hi) ∧ w'.cell? ⟨b, o + a' * 13 + 7 + 5, none⟩ = some (.int .i64 dy.cell.val)))
                  (first | exact ⟨(HRA.out _ jS').1, (HRA.out _ jS').2.1, (HRA.out _ jS').2.2, HR1.out _ jD', HR2.out _ jD'⟩ | exact ⟨(HRA.out _ jS).1, (HRA.out _ jS).2.1, (HRA.out _ jS).2.2, HR1.out _ jD, HR2.out _ jD⟩)
                  (first | (go_at_call 29; refine HCC.out.mono ?_; rintro e w3 ⟨rfl, hb3⟩; have jD' := jD.below hb3 (by omega); have jS' := jS.via hz1 hb3))
                all_goals go_wp2
                rw [Exit.noGoto_ret]
                refine bodyPost_ret (results_tmp3 rfl _ _ _) rfl ?_
                exact ⟨jS'.b, .inr ⟨HALL.out, .inl ⟨HMID.out.stop HWF.out HP.out.2.2 HP'.out.2.2 hcom, rfl⟩⟩⟩
              · rw [hcom] at hcc
                have HCC := hide hcc
                clear hcc hst hst2 hD
                go_region_held3 (fun w' => w'.cell? ⟨S + 1 + 1, 0, none⟩ = some (.slice (some ⟨S + 1, 0, none⟩) k k) ∧ w'.cell? ⟨S + 1, j, none⟩ = some (.int .i64 a) ∧ w'.cell? ⟨S + 1, j + 1, none⟩ = some (.int .i64 a') ∧ (w'.cell? ⟨b, o + a * 13, none⟩ = some (.int .i64 dx.txn) ∧ w'.cell? ⟨b, o + a * 13 + 1, none⟩ = some (.int .i64 dx.op.act) ∧ w'.cell? ⟨b, o + a * 13 + 1 + 1, none⟩ = some (.string dx.op.key) ∧ w'.cell? ⟨b, o + a * 13 + 1 + 2, none⟩ = some (dv) ∧ w'.cell? ⟨b, o + a * 13 + 1 + 3, none⟩ = some (.int .i64 dx.op.lo) ∧ w'.cell? ⟨b, o + a * 13 + 1 + 4, none⟩ = some (.int .i64 dx.op.hi) ∧ w'.cell? ⟨b, o + a * 13 + 1 + 5, none⟩ = some (.int .i64 dx.op.n) ∧ w'.cell? ⟨b, o + a * 13 + 7, none⟩ = some (.int .i64 dx.err) ∧ w'.cell? ⟨b, o + a * 13 + 7 + 1, none⟩ = some (.int .i64 dx.cell.kind) ∧ w'.cell? ⟨b, o + a * 13 + 7 + 2, none⟩ = some (cv) ∧ w'.cell? ⟨b, o + a * 13 + 7 + 3, none⟩ = some (.int .i64 dx.cell.lo) ∧ w'.cell? ⟨b, o + a * 13 + 7 + 4, none⟩ = some (.int .i64 dx.cell.hi) ∧ w'.cell? ⟨b, o + a * 13 + 7 + 5, none⟩ = some (.int .i64 dx.cell.val)) ∧ (w'.cell? ⟨b, o + a' * 13, none⟩ = some (.int .i64 dy.txn) ∧ w'.cell? ⟨b, o + a' * 13 + 1, none⟩ = some (.int .i64 dy.op.act) ∧ w'.cell? ⟨b, o + a' * 13 + 1 + 1, none⟩ = some (.string dy.op.key) ∧ w'.cell? ⟨b, o + a' * 13 + 1 + 2, none⟩ = some (ev) ∧ w'.cell? ⟨b, o + a' * 13 + 1 + 3, none⟩ = some (.int .i64 dy.op.lo) ∧ w'.cell? ⟨b, o + a' * 13 + 1 + 4, none⟩ = some (.int .i64 dy.op.hi) ∧ w'.cell? ⟨b, o + a' * 13 + 1 + 5, none⟩ = some (.int .i64 dy.op.n) ∧ w'.cell? ⟨b, o + a' * 13 + 7, none⟩ = some (.int .i64 dy.err) ∧ w'.cell? ⟨b, o + a' * 13 + 7 + 1, none⟩ = some (.int .i64 dy.cell.kind) ∧ w'.cell? ⟨b, o + a' * 13 + 7 + 2, none⟩ = some (fv) ∧ w'.cell? ⟨b, o + a' * 13 + 7 + 3, none⟩ = some (.int .i64 dy.cell.lo) ∧ w'.cell? ⟨b, o + a' * 13 + 7 + 4, none⟩ = some (.int .i64 dy.cell.hi) ∧ w'.cell? ⟨b, o + a' * 13 + 7 + 5, none⟩ = some (.int .i64 dy.cell.val)))
                  (first | exact ⟨(HRA.out _ jS').1, (HRA.out _ jS').2.1, (HRA.out _ jS').2.2, HR1.out _ jD', HR2.out _ jD'⟩ | exact ⟨(HRA.out _ jS).1, (HRA.out _ jS).2.1, (HRA.out _ jS).2.2, HR1.out _ jD, HR2.out _ jD⟩)
                  (first | (go_at_call 29; refine HCC.out.mono ?_; rintro e w3 ⟨rfl, hb3⟩; have jD' := jD.below hb3 (by omega); have jS' := jS.via hz1 hb3))
                all_goals go_wp2
                obtain ⟨f1, f2, f3⟩ := HRA.out _ jS'
                have f4 : w3.frozen? ⟨S + 1, j, none⟩ = false := jS'.kA.frozen _
                have f5 : w3.frozen? ⟨S + 1, j + 1, none⟩ = false := jS'.kA.frozen _
                go_region
                clear s1 s2 s3 f1 f2 f3 f4 f5
                go_wp2
                all_goals
                  obtain ⟨hm5, hi5⟩ := HMID.out.step HWF.out HP.out.2.2 HP'.out.2.2 hcom
                  have hst5 := ord_swap jS' hgz hz1 HP.out.1 HP'.out.1 HAT.out.1 hlt
                  go_roundg (invs ((swp cur j).map (rank zs)) * (k + 2) + (k - (j - 1)))
                  case measure => rw [HG.out, ← hi5, Nat.succ_mul]; omega
                  case rel => exact ⟨swp cur j, swp ps j, sw + 1, j - 1, by go_num, val_int (by omega), by omega, HAT.out.swp hlt, hst5, hm5, sorted_swp HSOR.out, rfl⟩
            · have hwb : decide (rank zs y < rank zs x) = false := by simpa using hwr
              rw [hwb] at HW
              go_wp2_with (go_at_call 28; refine HW.out.mono ?_; rintro e w2 ⟨rfl, hq⟩)
              have hst2 : OSt w k (xs.map (rank zs)) gR S (fun t => .int .i64 (ps.getD t 0 : Nat)) w2 := by obtain ⟨q, rfl⟩ := hq; exact hst.drewN q
              go_roundg (invs (cur.map (rank zs)) * (k + 2) + (k - (j + 1)))
              case measure => rw [HG.out]; omega
              case rel =>
                refine ⟨cur, ps, sw, j + 1, rfl, by go_num, by omega, HAT.out, hst2, HMID.out, fun t ht1 ht2 => ?_, rfl⟩
                by_cases htj : t = j
                · subst htj
                  obtain ⟨_, e1⟩ := List.getElem?_eq_some_iff.1 HP.out.2.2
                  obtain ⟨_, e2⟩ := List.getElem?_eq_some_iff.1 HP'.out.2.2
                  simp only [List.getElem_map, e1, e2]
                  omega
                · exact HSOR.out t ht1 (by omega)
          · have hwn : wrg (cur.map (rank zs)) = none := wrg_all (fun t ht1 => HSOR.out t ht1 (by have := HAT.out.2.1; simp at ht1; omega))
            obtain ⟨h1, h2, h3⟩ := HMID.out.done hwn
            have H123 := hide (And.intro h1 (And.intro h2 h3))
            clear h1 h2 h3 hwn
            obtain ⟨i0, hi, hzz0, hzz1, hzz2⟩ := info_parts info_did
            have hmk2 := run_make_rowN (P := Tryz.prog) 39 38 i0 _ Tryz.underlying39 hi hzz0 .i64 .i64 k k (Nat.le_refl _) (by rw [hzz2]; omega) (by omega)
            rw [hzz1] at hmk2
            have hzS : S + 1 + 1 < wr.heap.size := hst.kX.lt
            have hdec : decide ((j : Int) + 1 < (k : Int)) = false := by simp; omega
            have hT : TSt 38 k wr.heap.size 0 cur [] (wr.alloc (.cells (madeCells (Value.cells (.agg didZ)) (k * 13)) 38)) := ⟨rfl, by simp, ⟨_, Blk.new _ _ _, made_size k, fun q u hu => by simp at hu⟩, fun y hy => by cases hy⟩
            have hst3 := hst.via (w' := wr.alloc (.cells (madeCells (Value.cells (.agg didZ)) (k * 13)) 38)) hz1 ((Below.refl _ _).alloc (Nat.le_refl _) _)
            go_wp2
            refine genT (R := fun W => Code.wp _ _ _ _ W) hst3 hT ?_
            clear hst3 hT hmk2 hmk hst e1
            intro W4 hst hT
            generalize hgt : wr.heap.size = T at *
            clear hgt
            go_loopw [96] (fun i W => ∃ (t : Nat) (done : List DidV), t ≤ k ∧ i = .int .i64 t ∧ OSt w k (xs.map (rank zs)) gR S (fun t => .int .i64 (ps.getD t 0 : Nat)) W ∧ TSt 38 k T t cur done W) (fun i _ => k - (intOf i).toNat)
            case atStart => exact ⟨0, [], Nat.zero_le _, rfl, hst, hT⟩
            case round =>
              obtain ⟨t, done, htk, rfl, hst, hT⟩ := hrel
              by_cases hlt2 : t < k
              · obtain ⟨a, x, hpa, hak, hxa, hct⟩ := HAT.out.2.2 t hlt2
                have e2 : wr.cell? ⟨S + 1, t, none⟩ = some (.int .i64 a) := by have := hst.kA.cell (i := t) (by omega); simpa [List.getD, hpa] using this
                have hD := h.below hst.b hB
                obtain ⟨b, o, x', rfl, hb, hxa', hok, hc1⟩ := hD.at_ hak
                obtain rfl : x = x' := by rw [hxa] at hxa'; injection hxa'
                obtain ⟨r0, r1, r2, r3, r4, r5, r6, r7, r8, r9, r10, r11, r12⟩ := hD.row hxa
                have hdo := didOf_any x B wr (by have := hst.b.size; omega) hok (HLEN.out x (List.mem_of_getElem? hxa)).1 (HLEN.out x (List.mem_of_getElem? hxa)).2
                have HDO := hide hdo
                have HX := hide (And.intro hxa hct)
                have HT := hide hT
                clear hdo hxa hct hxa' hpa hc1 hok hT
                go_wp2_with fail
                refine HDO.out.mono ?_
                rintro e w5 ⟨y, rfl, hyd, hyok, hf1, hf2, hb5⟩
                have hst5 := hst.via hz1 hb5
                have hT5 := HT.out.step hlt2 HX.out.2 hb5 hyd hyok hf1 hf2
                have HT5 := hide hT5
                obtain ⟨cs, kT, hcs, _⟩ := HT.out.blk
                have k5 := Blk.via hb5 kT
                have hlt3 : t * 13 + 13 ≤ cs.size := by rw [hcs]; have := Nat.mul_le_mul_right 13 (show t + 1 ≤ k from hlt2); omega
                have f13 := k5.frozen
                have f0 : w5.cell? ⟨T, t * 13, none⟩ = some (cs.getD (t * 13 + 0) undef) := tcell k5 (by omega)
                have f1 : w5.cell? ⟨T, t * 13 + 1, none⟩ = some (cs.getD (t * 13 + 1) undef) := tcell k5 (by omega)
                have f2 : w5.cell? ⟨T, t * 13 + 2, none⟩ = some (cs.getD (t * 13 + 2) undef) := tcell k5 (by omega)
                have f3 : w5.cell? ⟨T, t * 13 + 3, none⟩ = some (cs.getD (t * 13 + 3) undef) := tcell k5 (by omega)
                have f4 : w5.cell? ⟨T, t * 13 + 4, none⟩ = some (cs.getD (t * 13 + 4) undef) := tcell k5 (by omega)
                have f5 : w5.cell? ⟨T, t * 13 + 5, none⟩ = some (cs.getD (t * 13 + 5) undef) := tcell k5 (by omega)
                have f6 : w5.cell? ⟨T, t * 13 + 6, none⟩ = some (cs.getD (t * 13 + 6) undef) := tcell k5 (by omega)
                have f7 : w5.cell? ⟨T, t * 13 + 7, none⟩ = some (cs.getD (t * 13 + 7) undef) := tcell k5 (by omega)
                have f8 : w5.cell? ⟨T, t * 13 + 8, none⟩ = some (cs.getD (t * 13 + 8) undef) := tcell k5 (by omega)
                have f9 : w5.cell? ⟨T, t * 13 + 9, none⟩ = some (cs.getD (t * 13 + 9) undef) := tcell k5 (by omega)
                have f10 : w5.cell? ⟨T, t * 13 + 10, none⟩ = some (cs.getD (t * 13 + 10) undef) := tcell k5 (by omega)
                have f11 : w5.cell? ⟨T, t * 13 + 11, none⟩ = some (cs.getD (t * 13 + 11) undef) := tcell k5 (by omega)
                have f12 : w5.cell? ⟨T, t * 13 + 12, none⟩ = some (cs.getD (t * 13 + 12) undef) := tcell k5 (by omega)
                have hTz : S + 2 < T := by
                  have := hzS
                  omega
                obtain ⟨dy, ev, fv⟩ := y
                obtain ⟨⟨A1, n1, m1, rfl, hr1⟩, ⟨A2, n2, m2, rfl, hr2⟩⟩ := hyok
                unfold didV
                dsimp only at *
                have HH := hide (And.intro hyd (And.intro hr1 hr2))
                clear hyd hr1 hr2 hT5 e2 r0 r1 r2 r3 r4 r5 r6 r7 r8 r9 r10 r11 r12 hlt3 hcs kT k5 hst
                go_wp2
                clear f0 f1 f2 f3 f4 f5 f6 f7 f8 f9 f10 f11 f12 f13
                go_roundw
                case rel => exact ⟨t + 1, _, by omega, by go_num, hst5.touch (putL_touch T (DidV.cells ⟨dy, .slice A1 n1 m1, .slice A2 n2 m2⟩) w5 w5 (t * 13) (Touch.refl _)) (by omega) hz1 (by omega), HT5.out⟩
                case measure => simp [intOf]; omega
              · go_wp2
                rw [Exit.noGoto_ret]
                refine bodyPost_ret (results_tmp3 rfl _ _ _) rfl ?_
                obtain ⟨h1, h2, h3⟩ := H123.out
                obtain rfl : t = k := by omega
                have htd := hT.eqd
                rw [List.take_of_length_le (by rw [HAT.out.2.1]; exact Nat.le_refl _)] at htd
                exact ⟨hst.b, .inr ⟨HALL.out, .inr ⟨cur, done, _, _, h1, htd, h3, by rw [h2]; rfl, hT.dids⟩⟩⟩
end Go.Proofs.YtkhpkclkjklccaaGreatDoor
