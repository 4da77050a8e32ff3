/-
  WALKS OF THE PROGRAM: rec.Put (some bytes, with their number).
-/
import Derived.Test.YtnanlaefehaifaaGreatRS
import Derived.Test.YtnanlaefehaifaaGreatRR
import Derived.Test.YtnanlaefehaifaaGreatRI
namespace Go.Proofs.YtnanlaefehaifaaGreat
open Go.RowKit

theorem own_new {w : World} {g n c size : Nat} {base : Nat} {t : TypeId} {xs cur : List Value} (k : Blk w g t cur.toArray) (hb : base ≤ g) (hn : xs.length = n * size) (hc : n ≤ c) (hm : c ≤ maxLen) (hl : cur.length = c * size) (ht : cur.take (n * size) = xs) : w.ownsRow base t size (.slice (some ⟨g, 0, none⟩) n c) n xs :=
  ⟨hn, .inr ⟨g, c, _, rfl, hb, k, hc, hm, by simp [hl], by simpa using ht⟩⟩
theorem own_via {w w' : World} {base n size : Nat} {t : TypeId} {v : Value} {xs : List Value} (h : w.ownsRow base t size v n xs) (hb : Below w.heap.size w w') : w'.ownsRow base t size v n xs := row_keep h fun q hq => hb.block q (World.ownsRow.lt h q hq).2
theorem OwnB.other {w w' : World} {base b2 n s : Nat} {v v2 : Value} {bs : List UInt8} {t : TypeId} {xs : List Value} (h : OwnB w base v bs) (h2 : w.ownsRow b2 t s v2 n xs) (ht : t ≠ 5) (hg : w.grownBy w' v2.ownBlock) : OwnB w' base v bs := h.keep fun q hq => by
  obtain ⟨cur, hc⟩ := row_obj h hq
  refine hg.block q (h.lt q hq).2 (fun e => ?_)
  obtain ⟨cur2, hc2⟩ := row_obj h2 e.symm
  rw [hc] at hc2
  injection hc2 with hc2
  injection hc2 with _ h3
  exact ht h3.symm
theorem info_bytesR : (Tryz.prog.info? 33).map (fun i => (i.zero, i.size, i.bytes)) = some (some (.slice none 0 0), 1, 24) := by kernel_rfl
/-- The parts of a record: a row of one's own of rows of one's own. -/
def PO (W0 : World) (n tot : Nat) (v : Value) (W : World) : Prop := ∃ ps : List (Value × List UInt8), ps.length = n ∧ (allB ps).length = tot ∧ W.ownsRow W0.heap.size 33 1 v n (ps.map (·.1)) ∧ ∀ p ∈ ps, OwnB W W0.heap.size p.1 p.2
theorem PO.via {W0 W W' : World} {n tot : Nat} {v : Value} (h : PO W0 n tot v W) (hb : Below W.heap.size W W') : PO W0 n tot v W' := by
  obtain ⟨ps, h1, h2, h3, h4⟩ := h
  exact ⟨ps, h1, h2, own_via h3 hb, fun p hp => (h4 p hp).via hb⟩
/-- A list of bytes of the call's own, so many. -/
def SB (W0 : World) (n : Nat) (v : Value) (W : World) : Prop := ∃ (A : Option Addr) (c : Nat) (bs : List UInt8), v = .slice A n c ∧ bs.length = n ∧ OwnB W W0.heap.size v bs
theorem SB.via {W0 W W' : World} {n : Nat} {v : Value} (h : SB W0 n v W) (hb : Below W.heap.size W W') : SB W0 n v W' := by
  obtain ⟨A, c, bs, h1, h2, h3⟩ := h
  exact ⟨A, c, bs, h1, h2, h3.via hb⟩
theorem SB.of {W0 w w' : World} {n : Nat} {bs : List UInt8} {A : Option Addr} {c : Nat} (hn : n = bs.length) (h : OwnB w' w.heap.size (.slice A n c) bs) (hb : W0.heap.size ≤ w.heap.size) : SB W0 n (.slice A n c) w' := ⟨A, c, bs, rfl, hn.symm, h.low hb⟩
/-- One part more. -/
theorem PO.more {W0 W W' : World} {n tot k : Nat} {v v' x : Value} {ps : List (Value × List UInt8)} (h1 : ps.length = n) (h2 : (allB ps).length = tot) (h3 : W.ownsRow W0.heap.size 33 1 v n (ps.map (·.1))) (h4 : ∀ p ∈ ps, OwnB W W0.heap.size p.1 p.2) (hx : SB W0 k x W) (hown : W'.ownsRow W0.heap.size 33 1 v' (n + 1) (ps.map (·.1) ++ [x])) (hg : W.grownBy W' v.ownBlock) : PO W0 (n + 1) (tot + k) v' W' := by
  obtain ⟨A, c, bs, e, hl, ho⟩ := hx
  refine ⟨ps ++ [(x, bs)], by simp [h1], by simp [allB, ← h2, hl], by rw [List.map_append]; exact hown, fun p hp => ?_⟩
  rcases List.mem_append.1 hp with hp | hp
  · exact (h4 p hp).other h3 (by decide) hg
  · obtain rfl : p = (x, bs) := by simpa using hp
    exact ho.other h3 (by decide) hg
theorem PO.parts {W0 W : World} {n tot : Nat} {A : Option Addr} {c : Nat} (h : PO W0 n tot (.slice A n c) W) : ∃ ps : List (Value × List UInt8), (allB ps).length = tot ∧ Parts W W.heap.size A n ps := by
  obtain ⟨ps, h1, h2, h3, h4⟩ := h
  obtain ⟨A', c', e, _, _, _, hr, _⟩ := own_slice h3
  injection e with e1 e2 e3
  subst e1
  exact ⟨ps, h2, h1.symm, hr, fun p hp => (h4 p hp).bytes⟩
theorem PO.form {W0 W : World} {n tot : Nat} {v : Value} (h : PO W0 n tot v W) : ∃ A c, v = .slice A n c := by
  obtain ⟨ps, h1, h2, h3, h4⟩ := h
  obtain ⟨A', c', e, _⟩ := own_slice h3
  exact ⟨A', c', e⟩
/-- The first five parts. -/
theorem PO.five {W0 W : World} {g : Nat} {v0 v1 v2 v3 v4 : Value} (k : Blk W g 33 #[v0, v1, v2, v3, v4]) (hg : W0.heap.size ≤ g) (h0 : SB W0 1 v0 W) (h1 : SB W0 8 v1 W) (h2 : SB W0 8 v2 W) (h3 : SB W0 8 v3 W) (h4 : SB W0 1 v4 W) : PO W0 5 26 (.slice (some ⟨g, 0, none⟩) 5 5) W := by
  obtain ⟨_, _, b0, _, l0, o0⟩ := h0
  obtain ⟨_, _, b1, _, l1, o1⟩ := h1
  obtain ⟨_, _, b2, _, l2, o2⟩ := h2
  obtain ⟨_, _, b3, _, l3, o3⟩ := h3
  obtain ⟨_, _, b4, _, l4, o4⟩ := h4
  refine ⟨[(v0, b0), (v1, b1), (v2, b2), (v3, b3), (v4, b4)], rfl, by simp [allB, l0, l1, l2, l3, l4], own_new (cur := [v0, v1, v2, v3, v4]) k hg rfl (Nat.le_refl _) (by unfold maxLen; omega) rfl rfl, fun p hp => ?_⟩
  simp only [List.mem_cons, List.not_mem_nil, or_false] at hp
  rcases hp with rfl | rfl | rfl | rfl | rfl
  · exact o0
  · exact o1
  · exact o2
  · exact o3
  · exact o4
/-- What rec.Put gives: nothing, or a record's bytes. -/
def PutP (w : World) (x : RecV) : Ending → World → Prop := SomeB w fun n => (n = 0 ∧ ¬ plainR x) ∨ (6 ≤ n ∧ n ≤ 65537 ∧ okR x ∧ (plainR x → n = 33))
set_option maxHeartbeats 12800000 in
set_option maxRecDepth 100000 in
theorem recPut_any (x : RecV) (B : Nat) (w : World) (hs : RecSm x) (hB : B ≤ w.heap.size) (ha : RecOk w B x) :
    Calls Tryz.prog 47 #[recV x] w (PutP w x) := by
  have HC := hide (fun W (hb : Below w.heap.size w W) => recCheck_any x B W hs (Nat.le_trans hB hb.size) (ha.below hb hB))
  obtain ⟨hsP, hsPS, hsU⟩ := hs
  obtain ⟨⟨hsa, hok⟩, hu⟩ := ha
  have HU := hide (fun W (hb : Below w.heap.size w W) => undoPut_any x.undo B W hsU (Nat.le_trans hB hb.size) (hu.below hb hB))
  have HPP := hide (fun (p : PatV) W (hp : p ∈ x.pats) (hb : Below w.heap.size w W) => patPut_any p B W (hsPS p hp) (Nat.le_trans hB hb.size) ((hok p hp).below hb hB))
  have HSA := hide hsa
  have HOKP := hide hok
  obtain ⟨A, c, hpv, hc, hm, hnil, _⟩ := hsa
  obtain ⟨kd, tx, pr, nx, ps, pv, un⟩ := x
  dsimp only at *
  subst hpv
  obtain ⟨m, hm'⟩ : ∃ m, m = ps.length := ⟨_, rfl⟩
  have HML := hide hm'
  have HPL := hide (show plainR ⟨kd, tx, pr, nx, ps, .slice A ps.length c, un⟩ → m = 0 ∧ undoZ un = true from fun h => ⟨by rw [hm']; exact h.2.2.2.2.2.1, h.2.2.2.2.2.2⟩)
  have hl6 : m ≤ 6 := by omega
  obtain ⟨Post, hPost⟩ : ∃ Post, Post = PutP w ⟨kd, tx, pr, nx, ps, .slice A ps.length c, un⟩ := ⟨_, rfl⟩
  rw [← hPost]
  have HPO := hide hPost
  clear hPost hsU hu hok
  unfold recV at *
  dsimp only at *
  rw [← hm'] at HC ⊢
  clear hsP hsPS hc hm hnil
  have HM' := hide hm'
  clear hm'
  obtain ⟨yu1, yu2, yu3, yu4, ⟨d1, d2, d3, d4, d5⟩, yuv, yu7⟩ := un
  unfold undoV at *
  dsimp only at *
  have hb0 := fun o => (Below.refl w.heap.size w).alloc (Nat.le_refl _) o
  go_enter Tryz.func47, Tryz.ntmps47
  go_wp2_with fail
  refine (HC.out _ (hb0 _)).mono ?_
  rintro e w2 ⟨⟨rfl, hOK⟩ | ⟨rfl, hNP⟩, hb2⟩
  · have k2 := Blk.via hb2 (Blk.new w 41 _)
    replace hb2 := below_via (hb0 _) hb2 (by simp)
    have HOK := hide hOK
    have K := hide k2
    have l2 := k2.lt
    clear hOK k2
    go_upto_region 3 with (fail)
    refine wp_region_inv [fun v _ => v = .pointer (some ⟨w.heap.size, 0, none⟩), fun v _ => v = .int .i64 kd, fun v W => SB w 1 v W, fun v _ => v = .pointer (some ⟨w.heap.size, 1, none⟩), fun v _ => v = .int .i64 tx, fun v W => SB w 8 v W,
      fun v _ => v = .pointer (some ⟨w.heap.size, 2, none⟩), fun v _ => v = .int .i64 pr, fun v W => SB w 8 v W, fun v _ => v = .pointer (some ⟨w.heap.size, 3, none⟩), fun v _ => v = .int .i64 nx, fun v W => SB w 8 v W,
      fun v _ => v = .pointer (some ⟨w.heap.size, 4, none⟩), fun v _ => v = .slice A m c, fun v _ => v = .int .i64 (m : Nat), fun v W => SB w 1 v W, fun v W => PO w 5 26 v W, fun v W => PO w 5 26 v W] (by kernel_rfl) (by kernel_rfl) (by kernel_rfl) ?st ?steps ?fin
    case st =>
      intro i v W W' hb h
      match i with
      | 0 | 1 | 3 | 4 | 6 | 7 | 9 | 10 | 12 | 13 | 14 => exact h
      | 2 | 15 => exact SB.via h hb
      | 5 | 8 | 11 => exact SB.via h hb
      | 16 | 17 => exact PO.via h hb
      | (i + 18) => exact h
    case steps =>
      simp only [stepsI]
      refine ⟨?_, ?_, ?_, ?_, ?_, ?_, ?_, ?_, ?_, ?_, ?_, ?_, ?_, ?_, ?_, ?_, ?_, ?_, trivial⟩
      · intro f W hbW hdp
        simp only [fillF, Act.put, List.setIfInBounds_toArray, List.set_cons_succ, List.set_cons_zero]
        go_wp2
        exact ⟨rfl, _, rfl, rfl, Below.refl _ _⟩
      · intro f W hbW hdp
        have q : W.cell? ⟨w.heap.size, 0, none⟩ = some _ := (Blk.via hbW K.out).cell 0
        have e1 : f 0 = .pointer (some ⟨w.heap.size, 0, none⟩) := hdp ⟨0, .data⟩ (List.mem_filter.2 ⟨by simp, rfl⟩)
        simp only [fillF, Act.put, List.setIfInBounds_toArray, List.set_cons_succ, List.set_cons_zero, Nat.reduceAdd, e1]
        go_wp2
        exact ⟨rfl, _, rfl, rfl, Below.refl _ _⟩
      · intro f W hbW hdp
        have e1 : f 1 = .int .i64 kd := hdp ⟨1, .data⟩ (List.mem_filter.2 ⟨by simp, rfl⟩)
        simp only [fillF, Act.put, List.setIfInBounds_toArray, List.set_cons_succ, List.set_cons_zero, Nat.reduceAdd, e1]
        go_wp2_with fail
        refine (put_gives 1 kd W (by omega) (by omega)).mono ?_
        rintro e W6 ⟨A6, c6, rfl, hn6, ho6, _, hb6⟩
        have HS6 := hide (SB.of (W0 := w) hn6 ho6 (below_via hb2 hbW hb2.size).size)
        clear hn6 ho6
        go_wp2_with fail
        exact ⟨rfl, _, rfl, HS6.out, hb6⟩
      · intro f W hbW hdp
        simp only [fillF, Act.put, List.setIfInBounds_toArray, List.set_cons_succ, List.set_cons_zero]
        go_wp2
        exact ⟨rfl, _, rfl, rfl, Below.refl _ _⟩
      · intro f W hbW hdp
        have q : W.cell? ⟨w.heap.size, 1, none⟩ = some _ := (Blk.via hbW K.out).cell 1
        have e1 : f 3 = .pointer (some ⟨w.heap.size, 1, none⟩) := hdp ⟨3, .data⟩ (List.mem_filter.2 ⟨by simp, rfl⟩)
        simp only [fillF, Act.put, List.setIfInBounds_toArray, List.set_cons_succ, List.set_cons_zero, Nat.reduceAdd, e1]
        go_wp2
        exact ⟨rfl, _, rfl, rfl, Below.refl _ _⟩
      · intro f W hbW hdp
        have e1 : f 4 = .int .i64 tx := hdp ⟨4, .data⟩ (List.mem_filter.2 ⟨by simp, rfl⟩)
        simp only [fillF, Act.put, List.setIfInBounds_toArray, List.set_cons_succ, List.set_cons_zero, Nat.reduceAdd, e1]
        go_wp2_with fail
        refine (put_gives 8 tx W (by omega) (by omega)).mono ?_
        rintro e W6 ⟨A6, c6, rfl, hn6, ho6, _, hb6⟩
        have HS6 := hide (SB.of (W0 := w) hn6 ho6 (below_via hb2 hbW hb2.size).size)
        clear hn6 ho6
        go_wp2_with fail
        exact ⟨rfl, _, rfl, HS6.out, hb6⟩
      · intro f W hbW hdp
        simp only [fillF, Act.put, List.setIfInBounds_toArray, List.set_cons_succ, List.set_cons_zero]
        go_wp2
        exact ⟨rfl, _, rfl, rfl, Below.refl _ _⟩
      · intro f W hbW hdp
        have q : W.cell? ⟨w.heap.size, 2, none⟩ = some _ := (Blk.via hbW K.out).cell 2
        have e1 : f 6 = .pointer (some ⟨w.heap.size, 2, none⟩) := hdp ⟨6, .data⟩ (List.mem_filter.2 ⟨by simp, rfl⟩)
        simp only [fillF, Act.put, List.setIfInBounds_toArray, List.set_cons_succ, List.set_cons_zero, Nat.reduceAdd, e1]
        go_wp2
        exact ⟨rfl, _, rfl, rfl, Below.refl _ _⟩
      · intro f W hbW hdp
        have e1 : f 7 = .int .i64 pr := hdp ⟨7, .data⟩ (List.mem_filter.2 ⟨by simp, rfl⟩)
        simp only [fillF, Act.put, List.setIfInBounds_toArray, List.set_cons_succ, List.set_cons_zero, Nat.reduceAdd, e1]
        go_wp2_with fail
        refine (put_gives 8 pr W (by omega) (by omega)).mono ?_
        rintro e W6 ⟨A6, c6, rfl, hn6, ho6, _, hb6⟩
        have HS6 := hide (SB.of (W0 := w) hn6 ho6 (below_via hb2 hbW hb2.size).size)
        clear hn6 ho6
        go_wp2_with fail
        exact ⟨rfl, _, rfl, HS6.out, hb6⟩
      · intro f W hbW hdp
        simp only [fillF, Act.put, List.setIfInBounds_toArray, List.set_cons_succ, List.set_cons_zero]
        go_wp2
        exact ⟨rfl, _, rfl, rfl, Below.refl _ _⟩
      · intro f W hbW hdp
        have q : W.cell? ⟨w.heap.size, 3, none⟩ = some _ := (Blk.via hbW K.out).cell 3
        have e1 : f 9 = .pointer (some ⟨w.heap.size, 3, none⟩) := hdp ⟨9, .data⟩ (List.mem_filter.2 ⟨by simp, rfl⟩)
        simp only [fillF, Act.put, List.setIfInBounds_toArray, List.set_cons_succ, List.set_cons_zero, Nat.reduceAdd, e1]
        go_wp2
        exact ⟨rfl, _, rfl, rfl, Below.refl _ _⟩
      · intro f W hbW hdp
        have e1 : f 10 = .int .i64 nx := hdp ⟨10, .data⟩ (List.mem_filter.2 ⟨by simp, rfl⟩)
        simp only [fillF, Act.put, List.setIfInBounds_toArray, List.set_cons_succ, List.set_cons_zero, Nat.reduceAdd, e1]
        go_wp2_with fail
        refine (put_gives 8 nx W (by omega) (by omega)).mono ?_
        rintro e W6 ⟨A6, c6, rfl, hn6, ho6, _, hb6⟩
        have HS6 := hide (SB.of (W0 := w) hn6 ho6 (below_via hb2 hbW hb2.size).size)
        clear hn6 ho6
        go_wp2_with fail
        exact ⟨rfl, _, rfl, HS6.out, hb6⟩
      · intro f W hbW hdp
        simp only [fillF, Act.put, List.setIfInBounds_toArray, List.set_cons_succ, List.set_cons_zero]
        go_wp2
        exact ⟨rfl, _, rfl, rfl, Below.refl _ _⟩
      · intro f W hbW hdp
        have q : W.cell? ⟨w.heap.size, 4, none⟩ = some _ := (Blk.via hbW K.out).cell 4
        have e1 : f 12 = .pointer (some ⟨w.heap.size, 4, none⟩) := hdp ⟨12, .data⟩ (List.mem_filter.2 ⟨by simp, rfl⟩)
        simp only [fillF, Act.put, List.setIfInBounds_toArray, List.set_cons_succ, List.set_cons_zero, Nat.reduceAdd, e1]
        go_wp2
        exact ⟨rfl, _, rfl, rfl, Below.refl _ _⟩
      · intro f W hbW hdp
        have e1 : f 13 = .slice A m c := hdp ⟨13, .data⟩ (List.mem_filter.2 ⟨by simp, rfl⟩)
        simp only [fillF, Act.put, List.setIfInBounds_toArray, List.set_cons_succ, List.set_cons_zero, Nat.reduceAdd, e1]
        go_wp2
        exact ⟨rfl, _, rfl, rfl, Below.refl _ _⟩
      · intro f W hbW hdp
        have e1 : f 14 = .int .i64 (m : Nat) := hdp ⟨14, .data⟩ (List.mem_filter.2 ⟨by simp, rfl⟩)
        simp only [fillF, Act.put, List.setIfInBounds_toArray, List.set_cons_succ, List.set_cons_zero, Nat.reduceAdd, e1]
        go_wp2_with fail
        refine (put_gives 1 (m : Nat) W (by omega) (by omega)).mono ?_
        rintro e W6 ⟨A6, c6, rfl, hn6, ho6, _, hb6⟩
        have HS6 := hide (SB.of (W0 := w) hn6 ho6 (below_via hb2 hbW hb2.size).size)
        clear hn6 ho6
        go_wp2_with fail
        exact ⟨rfl, _, rfl, HS6.out, hb6⟩
      · intro f W hbW hdp
        have s0 : SB w 1 (f 2) W := hdp ⟨2, .data⟩ (List.mem_filter.2 ⟨by simp, rfl⟩)
        have s1 : SB w 8 (f 5) W := hdp ⟨5, .data⟩ (List.mem_filter.2 ⟨by simp, rfl⟩)
        have s2 : SB w 8 (f 8) W := hdp ⟨8, .data⟩ (List.mem_filter.2 ⟨by simp, rfl⟩)
        have s3 : SB w 8 (f 11) W := hdp ⟨11, .data⟩ (List.mem_filter.2 ⟨by simp, rfl⟩)
        have s4 : SB w 1 (f 15) W := hdp ⟨15, .data⟩ (List.mem_filter.2 ⟨by simp, rfl⟩)
        have hbw := (below_via hb2 hbW hb2.size).size
        have HF := hide (fun W' (hb : Below W.heap.size W W') (k : Blk W' W.heap.size 33 #[f 2, f 5, f 8, f 11, f 15]) => PO.five k hbw (s0.via hb) (s1.via hb) (s2.via hb) (s3.via hb) (s4.via hb))
        obtain ⟨_, _, _, h0, _⟩ := s0
        obtain ⟨_, _, _, h1, _⟩ := s1
        obtain ⟨_, _, _, h2, _⟩ := s2
        obtain ⟨_, _, _, h3, _⟩ := s3
        obtain ⟨_, _, _, h4, _⟩ := s4
        rw [h0, h1, h2, h3, h4] at HF
        simp only [fillF, Act.put, List.setIfInBounds_toArray, List.set_cons_succ, List.set_cons_zero, Nat.reduceAdd, h0, h1, h2, h3, h4]
        clear h0 h1 h2 h3 h4
        go_wp2
        exact ⟨rfl, _, rfl, HF.out _ ((Below.refl _ _).alloc (Nat.le_refl _) _) (Blk.new _ _ _), (Below.refl _ _).alloc (Nat.le_refl _) _⟩
      · intro f W hbW hdp
        have s0 : PO w 5 26 (f 16) W := hdp ⟨16, .data⟩ (List.mem_filter.2 ⟨by simp, rfl⟩)
        have HS := hide s0
        obtain ⟨A6, c6, h0⟩ := s0.form
        rw [h0] at HS
        simp only [fillF, Act.put, List.setIfInBounds_toArray, List.set_cons_succ, List.set_cons_zero, Nat.reduceAdd, h0]
        clear h0 s0
        go_wp2
        exact ⟨rfl, _, rfl, HS.out, Below.refl _ _⟩
    case fin =>
      intro f W3 hbW hA
      have hP5 : PO w 5 26 (f 17) W3 := hA 17 (by simp)
      have hb3 := below_via hb2 hbW hb2.size
      have k3 := Blk.via hbW K.out
      have HP5 := hide hP5
      obtain ⟨A5, c5, e17⟩ := hP5.form
      rw [e17] at HP5
      show wpList Tryz.prog #[] (Exit.then _ _) [] _ _
      simp only [fillF, Act.put, List.setIfInBounds_toArray, List.set_cons_succ, List.set_cons_zero, Nat.reduceAdd, e17]
      generalize f 0 = g0
      generalize f 1 = g1
      generalize f 2 = g2
      generalize f 3 = g3
      generalize f 4 = g4
      generalize f 5 = g5
      generalize f 6 = g6
      generalize f 7 = g7
      generalize f 8 = g8
      generalize f 9 = g9
      generalize f 10 = g10
      generalize f 11 = g11
      generalize f 12 = g12
      generalize f 13 = g13
      generalize f 14 = g14
      generalize f 15 = g15
      generalize f 16 = g16
      have p4 : W3.cell? ⟨w.heap.size, 4, none⟩ = some _ := k3.cell 4
      have l3 := k3.lt
      have K3 := hide k3
      clear hA e17 hP5 k3 hbW K
      go_wp2
      clear p4
      go_loopw [3, 30] (fun sv iv wr => ∃ (k tot : Nat), k ≤ m ∧ iv = .int .i64 k ∧ 26 ≤ tot ∧ tot ≤ 26 + 40000 * k ∧ PO w (5 + k) tot sv wr ∧ Blk wr w.heap.size 41 #[.int .i64 kd, .int .i64 tx, .int .i64 pr, .int .i64 nx, .slice A m c, .int .i64 yu1, .string yu2, .int .i64 yu3, .string yu4, .int .i64 d1, yuv, .int .i64 d3, .int .i64 d4, .int .i64 d5, .int .i64 yu7] ∧ Below w.heap.size w wr) (fun _ iv _ => m - (intOf iv).toNat)
      case atStart => exact ⟨0, 26, Nat.zero_le _, rfl, Nat.le_refl _, by omega, HP5.out, K3.out, hb3⟩
      case round =>
        obtain ⟨k, tot, hk, rfl, ht1, ht2, hpo, kb, hbw⟩ := hrel
        have hzb := hbw.size
        obtain ⟨A6, c6, rfl⟩ := hpo.form
        by_cases hlt : k < m
        · have hlt' : k < ps.length := by have := HML.out; omega
          obtain ⟨b, o, c', y, e0, hb, hx, _, _, hcell⟩ := SliceAt.at_ PatV.cells_length (by omega) (HSA.out.keep (w' := wr) (fun p hp => hbw.cell (by omega))) hlt'
          injection e0 with e1 e2 e3
          subst e1 e3
          have c0 : wr.cell? ⟨b, o + k * 3, none⟩ = some (.int .i64 y.page) := hcell 0 _ rfl
          have c1 : wr.cell? ⟨b, o + k * 3 + 1, none⟩ = some (.bool y.fresh) := hcell 1 _ rfl
          have c2 : wr.cell? ⟨b, o + k * 3 + 2, none⟩ = some y.rv := hcell 2 _ rfl
          have HY := hide (fun W (hb : Below w.heap.size w W) => (show Calls Tryz.prog 114 #[.slice none 0 0, .agg #[.int .i64 y.page, .bool y.fresh, y.rv]] W (SomeB W fun n => n ≤ 40000) from HPP.out y W (List.mem_of_getElem? hx) hb))
          have K := hide kb
          have HPO6 := hide hpo
          obtain ⟨⟨A1, c1', hrv, _⟩, _⟩ := (HOKP.out y (List.mem_of_getElem? hx) : Runs w B y.rv y.runs)
          rw [hrv] at c2 HY
          clear hcell hx kb hrv hpo
          go_wp2_with fail
          refine (HY.out _ (hbw.alloc hzb _)).mono ?_
          rintro e w7 ⟨bs7, hl7, A7, c7, rfl, _, ho7, _, hb7⟩
          obtain ⟨n7, hn7⟩ : ∃ n7, n7 = bs7.length := ⟨_, rfl⟩
          rw [← hn7] at hl7 ho7 ⊢
          have hbw7 := below_via (hbw.alloc hzb _) hb7 (by simp; omega)
          have HS7 := hide (SB.of (W0 := w) hn7 ho7 (hbw.alloc hzb _).size)
          have HPO7 := hide (PO.via (PO.via HPO6.out ((Below.refl _ _).alloc (Nat.le_refl _) _)) hb7)
          have K7 := hide (Blk.via hb7 (K.out.alloc _))
          clear hb7 ho7 hn7 HPO6 K
          go_wp2_with (at_builtin; refine heldG ?_)
          refine gen1 (R := fun W => HeldG (wpList _ _ _ _ _ W)) (fun W8 k8 hb8 hz8 => ?_)
          obtain ⟨qs, r1, r2, r3, r4⟩ := PO.via HPO7.out hb8
          have s8 := SB.via HS7.out hb8
          have b8 : Below w.heap.size w W8 := below_via hbw7 hb8 (hbw7).size
          have R3 := hide r3
          have HM8 := hide (fun (W' : World) (v' : Value) (hown : W'.ownsRow w.heap.size 33 1 v' (5 + k + 1) (qs.map (·.1) ++ [Value.slice A7 n7 c7])) (hg : W8.grownBy W' (Value.slice A6 (5 + k) c6).ownBlock) => PO.more r1 r2 r3 r4 s8 hown hg)
          have R4 := hide (fun (u : Value) (hu : u ∈ [Value.slice A7 n7 c7]) => show u.oneCell' = true by
            obtain ⟨_, _, _, e, _⟩ := s8
            rw [List.mem_singleton] at hu
            subst hu
            rw [e]
            rfl)
          obtain ⟨i0, hi, hz0, hz1, hz2⟩ := info_parts info_bytesR
          have b8z := b8.size
          refine unheldG ?_
          at_builtin
          refine wpList_append_any _ rfl _ _ _ rfl w.heap.size 33 i0 _ 1 24 Tryz.underlying66 hi hz0 hz1 hz2 rfl (by omega) _ (5 + k) _ rfl R3.out (W8.heap.size) _ 1 1 [Value.slice A7 n7 c7] rfl ((Reads.of_blk (size := 1) (n := 1) k8 rfl).more (by omega)) R4.out (by unfold maxLen; omega) (by omega) (by omega) ?_
          intro v9 w9 ho9 hg9 _
          have hb9 : Below w.heap.size w w9 := b8.grown hg9 b8z (fun q hq => (World.ownsRow.lt R3.out q hq).1)
          have hpo9 := HM8.out w9 v9 ho9 hg9
          have kb9 : Blk w9 w.heap.size 41 _ := (Blk.via hb8 K7.out).grown hg9 (fun e => by
            obtain ⟨cur, hc⟩ := row_obj R3.out e.symm
            exact absurd ((Blk.via hb8 K7.out).ne_ (show Blk W8 w.heap.size 33 cur from hc) (by decide) rfl) id)
          have KB9 := hide kb9
          have HPO9 := hide (show PO w (5 + (k + 1)) (tot + n7) v9 w9 from hpo9)
          clear kb9 hpo9 ho9 hg9 HM8 R4 r1 r2 r3 r4 s8 hi hz0 hz1 hz2 k8
          go_wp2
          go_roundw
          case rel => exact ⟨k + 1, tot + n7, by omega, by go_num, by omega, by omega, HPO9.out, KB9.out, hb9⟩
          case measure => simp [intOf]; omega
        · obtain rfl : k = m := by omega
          have p5 : wr.cell? ⟨w.heap.size, 5, none⟩ = some _ := kb.cell 5
          have p6 : wr.cell? ⟨w.heap.size, 6, none⟩ = some _ := kb.cell 6
          have p7 : wr.cell? ⟨w.heap.size, 7, none⟩ = some _ := kb.cell 7
          have p8 : wr.cell? ⟨w.heap.size, 8, none⟩ = some _ := kb.cell 8
          have p9 : wr.cell? ⟨w.heap.size, 9, none⟩ = some _ := kb.cell 9
          have p10 : wr.cell? ⟨w.heap.size, 10, none⟩ = some _ := kb.cell 10
          have p11 : wr.cell? ⟨w.heap.size, 11, none⟩ = some _ := kb.cell 11
          have p12 : wr.cell? ⟨w.heap.size, 12, none⟩ = some _ := kb.cell 12
          have p13 : wr.cell? ⟨w.heap.size, 13, none⟩ = some _ := kb.cell 13
          have p14 : wr.cell? ⟨w.heap.size, 14, none⟩ = some _ := kb.cell 14
          have l5 := kb.lt
          have HPO6 := hide hpo
          have HT := hide (show 26 ≤ tot ∧ tot ≤ 26 + 40000 * k ∧ (k = 0 → tot = 26) from ⟨ht1, ht2, fun h => by subst h; omega⟩)
          have ht3 : tot ≤ 300000 := by omega
          clear kb hpo ht1 ht2
          go_wp2_with fail
          refine (HU.out _ hbw).mono ?_
          rintro e w7 ⟨bs7, ⟨hl7, hz7⟩, A7, c7, rfl, _, ho7, _, hb7⟩
          obtain ⟨n7, hn7⟩ : ∃ n7, n7 = bs7.length := ⟨_, rfl⟩
          rw [← hn7] at hl7 hz7 ho7 ⊢
          have HZ7 := hide hz7
          have hbw7 := below_via hbw hb7 hzb
          have HS7 := hide (SB.of (W0 := w) hn7 ho7 hbw.size)
          have HPO7 := hide (PO.via HPO6.out hb7)
          clear hb7 ho7 hn7 hz7 HPO6 p5 p6 p7 p8 p9 p10 p11 p12 p13 p14
          go_wp2_with (at_builtin; refine heldG ?_)
          refine gen1 (R := fun W => HeldG (wpList _ _ _ _ _ W)) (fun W8 k8 hb8 hz8 => ?_)
          obtain ⟨qs, r1, r2, r3, r4⟩ := PO.via HPO7.out hb8
          have s8 := SB.via HS7.out hb8
          have b8 : Below w.heap.size w W8 := below_via hbw7 hb8 (hbw7).size
          have R3 := hide r3
          have HM8 := hide (fun (W' : World) (v' : Value) (hown : W'.ownsRow w.heap.size 33 1 v' (5 + k + 1) (qs.map (·.1) ++ [Value.slice A7 n7 c7])) (hg : W8.grownBy W' (Value.slice A6 (5 + k) c6).ownBlock) => PO.more r1 r2 r3 r4 s8 hown hg)
          have R4 := hide (fun (u : Value) (hu : u ∈ [Value.slice A7 n7 c7]) => show u.oneCell' = true by
            obtain ⟨_, _, _, e, _⟩ := s8
            rw [List.mem_singleton] at hu
            subst hu
            rw [e]
            rfl)
          obtain ⟨i0, hi, hz0, hz1, hz2⟩ := info_parts info_bytesR
          have b8z := b8.size
          refine unheldG ?_
          at_builtin
          refine wpList_append_any _ rfl _ _ _ rfl w.heap.size 33 i0 _ 1 24 Tryz.underlying66 hi hz0 hz1 hz2 rfl (by omega) _ (5 + k) _ rfl R3.out (W8.heap.size) _ 1 1 [Value.slice A7 n7 c7] rfl ((Reads.of_blk (size := 1) (n := 1) k8 rfl).more (by omega)) R4.out (by unfold maxLen; omega) (by omega) (by omega) ?_
          intro v9 w9 ho9 hg9 _
          have hb9 : Below w.heap.size w w9 := b8.grown hg9 b8z (fun q hq => (World.ownsRow.lt R3.out q hq).1)
          have hpo9 := HM8.out w9 v9 ho9 hg9
          obtain ⟨A9, c9, rfl⟩ := hpo9.form
          obtain ⟨qs9, ql9, hparts⟩ := hpo9.parts
          have HJ := hide (join_any A9 (5 + k + 1) c9 qs9 w9.heap.size w9 (Nat.le_refl _) (by omega) (by omega) hparts)
          rw [ql9] at HJ
          generalize allB qs9 = bs9 at *
          have HL9 := hide ql9
          have hz9 := hb9.size
          clear hpo9 ho9 hg9 HM8 R4 r1 r2 r3 r4 s8 hi hz0 hz1 hz2 k8 ql9 hparts R3 b8
          go_wp2_with fail
          refine HJ.out.mono ?_
          rintro e w10 ⟨A10, c10, rfl, hn10, ho10, hr10, hb10⟩
          have hb10' := below_via hb9 hb10 hz9
          have HSL := hide (seal_any A10 (tot + n7) c10 bs9 w10.heap.size w10 (Nat.le_refl _) (by omega) hn10 hr10)
          clear ho10 hr10 hn10 hb10
          go_wp2_with fail
          refine HSL.out.mono ?_
          rintro e w11 ⟨A11, c11, rfl, hn11, ho11, hr11, hb11⟩
          generalize beB 4 (moreD 0 bs9 : Nat) ++ bs9 = bs11 at *
          have hb11' := below_via hb10' hb11 hb10'.size
          obtain ⟨n11, hn11'⟩ : ∃ n11, n11 = 4 + (tot + n7) := ⟨_, rfl⟩
          rw [← hn11'] at hn11 ho11 hr11 ⊢
          have hl11 : n11 ≤ 400000 := by omega
          have HN11 := hide hn11'
          have HO11 := hide ho11.bytes
          have HN11b := hide hn11
          clear hn11' hn11 hr11 hb11
          by_cases hbig : 65535 < n11
          · go_wp2
            rw [HPO.out]
            refine ⟨[], .inl ⟨rfl, fun h => ?_⟩, none, 0, rfl, rfl, OwnB.nil _ _, Reads.none_, hb11'⟩
            have h1 := HPL.out h
            have h2 := HT.out.2.2 h1.1
            have h3 := HZ7.out h1.2
            have h4 := HN11.out
            omega
          · go_wp2_with fail
            refine (put_gives 2 (n11 : Nat) w11 (by omega) (by omega)).mono ?_
            rintro e w12 ⟨A12, c12, rfl, hn12, ho12, hr12, hb12⟩
            have hb12' := below_via hb11' hb12 hb11'.size
            have HO12 := hide ho12.bytes
            have HO11' := hide ((HO11.out.below hb12 (Nat.le_refl _)).more hb12.size)
            clear hn12 ho12 hr12 ho11 hb12
            go_wp2_with fail
            refine gen1 (R := fun W => Calls Tryz.prog 117 _ W _) (fun W13 k13 hb13 hz13 => ?_)
            refine (join_any _ 2 2 [(.slice A12 2 c12, beB 2 (n11 : Nat)), (.slice A11 n11 c11, bs11)] W13.heap.size W13 (Nat.le_refl _) (by omega) (by have := HN11b.out; simp only [allB, List.flatMap_cons, List.flatMap_nil, List.length_append, List.length_nil, beB_length]; omega) ⟨rfl, (Reads.of_blk (size := 1) (n := 2) k13 rfl).more (by omega), ?_⟩).mono ?_
            · intro p hp
              simp only [List.mem_cons, List.not_mem_nil, or_false] at hp
              rcases hp with rfl | rfl
              · exact (HO12.out.below hb13 (Nat.le_refl _)).more (by omega)
              · exact (HO11'.out.below hb13 (Nat.le_refl _)).more (by omega)
            · have hl14 : (allB [((.slice A12 2 c12 : Value), beB 2 (n11 : Nat)), (.slice A11 n11 c11, bs11)]).length = 2 + n11 := by
                have := HN11b.out
                simp only [allB, List.flatMap_cons, List.flatMap_nil, List.length_append, List.length_nil, beB_length]
                omega
              generalize allB _ = bs14 at hl14
              rw [hl14]
              rintro e w14 ⟨A14, c14, rfl, _, ho14, hr14, hb14⟩
              have hbE := below_via (below_via hb12' hb13 hb12'.size) hb14 (by have := hb12'.size; omega)
              have HO14 := hide ho14
              have HR14 := hide hr14
              have HL14 := hide hl14
              have hzE : w.heap.size ≤ W13.heap.size := by have := hb12'.size; omega
              clear ho14 hr14 hl14 hb14
              go_wp2
              rw [HPO.out]
              refine ⟨bs14, ?_, A14, c14, by rw [HL14.out]; rfl, rfl, by rw [HL14.out]; exact HO14.out.low hzE, by rw [HL14.out]; exact HR14.out, hbE⟩
              have h4 := HN11.out
              have h5 := HT.out
              rw [HL14.out]
              refine .inr ⟨by omega, by omega, HOK.out, fun h => ?_⟩
              have h1 := HPL.out h
              have h2 := h5.2.2 h1.1
              have h3 := HZ7.out h1.2
              omega
  · replace hb2 := below_via (hb0 _) hb2 (by simp)
    have HNP := hide hNP
    clear hNP
    go_wp2
    rw [HPO.out]
    exact ⟨[], .inl ⟨rfl, HNP.out⟩, none, 0, rfl, rfl, OwnB.nil _ _, Reads.none_, hb2⟩
end Go.Proofs.YtnanlaefehaifaaGreat
