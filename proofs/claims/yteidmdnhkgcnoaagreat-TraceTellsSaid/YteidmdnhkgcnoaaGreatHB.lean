/-
  WALKS OF THE PROGRAM: hist.those: an iterator over the events that do one thing.
  WALKS OF THE PROGRAM: hist.Did.
-/
import Derived.Test.YteidmdnhkgcnoaaGreatProg
import Derived.Test.YteidmdnhkgcnoaaGreatMem
import Derived.RangeFuncNested
import Derived.RangeFuncBound
import Derived.RangeFuncCalls
import Derived.RangeFuncLeaves
import Derived.Shelf.Abstract
import Derived.Shelf.RegionOpen
import Derived.WalkKit
import Derived.OwnWalkIn
import Derived.TacticsInMore
import Derived.LoopNIn
import Derived.LoopIn
import Derived.Test.YteidmdnhkgcnoaaGreatPB
import Derived.RecoverIn
namespace Go.Proofs.YteidmdnhkgcnoaaGreat
open Go.RowKit Go.Shelf

attribute [local go_sem] Oper.semAt_some

/-- Below N1 all blocks but g lie as they lay, and so does every Event in memory. -/
structure KeepBut (N1 g : Nat) (W W' : World) : Prop where
  size : W.heap.size ≤ W'.heap.size
  block : ∀ q, q < N1 → q ≠ g → W'.heap[q]? = W.heap[q]?
  ev : ∀ (q : Nat) (cs : Array Value), W.heap[q]? = some (.cells cs 38 (0, 0)) → W'.heap[q]? = W.heap[q]?
theorem KeepBut.refl (N1 g : Nat) (W : World) : KeepBut N1 g W W := ⟨Nat.le_refl _, fun _ _ _ => rfl, fun _ _ _ => rfl⟩
theorem KeepBut.trans {N1 g : Nat} {A B C : World} (h : KeepBut N1 g A B) (k : KeepBut N1 g B C) : KeepBut N1 g A C := ⟨Nat.le_trans h.size k.size, fun q hq hg => (k.block q hq hg).trans (h.block q hq hg), fun q cs e => (k.ev q cs ((h.ev q cs e).trans e)).trans (h.ev q cs e)⟩
theorem KeepBut.blk {N1 g b : Nat} {W W' : World} {t : TypeId} {cs : Array Value} (h : KeepBut N1 g W W') (k : Blk W b t cs) (hb : b < N1) (hg : b ≠ g) : Blk W' b t cs := (h.block b hb hg).trans k
theorem KeepBut.evk {N1 g b : Nat} {W W' : World} {cs : Array Value} (h : KeepBut N1 g W W') (k : Blk W b 38 cs) : Blk W' b 38 cs := (h.ev b cs k).trans k
theorem KeepBut.of_below {N1 g : Nat} {W W' : World} (h : Below W.heap.size W W') (hC : N1 ≤ W.heap.size) : KeepBut N1 g W W' := ⟨h.size, fun q hq _ => h.block q (by omega), fun q _ e => h.block q (Array.getElem?_eq_some_iff.1 e).1⟩
theorem KeepBut.cell {N1 g i : Nat} {W : World} {t : TypeId} {cs : Array Value} (k : Blk W g t cs) (ht : t ≠ 38) (u : Value) : KeepBut N1 g W (W.setCell ⟨g, i, none⟩ u) :=
  ⟨by simp [World.setCell], fun q _ hq => Below.heap_setCell W ⟨g, i, none⟩ u q hq, fun q cs' e => Below.heap_setCell W ⟨g, i, none⟩ u q (by
    rintro rfl
    unfold Blk at k
    rw [k] at e
    injection e with e
    injection e with _ e
    exact ht e)⟩
theorem KeepBut.grown {N1 g : Nat} {W W' : World} {row : Option Nat} (hg : W.grownBy W' row) (hN : N1 ≤ W.heap.size) (hr : ∀ q, row = some q → N1 ≤ q) (ht : ∀ q, row = some q → ∃ cur t, W.heap[q]? = some (.cells cur t (0, 0)) ∧ t ≠ 38) : KeepBut N1 g W W' :=
  ⟨hg.size, fun q hq _ => hg.block q (by omega) (fun e => by have := hr q e.symm; omega), fun q cs e => hg.block q (Array.getElem?_eq_some_iff.1 e).1 (fun e2 => by
    obtain ⟨cur, t, e3, e4⟩ := ht q e2.symm
    rw [e] at e3
    injection e3 with e3
    injection e3 with _ e3
    exact e4 e3.symm)⟩
theorem KeepBut.evs {N1 g B n : Nat} {A : Option Addr} {xs : List EvV} {W W' : World} (h : KeepBut N1 g W W') (hE : Evs W B A n xs) (hB : B ≤ N1) (hg : B ≤ g) : Evs W' B A n xs := by
  have hk : ∀ p : Addr, p.block < B → W'.cell? p = W.cell? p := fun p hp => World.cell?_of_block (h.block p.block (by omega) (by omega))
  have hb : ∀ {v : Value} {bs : List UInt8}, BytesAt W B v bs → BytesAt W' B v bs := fun ⟨A', n', c', h1, h2, h3, h4, h5, h6⟩ => ⟨A', n', c', h1, h2, h3, h4, h5, h6.keep hk⟩
  exact ⟨hE.1, hE.2.1.keep hk, fun x hx => ⟨hb (hE.2.2 x hx).1, hb (hE.2.2 x hx).2⟩⟩

/-- An event of the list. -/
abbrev EvIn (xs : List EvV) := { x : EvV // x ∈ xs }
/-- Those that do one of qs, of the first k. -/
def thoseL (xs : List EvV) (qs : List Int) (k : Nat) : List (EvIn xs) := (List.range k).filterMap fun i => if h : i < xs.length then (if xs[i].d.act ∈ qs then some ⟨xs[i], List.getElem_mem h⟩ else none) else none
theorem thoseL_len (xs : List EvV) (qs : List Int) (k : Nat) : (thoseL xs qs k).length ≤ k := by
  unfold thoseL
  refine Nat.le_trans (List.length_filterMap_le _ _) ?_
  rw [List.length_range]
  exact Nat.le_refl _
theorem thoseL_snoc_yes {xs : List EvV} {qs : List Int} {k : Nat} {x : EvV} (h : xs[k]? = some x) (hq : x.d.act ∈ qs) : thoseL xs qs (k + 1) = thoseL xs qs k ++ [⟨x, List.mem_of_getElem? h⟩] := by
  obtain ⟨hk, e⟩ := List.getElem?_eq_some_iff.1 h
  unfold thoseL
  rw [List.range_succ, List.filterMap_append]
  subst e
  simp [hk, hq]
theorem thoseL_snoc_no {xs : List EvV} {qs : List Int} {k : Nat} {x : EvV} (h : xs[k]? = some x) (hq : x.d.act ∉ qs) : thoseL xs qs (k + 1) = thoseL xs qs k := by
  obtain ⟨hk, e⟩ := List.getElem?_eq_some_iff.1 h
  unfold thoseL
  rw [List.range_succ, List.filterMap_append]
  subst e
  simp [hk, hq]
theorem thoseL_map (xs : List EvV) (qs : List Int) (k : Nat) (hk : k ≤ xs.length) : (thoseL xs qs k).map (·.1) = (xs.take k).filter (fun x => decide (x.d.act ∈ qs)) := by
  induction k with
  | zero => simp [thoseL]
  | succ k ih =>
    have hx : xs[k]? = some (xs[k]'(by omega)) := List.getElem?_eq_getElem (by omega)
    have ih := ih (by omega)
    rw [List.take_succ_eq_append_getElem (by omega), List.filter_append, ← ih]
    by_cases hq : (xs[k]'(by omega)).d.act ∈ qs
    · rw [thoseL_snoc_yes hx hq]
      simp [hq]
    · rw [thoseL_snoc_no hx hq]
      simp [hq]

/-- What yield is handed. -/
def evArg (x : EvV) : Array Value := #[.agg #[.int .i64 x.d.act, .int .i64 x.d.client, .int .i64 x.d.txn, .int .i64 x.d.op.act, .string x.d.op.key, x.dv, .int .i64 x.d.op.lo, .int .i64 x.d.op.hi, .int .i64 x.d.op.n, .int .i64 x.d.err, .int .i64 x.d.cell.kind, x.cv, .int .i64 x.d.cell.lo, .int .i64 x.d.cell.hi, .int .i64 x.d.cell.val]]

set_option maxRecDepth 100000 in
set_option maxHeartbeats 4000000 in
/-- The iterator's closure. -/
theorem those1_in (F : Fence) (n : Nat) (hf : F.fn 60) (hro : F.round = none) (hn : 1 ≤ n) (l Bl Bd bd N1 g B m c nq cq : Nat) (A : Option Addr) (xs : List EvV) (qs : List Int) (J Jx : List (EvIn xs) → World → Prop)
    (hJ : ∀ pre W o, J pre W → J pre (W.alloc o))
    (hY : ∀ pre (x : EvIn xs) W, J pre W → pre.length < m → YieldAt F (n - 1) Tryz.prog l (evArg x.1) W fun e W' =>
      (e = .returned (.bool true) ∧ J (pre ++ [x]) W' ∧ KeepBut N1 g W W') ∨ (e = .returned (.bool false) ∧ Jx (pre ++ [x]) W'))
    (W : World) (hm : m ≤ 1000000) (hnq : nq = qs.length) (hq1 : nq ≤ 1000) (hnd : qs.Nodup) (hB : B ≤ N1) (hg : B ≤ g) (hN : N1 ≤ W.heap.size) (b2 : Bd < N1) (b3 : bd < N1) (g2 : Bd ≠ g) (g3 : bd ≠ g)
    (hBl : Blk W Bl 23 #[.slice A m c]) (hBd : Blk W Bd 24 #[.slice (some ⟨bd, 0, none⟩) nq cq]) (hbd : Blk W bd 3 (qs.map (Value.int .i64)).toArray) (hE : Evs W B A m xs) (h0 : J [] W) :
    CallsIn F n Tryz.prog 60 #[.func (.yield l) #[] #[], .pointer (some ⟨Bl, 0, none⟩), .pointer (some ⟨Bd, 0, none⟩)] W fun e W' => (∃ v, e = .returned v) ∧
      ((∃ ys, ys = thoseL xs qs m ∧ J ys W') ∨ (∃ pre, (∃ k, k ≤ m ∧ pre = thoseL xs qs k) ∧ Jx pre W')) := by
  have HL := hide hE.1
  have HQ := hide hnq
  have HND := hide hnd
  clear hnq hnd
  refine callsIn_of_wp Tryz.func60 rfl hf ?_ hro
  simp only [Tryz.ntmps60, List.size_toArray, List.length_cons, List.length_nil, Nat.reduceAdd, Nat.reduceSub, Array.replicate_succ, Array.replicate_zero, List.push_toArray, List.append_toArray, List.nil_append, List.cons_append]
  have q1 := hBl.cell 0
  gi_wp2
  gi_loopw [10] (fun i wr => ∃ k : Nat, k ≤ m ∧ i = .int .i64 k ∧ J (thoseL xs qs k) wr ∧ KeepBut N1 g W wr)
    (fun i _ => m - (intOf i).toNat)
  case atStart => exact ⟨0, Nat.zero_le _, rfl, h0, KeepBut.refl _ _ _⟩
  case round =>
    obtain ⟨k, hk, rfl, hJs, hnx⟩ := hrel
    by_cases hlt : k < m
    · have hE2 := hnx.evs hE hB hg
      obtain ⟨b, o, x, rfl, hb, hkx, hok, _⟩ := hE2.at_ hlt
      obtain ⟨c0, c1, c2, c3, c4, c5, c6, c7, c8, c9, c10, c11, c12, c13, c14⟩ := hE2.row hkx
      have HK := hide hkx
      have hsz := hnx.size
      have kd := (hnx.blk hBd b2 g2)
      have qd := kd.cell 0
      have s1 : (k : Int) < m := by omega
      have s2 : (0 : Int) ≤ k := by omega
      have hbz : b < wr.heap.size := by omega
      have z2 : Bd < wr.heap.size := by omega
      obtain ⟨d, dv, cv⟩ := x
      obtain ⟨⟨A1, n1, m1, rfl, p1⟩, ⟨A2, n2, m2, rfl, p2⟩⟩ := hok
      dsimp only at *
      clear p1 p2 hkx q1
      gi_wp2
      obtain ⟨wo, hwo⟩ : ∃ wo : World, wo = wr.alloc (.cells #[.int .i64 d.act, .int .i64 d.client, .int .i64 d.txn, .int .i64 d.op.act, .string d.op.key, .slice A1 n1 m1, .int .i64 d.op.lo, .int .i64 d.op.hi, .int .i64 d.op.n, .int .i64 d.err, .int .i64 d.cell.kind, .slice A2 n2 m2, .int .i64 d.cell.lo, .int .i64 d.cell.hi, .int .i64 d.cell.val] 38) := ⟨_, rfl⟩
      rw [← hwo]
      have kx : Blk wo wr.heap.size 38 _ := hwo ▸ Blk.new wr _ _
      have hko : KeepBut N1 g W wo := hnx.trans (hwo ▸ KeepBut.of_below ((Below.refl _ wr).alloc (Nat.le_refl _) _) (by omega))
      have hJo : J (thoseL xs qs k) wo := hwo ▸ hJ _ _ _ hJs
      clear hwo
      gi_loopw [16] (fun i wx => ∃ j : Nat, j ≤ nq ∧ i = .int .i64 j ∧ ((d.act ∉ qs.take j ∧ wx = wo) ∨ (d.act ∈ qs.take j ∧ J (thoseL xs qs (k + 1)) wx ∧ KeepBut N1 g W wx ∧ Blk wx wr.heap.size 38 #[.int .i64 d.act, .int .i64 d.client, .int .i64 d.txn, .int .i64 d.op.act, .string d.op.key, .slice A1 n1 m1, .int .i64 d.op.lo, .int .i64 d.op.hi, .int .i64 d.op.n, .int .i64 d.err, .int .i64 d.cell.kind, .slice A2 n2 m2, .int .i64 d.cell.lo, .int .i64 d.cell.hi, .int .i64 d.cell.val])))
        (fun i _ => nq - (intOf i).toNat)
      case atStart => exact ⟨0, Nat.zero_le _, rfl, .inl ⟨by simp, rfl⟩⟩
      case round =>
        obtain ⟨j, hj, rfl, hcase⟩ := hrel
        by_cases hjq : j < nq
        · obtain ⟨q, hq⟩ : ∃ q, qs[j]? = some q := ⟨_, List.getElem?_eq_getElem (by rw [← HQ.out]; exact hjq)⟩
          have s3 : (j : Int) < nq := by omega
          have s4 : (0 : Int) ≤ j := by omega
          have htk : qs.take (j + 1) = qs.take j ++ [q] := by
            obtain ⟨h1, h2⟩ := List.getElem?_eq_some_iff.1 hq
            rw [List.take_succ_eq_append_getElem h1, h2]
          rcases hcase with ⟨hno, rfl⟩ | ⟨hyes, hJ1, hk1, kx1⟩
          · have qx := kx.cell
            have kq := hko.blk hbd b3 g3
            have qq : wr.cell? ⟨bd, j, none⟩ = some (.int .i64 q) := by rw [kq.cell]; simp [hq]
            have z3 := kq.lt
            have HTK := hide htk
            have HNO := hide hno
            have HQQ := hide hq
            clear htk hno hq
            cases t1 : ((d.act : Int) == q)
            · gi_wp2
              refine ⟨fun _ h => (by cases h), ?_⟩
              gi_wp2
              go_roundw
              case rel =>
                refine ⟨j + 1, by omega, by go_num, .inl ⟨?_, by trivial⟩⟩
                rw [HTK.out, List.mem_append, List.mem_singleton]
                rintro (h | h)
                · exact HNO.out h
                · simp [h] at t1
              case measure => simp [intOf]; omega
            · have hin : d.act ∈ qs := by
                have : d.act = q := by simpa using t1
                rw [this]
                exact List.mem_of_getElem? HQQ.out
              have HS := hide (thoseL_snoc_yes (qs := qs) HK.out hin)
              obtain ⟨fn, tmps, assign, body, hy, hR⟩ := hY _ ⟨_, List.mem_of_getElem? HK.out⟩ _ hJo (Nat.lt_of_le_of_lt (thoseL_len _ _ _) hlt)
              dsimp only [evArg] at hy
              have HIN := hide hin
              clear hin
              gi_wp2
              refine hR.mono ?_
              rintro e W3 (⟨rfl, hJ3, hk3⟩ | ⟨rfl, hJx3⟩)
              · have kx3 := hk3.evk kx
                gi_wp2
                go_roundw
                case rel =>
                  refine ⟨j + 1, by omega, by go_num, .inr ⟨?_, by rw [HS.out]; exact hJ3, hko.trans hk3, kx3⟩⟩
                  rw [HTK.out, List.mem_append, List.mem_singleton]
                  exact .inr (by simpa using t1)
                case measure => simp [intOf]; omega
              · gi_wp2
                refine bodyPost_ret (results_none rfl _ _ _) rfl ?_
                exact ⟨⟨_, rfl⟩, .inr ⟨_, ⟨k + 1, by omega, HS.out.symm⟩, hJx3⟩⟩
          · have qx := kx1.cell
            have kq := hk1.blk hbd b3 g3
            have qq : wr.cell? ⟨bd, j, none⟩ = some (.int .i64 q) := by rw [kq.cell]; simp [hq]
            have z3 := kq.lt
            have zx := kx1.lt
            have t1 : ((d.act : Int) == q) = false := by
              rw [beq_eq_false_iff_ne]
              rintro rfl
              have h1 : (qs.take (j + 1)).Nodup := HND.out.sublist (List.take_sublist _ _)
              rw [htk, List.nodup_append] at h1
              exact h1.2.2 _ hyes _ (List.mem_singleton.2 rfl) rfl
            have HTK := hide htk
            have HYES := hide hyes
            clear htk hyes hq
            gi_wp2
            refine ⟨fun _ h => (by cases h), ?_⟩
            gi_wp2
            go_roundw
            case rel => exact ⟨j + 1, by omega, by go_num, .inr ⟨by rw [HTK.out, List.mem_append]; exact .inl HYES.out, hJ1, hk1, kx1⟩⟩
            case measure => simp [intOf]; omega
        · obtain rfl : j = nq := by omega
          rw [List.take_of_length_le (by have := HQ.out; omega)] at hcase
          have HC := hide hcase
          clear hcase
          gi_wp2
          go_roundw
          case rel =>
            rcases HC.out with ⟨hno, rfl⟩ | ⟨_, hJ1, hk1, _⟩
            · exact ⟨k + 1, by omega, by go_num, by rw [thoseL_snoc_no HK.out hno]; exact hJo, hko⟩
            · exact ⟨k + 1, by omega, by go_num, hJ1, hk1⟩
          case measure => simp [intOf]; omega
    · obtain rfl : k = m := by omega
      gi_wp2
      go_end0
      exact ⟨⟨_, rfl⟩, .inl ⟨_, rfl, hJs⟩⟩

theorem those_in (F : Fence) (n : Nat) (hf : F.fn 46) (hro : F.round = none) (A D : Option Addr) (m c k d : Nat) (w : World) :
    CallsIn F n Tryz.prog 46 #[.slice A m c, .slice D k d] w fun e w' => e = .returned (.func (.func 60) #[] #[.pointer (some ⟨w.heap.size, 0, none⟩), .pointer (some ⟨w.heap.size + 1, 0, none⟩)]) ∧ w' = (w.alloc (.cells #[.slice A m c] 23)).alloc (.cells #[.slice D k d] 24) := by
  refine callsIn_of_wp Tryz.func46 rfl hf ?_ hro
  simp only [Tryz.ntmps46, List.size_toArray, List.length_cons, List.length_nil, Nat.reduceAdd, Nat.reduceSub, Array.replicate_succ, Array.replicate_zero, List.push_toArray, List.append_toArray, List.nil_append, List.cons_append]
  gi_wp2
  go_ret
  exact ⟨rfl, rfl⟩
/-- The iterator's word: all that do q, in order; or the first of them. -/
theorem those_stops (F : Fence) (n : Nat) (hf : F.fn 60) (hro : F.round = none) (hn : 1 ≤ n) (Bl Bd bd N1 g B m c nq cq : Nat) (A : Option Addr) (xs : List EvV) (qs : List Int) (w : World) (hm : m ≤ 1000000) (hnq : nq = qs.length) (hq1 : nq ≤ 1000) (hnd : qs.Nodup) (hB : B ≤ N1) (hg : B ≤ g) (hN : N1 ≤ w.heap.size) (b2 : Bd < N1) (b3 : bd < N1) (g2 : Bd ≠ g) (g3 : bd ≠ g)
    (hBl : Blk w Bl 23 #[.slice A m c]) (hBd : Blk w Bd 24 #[.slice (some ⟨bd, 0, none⟩) nq cq]) (hbd : Blk w bd 3 (qs.map (Value.int .i64)).toArray) (hE : Evs w B A m xs) :
    SeqStopsK F n Tryz.prog 60 #[.pointer (some ⟨Bl, 0, none⟩), .pointer (some ⟨Bd, 0, none⟩)] (fun x : EvIn xs => evArg x.1) (KeepBut N1 g) (fun ys => ys = thoseL xs qs m) (fun pre => ∃ k, k ≤ m ∧ pre = thoseL xs qs k) m w := fun l J Jx W hW hJ _ hY h0 =>
  those1_in F n hf hro hn l Bl Bd bd N1 g B m c nq cq A xs qs J Jx (fun pre W o h => hJ pre W _ none h (World.grownBy_alloc W o none) (fun r e => by cases e)) hY W hm hnq hq1 hnd hB hg (Nat.le_trans hN hW.size) b2 b3 g2 g3 (Blk.via hW hBl) (Blk.via hW hBd) (Blk.via hW hbd) (hE.below hW (Nat.le_trans hB hN)) h0
end Go.Proofs.YteidmdnhkgcnoaaGreat
namespace Go.Proofs.YteidmdnhkgcnoaaGreat
open Go.RowKit Go.Shelf

attribute [local go_sem] Oper.semAt_some

/-- The deferred closure of a call that returns: nothing to recover. -/
theorem didCatch (F : Fence) (n : Nat) (hf : F.fn 53) (hro : F.round = none) (p : Addr) (w : World) :
    CallsDIn F n Tryz.prog 53 #[.pointer (some p)] .returning w fun e u' w' => e = .returned (.tuple #[]) ∧ u' = .returning ∧ w' = w := by
  refine callsDIn_of_wpSIn Tryz.func53 rfl hf (fun c₀ cs hu => ?_)
  apply wpSIn_seq
  apply wpSIn_region
  simp [wpOpsSIn, go_sem, recoverD, hu, Tryz.ntmps53, Exit.thenS]
  refine wpSIn_cond (t := false) (by simp [Act.eval, Array.replicate]) ?_
  simp only [Bool.false_eq_true, if_false]
  refine wpSIn_of_wpIn hro (wpIn_skip ?_)
  cases c₀
  simp_all [bodyPostS, results, Tryz.results53]

/-- A Did's data of an event. -/
def didOfEv (d : EvD) : DidD := ⟨d.txn, d.op, d.err, d.cell⟩
theorem gen5 {w : World} {c0 c1 c2 c3 c4 : Array Value} {t0 t1 t2 t3 t4 : TypeId} {R : World → Prop} (h : ∀ W, Blk W w.heap.size t0 c0 → Blk W (w.heap.size + 1) t1 c1 → Blk W (w.heap.size + 1 + 1) t2 c2 → Blk W (w.heap.size + 1 + 1 + 1) t3 c3 → Blk W (w.heap.size + 1 + 1 + 1 + 1) t4 c4 → Below w.heap.size w W → W.heap.size = w.heap.size + 5 → R W) :
    R (((((w.alloc (.cells c0 t0)).alloc (.cells c1 t1)).alloc (.cells c2 t2)).alloc (.cells c3 t3)).alloc (.cells c4 t4)) := by
  refine h _ (((((Blk.new w t0 c0).alloc _).alloc _).alloc _).alloc _) ?_ ?_ ?_ ?_ ?_ (by simp)
  · exact ((((by simpa using Blk.new (w.alloc (.cells c0 t0)) t1 c1 : Blk _ (w.heap.size + 1) t1 c1).alloc _).alloc _).alloc _)
  · exact (((by simpa using Blk.new ((w.alloc (.cells c0 t0)).alloc (.cells c1 t1)) t2 c2 : Blk _ (w.heap.size + 1 + 1) t2 c2).alloc _).alloc _)
  · exact ((by simpa using Blk.new (((w.alloc (.cells c0 t0)).alloc (.cells c1 t1)).alloc (.cells c2 t2)) t3 c3 : Blk _ (w.heap.size + 1 + 1 + 1) t3 c3).alloc _)
  · exact (by simpa using Blk.new ((((w.alloc (.cells c0 t0)).alloc (.cells c1 t1)).alloc (.cells c2 t2)).alloc (.cells c3 t3)) t4 c4 : Blk _ (w.heap.size + 1 + 1 + 1 + 1) t4 c4)
  · exact (((((Below.refl _ _).alloc (Nat.le_refl _) _).alloc (by simp) _).alloc (by simp; omega) _).alloc (by simp; omega) _).alloc (by simp; omega) _

set_option maxHeartbeats 400000 in
/-- bytes.Clone: the same bytes in memory of its own. -/
theorem Clone_own (v : Value) (bs : List UInt8) (B : Nat) (w : World) (hB : B ≤ w.heap.size) (hn : bs.length ≤ 1000000) (h : BytesAt w B v bs) :
    Calls Tryz.prog 34 #[v] w fun e w' => ∃ v', e = .returned v' ∧ OwnB w' w.heap.size v' bs ∧ Below w.heap.size w w' := by
  obtain ⟨A, n, c, rfl, hnc, hcm, hnl, hnil, hr⟩ := h
  obtain ⟨i0, hi, hz0, hz1, hz2⟩ := info_parts info_u8
  cases A with
  | none =>
    have hc0 := hnil rfl
    obtain rfl : n = 0 := by omega
    subst hc0
    obtain rfl : bs = [] := List.eq_nil_of_length_eq_zero hnl.symm
    clear hcm hnc hnil hnl hi
    have hq := fun w : World => Lib.run_eql_slice_nil (P := Tryz.prog) w 29 5 none 0 0 0 0 Tryz.underlying29
    go_enter Tryz.func34, Tryz.ntmps34
    go_wp2
    go_ret
    exact ⟨_, rfl, OwnB.nil _ _, Below.refl _ _⟩
  | some ad =>
    clear hcm hnc hnil
    have hq := fun w : World => Lib.run_eql_slice_nil (P := Tryz.prog) w 29 5 (some ad) n c 0 0 Tryz.underlying29
    go_enter Tryz.func34, Tryz.ntmps34
    have HL := hide hnl
    clear hnl
    go_wp2_with (at_builtin; refine wpList_append_any _ rfl _ _ _ rfl w.heap.size 5 i0 _ 1 1 Tryz.underlying29 hi hz0 hz1 hz2 rfl (by omega) _ 0 [] rfl ?c1 B (some ad) n c (bs.map byteV) rfl ?c2 ?c3 ?c4 ?c5 ?c6 ?_)
    case c1 => exact World.ownsRow_made w #[] 0 (Nat.le_refl _) (Nat.zero_le _) rfl
    case c2 => exact hr.alloc hB _
    case c3 => intro u hu; obtain ⟨b, _, rfl⟩ := List.mem_map.1 hu; rfl
    case c4 => have := HL.out; unfold maxLen; omega
    case c5 => have := HL.out; omega
    case c6 => simp
    intro v' w1 hown hg hat
    go_wp2
    go_ret
    have hb1 : Below w.heap.size w w1 := ((Below.refl _ _).alloc (Nat.le_refl _) _).grown hg (by simp) (fun k hk => by cases hk; exact Nat.le_refl _)
    refine ⟨_, rfl, ?_, hb1⟩
    unfold OwnB
    have := HL.out
    simpa [this] using hown

/-- A row of Dids of the call's own, their bytes of its own, too. -/
def DRow (W : World) (N0 : Nat) (v : Value) (done : List DidV) : Prop :=
  W.ownsRow N0 40 13 v done.length (done.flatMap DidV.cells) ∧ ∀ y ∈ done, OwnB W N0 y.dv y.d.op.data ∧ OwnB W N0 y.cv y.d.cell.data
theorem row_keep {W W' : World} {base n : Nat} {e : TypeId} {size : Nat} {v : Value} {xs : List Value} (h : W.ownsRow base e size v n xs) (hk : ∀ q, v.ownBlock = some q → W'.heap[q]? = W.heap[q]?) : W'.ownsRow base e size v n xs := by
  obtain ⟨h1, h2 | ⟨g, cap, cur, e, hg, hh, r⟩⟩ := h
  · exact ⟨h1, .inl h2⟩
  · exact ⟨h1, .inr ⟨g, cap, cur, e, hg, (hk g (by rw [e]; rfl)).trans hh, r⟩⟩
theorem row_obj {W : World} {base n : Nat} {e : TypeId} {size : Nat} {v : Value} {xs : List Value} (h : W.ownsRow base e size v n xs) {q : Nat} (hq : v.ownBlock = some q) : ∃ cur, W.heap[q]? = some (.cells cur e (0, 0)) := by
  obtain ⟨h1, ⟨rfl, h2⟩ | ⟨g, cap, cur, rfl, hg, hh, r⟩⟩ := h
  · cases hq
  · obtain rfl : g = q := by simpa [Value.ownBlock] using hq
    exact ⟨cur, hh⟩
/-- Kept where all its blocks are. -/
theorem DRow.keep {W W' : World} {N0 : Nat} {v : Value} {done : List DidV} (h : DRow W N0 v done) (hk : ∀ (q : Nat) (cur : Array Value) (t : TypeId), (t = 40 ∨ t = 5) → W.heap[q]? = some (.cells cur t (0, 0)) → W'.heap[q]? = W.heap[q]?) : DRow W' N0 v done := by
  refine ⟨row_keep h.1 (fun q hq => ?_), fun y hy => ⟨row_keep (h.2 y hy).1 (fun q hq => ?_), row_keep (h.2 y hy).2 (fun q hq => ?_)⟩⟩
  · obtain ⟨cur, e⟩ := row_obj h.1 hq
    exact hk q cur _ (.inl rfl) e
  · obtain ⟨cur, e⟩ := row_obj (h.2 y hy).1 hq
    exact hk q cur _ (.inr rfl) e
  · obtain ⟨cur, e⟩ := row_obj (h.2 y hy).2 hq
    exact hk q cur _ (.inr rfl) e
theorem DRow.via {W W' : World} {N0 : Nat} {v : Value} {done : List DidV} (h : DRow W N0 v done) (hb : Below W.heap.size W W') : DRow W' N0 v done :=
  h.keep fun q _ _ _ e => hb.block q (Array.getElem?_eq_some_iff.1 e).1
theorem DRow.set {W : World} {N0 g i : Nat} {v : Value} {done : List DidV} {t : TypeId} {cs : Array Value} (h : DRow W N0 v done) (k : Blk W g t cs) (h1 : t ≠ 40) (h2 : t ≠ 5) (u : Value) : DRow (W.setCell ⟨g, i, none⟩ u) N0 v done :=
  h.keep fun q _ t' ht e => Below.heap_setCell W ⟨g, i, none⟩ u q (fun e' => by
    have e'' : q = g := e'
    subst e''
    unfold Blk at k
    rw [k] at e
    injection e with e
    injection e with _ e
    rcases ht with rfl | rfl
    · exact h1 e
    · exact h2 e)

/-- What hist.Did holds between two rounds. -/
def DidI (w w1 : World) (xs : List EvV) (p : Int → Bool) (pre : List (EvIn xs)) (W : World) : Prop :=
  ∃ v done, Blk W (w.heap.size + 1) 25 #[v] ∧ DRow W w1.heap.size v done ∧ done.map DidV.d = (pre.filter (fun x => p x.1.d.txn)).map (fun x => didOfEv x.1.d) ∧ Below w.heap.size w W ∧ KeepBut w1.heap.size (w.heap.size + 1) w1 W
theorem nc_ne {W : World} {B : Nat} {row : Option Nat} (hr : ∀ r, row = some r → B ≤ r ∧ ∃ o : Obj, W.heap[r]? = some o ∧ o.isCells = false) {q : Nat} {cs : Array Value} {t : TypeId} {fz : Nat × Nat} (h : W.heap[q]? = some (.cells cs t fz)) : some q ≠ row := by
  intro e
  obtain ⟨_, o, ho, hc⟩ := hr q e.symm
  rw [h] at ho
  injection ho with ho
  subst ho
  cases hc
theorem didI_own (w w1 : World) (xs : List EvV) (p : Int → Bool) (hw : w.heap.size ≤ w1.heap.size) : OwnFrom w1.heap.size (DidI w w1 xs p) := by
  rintro s W W' row ⟨v, done, k1, k2, k3, k4, k5⟩ hg hr
  refine ⟨v, done, k1.grown hg (nc_ne hr k1), k2.keep (fun q _ _ _ e => hg.block q (Array.getElem?_eq_some_iff.1 e).1 (nc_ne hr e)), k3, k4.grown hg k4.size (fun q hq => by have := (hr q hq).1; omega), ?_⟩
  exact ⟨Nat.le_trans k5.size hg.size, fun q hq hne => (hg.block q (Nat.lt_of_lt_of_le hq k5.size) (fun e => by have := (hr q e.symm).1; omega)).trans (k5.block q hq hne), fun q cs e => (hg.block q (Array.getElem?_eq_some_iff.1 ((k5.ev q cs e).trans e)).1 (nc_ne hr ((k5.ev q cs e).trans e))).trans (k5.ev q cs e)⟩
end Go.Proofs.YteidmdnhkgcnoaaGreat
