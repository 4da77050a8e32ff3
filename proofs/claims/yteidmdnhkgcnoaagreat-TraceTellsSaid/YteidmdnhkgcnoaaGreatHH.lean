/-
  serial.Check: the plain law of P34.3, and the program's walk.
  WALKS OF THE REFERENCE: ref33.Did, ref34.Did, ref34.Check.
-/
import Derived.Test.YteidmdnhkgcnoaaGreatHE
import Derived.Test.YteidmdnhkgcnoaaGreatPQ
import Derived.Test.YteidmdnhkgcnoaaGreatWI
import Derived.Test.YteidmdnhkgcnoaaGreatMI
import Derived.Deep.RegionHeld3
namespace Go.Proofs.YteidmdnhkgcnoaaGreat
open Go.RowKit Go.Maps

/-- P34.3: what the committed did. -/
def allD (xs : List EvV) : List DidD := (xs.filter (fun x => x.d.act == 1 && decide (x.d.txn ∈ comL xs))).map (fun x => didOfEv x.d)
theorem allD_those (xs : List EvV) : ((thoseL xs [1] xs.length).filter (fun x => decide (x.1.d.txn ∈ comL xs))).map (fun x => didOfEv x.1.d) = allD xs := by
  have h := thoseL_map xs [1] xs.length (Nat.le_refl _)
  rw [List.take_length] at h
  unfold allD
  have e : (fun x : EvIn xs => didOfEv x.1.d) = (fun x : EvV => didOfEv x.d) ∘ (fun x : EvIn xs => x.1) := rfl
  rw [e, ← List.map_map]
  congr 1
  have e2 : ((thoseL xs [1] xs.length).filter (fun x => decide (x.1.d.txn ∈ comL xs))).map (fun x => x.1) = ((thoseL xs [1] xs.length).map (fun x => x.1)).filter (fun x => decide (x.d.txn ∈ comL xs)) := by
    rw [List.filter_map]; rfl
  rw [e2, h, List.filter_filter]
  congr 1
  funext x
  rw [Bool.and_comm]
  congr 1
  rw [Bool.eq_iff_iff]
  simp
theorem allD_mem {xs : List EvV} {d : DidD} (h : d ∈ allD xs) : ∃ x ∈ xs, d = didOfEv x.d := by
  obtain ⟨x, hx, rfl⟩ := List.mem_map.1 h
  exact ⟨x, (List.mem_filter.1 hx).1, rfl⟩
theorem allD_len (xs : List EvV) : (allD xs).length ≤ xs.length := by
  unfold allD
  rw [List.length_map]
  exact List.length_filter_le _ _
/-- P34.3: what the committed did, that counts. -/
def didD (xs : List EvV) : List DidD := (allD xs).filter countsD
theorem keep_map {l : List DidV} {K : List DidD} (h : l.map DidV.d = K) : (keepL l).map DidV.d = K.filter countsD := by
  subst h
  unfold keepL
  rw [List.filter_map]
  rfl

def rankD (zs : List Int) (d : DidD) : Int := plc zs d.txn
def comD (a b : DidD) : Bool := commute a.op b.op
theorem rank_mapD (zs : List Int) (xs : List DidV) : xs.map (rank zs) = (xs.map DidV.d).map (rankD zs) := by
  rw [List.map_map]; rfl
theorem ord_map (zs : List Int) : ∀ (f : Nat) (xs : List DidV), (ord comV (rank zs) f xs).map (List.map DidV.d) = ord comD (rankD zs) f (xs.map DidV.d)
  | 0, _ => rfl
  | f + 1, xs => by
    unfold ord
    rw [← rank_mapD]
    cases wrg (xs.map (rank zs)) with
    | none => rfl
    | some i =>
      simp only [List.getElem?_map]
      cases xs[i]? with
      | none => rfl
      | some a =>
        cases xs[i + 1]? with
        | none => rfl
        | some b =>
          simp only [Option.map_some]
          show Option.map _ (if comV a b = true then _ else none) = if comD a.d b.d = true then _ else none
          have e : comV a b = comD a.d b.d := rfl
          rw [e, ← swp_map]
          cases comD a.d b.d
          · rfl
          · exact ord_map zs f (swp xs i)
theorem ord_permD (zs : List Int) : ∀ (f : Nat) (l ys : List DidD), ord comD (rankD zs) f l = some ys → ys.Perm l
  | 0, l, ys, h => by
    simp only [ord, Option.some.injEq] at h
    subst h
    exact .refl _
  | f + 1, l, ys, h => by
    unfold ord at h
    split at h
    · injection h with h; subst h; exact .refl _
    · split at h
      · split at h
        · exact (ord_permD zs f _ ys h).trans (swp_perm _ _)
        · cases h
      · cases h
/-- P34.3: what is told. -/
def checkD (s : List PairD) (K : List DidD) (zs : List Int) : Int × Int :=
  if K.any (fun d => decide (rankD zs d < 0)) then (0, 1) else
  match ord comD (rankD zs) (invs (K.map (rankD zs))) K with
  | none => (0, 15)
  | some ys => if (replayD s ys).2 < ys.length then (0, 14) else ((invs (K.map (rankD zs)) : Nat), 0)
/-- Order's word, as data. -/
theorem OrdPost.data {w w' : World} {n : Nat} {xs : List DidV} {zs : List Int} {e : Ending} {K : List DidD} (h : OrdPost w n xs zs e w') (hK : xs.map DidV.d = K) :
    Below w.heap.size w w' ∧ ((K.any (fun d => decide (rankD zs d < 0)) = true ∧ e = .returned (.tuple #[.slice none 0 0, .int .i64 0, .int .i64 1])) ∨
      (K.any (fun d => decide (rankD zs d < 0)) = false ∧ ord comD (rankD zs) (invs (K.map (rankD zs))) K = none ∧ e = .returned (.tuple #[.slice none 0 0, .int .i64 0, .int .i64 15])) ∨
      (K.any (fun d => decide (rankD zs d < 0)) = false ∧ ∃ (ys' : List DidV) (A : Option Addr) (c : Nat), ord comD (rankD zs) (invs (K.map (rankD zs))) K = some (ys'.map DidV.d) ∧
        e = .returned (.tuple #[.slice A n c, .int .i64 (invs (K.map (rankD zs)) : Nat), .int .i64 0]) ∧ Dids w' w'.heap.size A n ys')) := by
  have hr : xs.map (rank zs) = K.map (rankD zs) := by rw [rank_mapD, hK]
  have hall : (∀ x ∈ xs, 0 ≤ rank zs x) → K.any (fun d => decide (rankD zs d < 0)) = false := fun hx => by
    rw [List.any_eq_false]
    intro d hd
    rw [← hK] at hd
    obtain ⟨x, hx', rfl⟩ := List.mem_map.1 hd
    have := hx x hx'
    have e : rank zs x = rankD zs x.d := rfl
    simp
    omega
  obtain ⟨hb, ⟨⟨x, hx, hlt⟩, he⟩ | ⟨ha, ⟨ho, he⟩ | ⟨ys, ys', A, c, ho, hy, hi, he, hD⟩⟩⟩ := h
  · refine ⟨hb, .inl ⟨?_, he⟩⟩
    rw [List.any_eq_true]
    exact ⟨x.d, by rw [← hK]; exact List.mem_map.2 ⟨x, hx, rfl⟩, decide_eq_true hlt⟩
  · refine ⟨hb, .inr (.inl ⟨hall ha, ?_, he⟩)⟩
    have := ord_map zs (invs (xs.map (rank zs))) xs
    rw [ho, hK, hr] at this
    exact this.symm
  · refine ⟨hb, .inr (.inr ⟨hall ha, ys', A, c, ?_, by rw [← hr]; exact he, hD⟩)⟩
    have := ord_map zs (invs (xs.map (rank zs))) xs
    rw [ho, hK, hr] at this
    rw [← this, hy]
    rfl
def ChkPost (s : List PairD) (K : List DidD) (zs : List Int) (w : World) (e : Ending) (w' : World) : Prop :=
  e = .returned (.tuple #[.int .i64 (checkD s K zs).1, .int .i64 (checkD s K zs).2]) ∧ Below w.heap.size w w'

theorem ownsMap_via {P : Program} {k : TypeId} {R : Value → Option (DataW Unit × List MemPlace)} {W W' : World} {b n : Nat} {D : DataW Unit} (h : W.ownsMap P k R b n D) (hb : Below W.heap.size W W') : W'.ownsMap P k R b n D := by
  have hl := h.lt
  obtain ⟨es, clock, he, r⟩ := h
  exact ⟨es, clock, (hb.block b hl).trans he, r⟩

end Go.Proofs.YteidmdnhkgcnoaaGreat
namespace Go.Proofs.YteidmdnhkgcnoaaGreat
open Go.RowKit


/-- An event's Did, its bytes where they lay. -/
def evDid (x : EvV) : DidV := ⟨didOfEv x.d, x.dv, x.cv⟩
def allV (xs : List EvV) (zs : List Int) : List DidV := (xs.filter (fun x => x.d.act == 1 && decide (x.d.txn ∈ zs))).map evDid
theorem allV_map (xs : List EvV) : (allV xs (comL xs)).map DidV.d = allD xs := by
  unfold allV allD
  rw [List.map_map]
  rfl
theorem allV_yes {xs : List EvV} {zs : List Int} {k : Nat} {x : EvV} (h : xs[k]? = some x) (h1 : (x.d.act == 1) = true) (h2 : decide (x.d.txn ∈ zs) = true) : allV (xs.take (k + 1)) zs = allV (xs.take k) zs ++ [evDid x] := by
  unfold allV
  rw [take_snoc1 h, List.filter_append, List.map_append]
  simp only [List.filter_cons, h1, h2, Bool.and_self, if_true, List.filter_nil, List.map_cons, List.map_nil]
theorem allV_no {xs : List EvV} {zs : List Int} {k : Nat} {x : EvV} (h : xs[k]? = some x) (h1 : (x.d.act == 1 && decide (x.d.txn ∈ zs)) = false) : allV (xs.take (k + 1)) zs = allV (xs.take k) zs := by
  unfold allV
  rw [take_snoc1 h, List.filter_append, List.map_append]
  simp only [List.filter_cons, h1, List.filter_nil, List.map_nil, List.append_nil, Bool.false_eq_true, if_false]
theorem allV_len (xs : List EvV) (zs : List Int) : (allV xs zs).length ≤ xs.length := by
  unfold allV
  rw [List.length_map]
  exact List.length_filter_le _ _
theorem allV_mem {xs : List EvV} {zs : List Int} {y : DidV} (h : y ∈ allV xs zs) : ∃ x ∈ xs, y = evDid x := by
  obtain ⟨x, hx, rfl⟩ := List.mem_map.1 h
  exact ⟨x, (List.mem_filter.1 hx).1, rfl⟩
theorem row_via {W W' : World} {base n : Nat} {e : TypeId} {size : Nat} {v : Value} {xs : List Value} (h : W.ownsRow base e size v n xs) (hb : Below W.heap.size W W') : W'.ownsRow base e size v n xs :=
  row_keep h fun q hq => hb.block q (World.ownsRow.lt h q hq).2
/-- A list of Dids told, its row the call's own. -/
def DidsPost (w : World) (ys : List DidV) (e : Ending) (w' : World) : Prop := ∃ A c, e = .returned (.slice A ys.length c) ∧ ys.length ≤ c ∧ Dids w' w'.heap.size A ys.length ys ∧ Below w.heap.size w w'
theorem held_ev {W : World} {b p : Nat} {d : EvD} {A1 A2 : Option Addr} {n1 m1 n2 m2 : Nat} (h : EvRow W b p ⟨d, .slice A1 n1 m1, .slice A2 n2 m2⟩) : (W.cell? ⟨b, p + 2, none⟩ = some (.int .i64 d.txn) ∧ W.cell? ⟨b, p + 3, none⟩ = some (.int .i64 d.op.act) ∧ W.cell? ⟨b, p + 3 + 1, none⟩ = some (.string d.op.key) ∧ W.cell? ⟨b, p + 3 + 2, none⟩ = some (.slice A1 n1 m1) ∧ W.cell? ⟨b, p + 3 + 3, none⟩ = some (.int .i64 d.op.lo) ∧ W.cell? ⟨b, p + 3 + 4, none⟩ = some (.int .i64 d.op.hi) ∧ W.cell? ⟨b, p + 3 + 5, none⟩ = some (.int .i64 d.op.n) ∧ W.cell? ⟨b, p + 9, none⟩ = some (.int .i64 d.err) ∧ W.cell? ⟨b, p + 9 + 1, none⟩ = some (.int .i64 d.cell.kind) ∧ W.cell? ⟨b, p + 9 + 2, none⟩ = some (.slice A2 n2 m2) ∧ W.cell? ⟨b, p + 9 + 3, none⟩ = some (.int .i64 d.cell.lo) ∧ W.cell? ⟨b, p + 9 + 4, none⟩ = some (.int .i64 d.cell.hi) ∧ W.cell? ⟨b, p + 9 + 5, none⟩ = some (.int .i64 d.cell.val)) := h.2.2

set_option maxHeartbeats 4000000 in
set_option maxRecDepth 100000 in
theorem rDid_any (A O : Option Addr) (m c n oc : Nat) (xs : List EvV) (zs : List Int) (B : Nat) (w : World) (hB : B ≤ w.heap.size) (hm : m ≤ 1000) (hn : n ≤ 1000) (h : Evs w B A m xs) (ho : Ints w B O n zs) :
    Calls Tryz.prog 41 #[.slice A m c, .slice O n oc] w (DidsPost w (allV xs zs)) := by
  have HL := hide h.1
  have HEV := hide h
  obtain ⟨i0, hi, hz0, hz1, hz2⟩ := info_parts info_didh
  go_enter Tryz.func41, Tryz.ntmps41
  go_wp2
  go_loopw [5, 6] (fun t i wr => ∃ k : Nat, k ≤ m ∧ i = .int .i64 k ∧ wr.ownsRow w.heap.size 40 13 t (allV (xs.take k) zs).length ((allV (xs.take k) zs).flatMap DidV.cells) ∧ Below w.heap.size w wr) (fun _ i _ => m - (intOf i).toNat)
  case atStart => exact ⟨0, Nat.zero_le _, rfl, World.ownsRow_nil _ _ _ _, Below.refl _ _⟩
  case round =>
    obtain ⟨k, hk, rfl, hown, hbw⟩ := hrel
    by_cases hlt : k < m
    · have hE := h.below hbw hB
      obtain ⟨b, o, x, rfl, hb, hkx, hok, _⟩ := hE.at_ hlt
      obtain ⟨c0, c1, c2, _⟩ := hE.row hkx
      have HK := hide hkx
      have hz := hbw.size
      have hIn := hide (fun W (hb : Below w.heap.size w W) t => In_any O n oc zs t B W (by omega) (ho.below hb hB))
      have hrow := fun W (hb : Below w.heap.size w W) => (h.below hb hB).row hkx
      obtain ⟨d, dv, cv⟩ := x
      obtain ⟨⟨A1, n1, m1, rfl, p1⟩, ⟨A2, n2, m2, rfl, p2⟩⟩ := hok
      have HRW := hide (fun W hb => held_ev (hrow W hb))
      dsimp only at *
      clear p1 p2 hkx hE hrow c1
      have s1 : (k : Int) < m := by omega
      have s2 : (0 : Int) ≤ k := by omega
      have hbz : b < wr.heap.size := by omega
      have hlc : (allV (xs.take k) zs).length ≤ k := Nat.le_trans (allV_len _ _) (List.length_take_le _ _)
      cases t1 : ((d.act : Int) == 1)
      · have HT := hide t1
        go_wp2
        go_roundw
        case rel => exact ⟨k + 1, by omega, by go_num, by rw [allV_no HK.out (by simp only [HT.out, Bool.false_and])]; exact hown, hbw⟩
        case measure => simp [intOf]; omega
      · have HT := hide t1
        cases t2 : decide (d.txn ∈ zs)
        · have HT2 := hide t2
          have hIn2 := hide (fun W hb => t2 ▸ hIn.out W hb d.txn)
          clear t2
          go_wp2_with (go_at_call 30; refine (hIn2.out _ hbw).mono ?_; rintro e w2 ⟨rfl, rfl⟩)
          go_roundw
          case rel => exact ⟨k + 1, by omega, by go_num, by rw [allV_no HK.out (by simp only [HT2.out, Bool.and_false])]; exact hown, hbw⟩
          case measure => simp [intOf]; omega
        · have HT2 := hide t2
          have hIn2 := hide (fun W hb => t2 ▸ hIn.out W hb d.txn)
          clear t2
          obtain ⟨A3, c3', rfl, hcap3, _⟩ := own_slice hown
          clear hcap3
          have hownd := hown.drew
          have jb := hbw.drew
          have jz : w.heap.size ≤ wr.drew.heap.size := hz
          have HNW : Hid (∀ u ∈ DidV.cells (evDid ⟨d, .slice A1 n1 m1, .slice A2 n2 m2⟩), u.oneCell' = true) := fun u hu => by
            simp only [DidV.cells, evDid, opCells, cellCells, didOfEv, List.cons_append, List.nil_append, List.mem_cons, List.not_mem_nil, or_false] at hu
            rcases hu with rfl | rfl | rfl | rfl | rfl | rfl | rfl | rfl | rfl | rfl | rfl | rfl | rfl <;> rfl
          go_wp2_with (go_at_call 30; refine (hIn2.out _ hbw).mono ?_; rintro e w2 ⟨rfl, rfl⟩)
          clear c0 c2 t1
          go_region_held3 (fun w' => (w'.cell? ⟨b, o + k * 15 + 2, none⟩ = some (.int .i64 d.txn) ∧ w'.cell? ⟨b, o + k * 15 + 3, none⟩ = some (.int .i64 d.op.act) ∧ w'.cell? ⟨b, o + k * 15 + 3 + 1, none⟩ = some (.string d.op.key) ∧ w'.cell? ⟨b, o + k * 15 + 3 + 2, none⟩ = some (.slice A1 n1 m1) ∧ w'.cell? ⟨b, o + k * 15 + 3 + 3, none⟩ = some (.int .i64 d.op.lo) ∧ w'.cell? ⟨b, o + k * 15 + 3 + 4, none⟩ = some (.int .i64 d.op.hi) ∧ w'.cell? ⟨b, o + k * 15 + 3 + 5, none⟩ = some (.int .i64 d.op.n) ∧ w'.cell? ⟨b, o + k * 15 + 9, none⟩ = some (.int .i64 d.err) ∧ w'.cell? ⟨b, o + k * 15 + 9 + 1, none⟩ = some (.int .i64 d.cell.kind) ∧ w'.cell? ⟨b, o + k * 15 + 9 + 2, none⟩ = some (.slice A2 n2 m2) ∧ w'.cell? ⟨b, o + k * 15 + 9 + 3, none⟩ = some (.int .i64 d.cell.lo) ∧ w'.cell? ⟨b, o + k * 15 + 9 + 4, none⟩ = some (.int .i64 d.cell.hi) ∧ w'.cell? ⟨b, o + k * 15 + 9 + 5, none⟩ = some (.int .i64 d.cell.val)))
            (first | (with_reducible exact HRW.out _ jb) | (with_reducible exact HRW.out _ (jb.alloc jz _)) | (with_reducible exact HRW.out _ jb3) | (with_reducible exact HRW.out _ (hbw.alloc hz _).drew))
            (((refine step_append_any _ (by rfl) (.tmp 28) (.tmp 45) _ (by rfl) w.heap.size 40 i0 _ 13 144 Tryz.underlying25 hi hz0 hz1 hz2 rfl (by omega) (.slice A3 (allV (xs.take k) zs).length c3') (allV (xs.take k) zs).length _ (by rfl) (hownd.alloc _) (wr.heap.size + 1) (some ⟨wr.heap.size, 0, none⟩) 1 1 (DidV.cells (evDid ⟨d, .slice A1 n1 m1, .slice A2 n2 m2⟩)) (by rfl) (Reads.of_blk (n := 1) (size := 13) (Blk.new _ _ _) rfl) HNW.out (by unfold maxLen; omega) (by omega) (by simp; omega) ?_; intro v' w1 hown' hgr _; have jb3 : Below w.heap.size w w1 := (jb.alloc jz _).grown hgr (by simp; omega) (fun q hq => (World.ownsRow.lt hownd q hq).1))))
          go_wp2
          go_roundw
          case rel =>
            refine ⟨k + 1, by omega, by go_num, ?_, jb3⟩
            rw [allV_yes HK.out HT.out HT2.out]
            simpa using hown'
          case measure => simp [intOf]; omega
    · obtain rfl : k = m := by omega
      rw [List.take_of_length_le (by have := HL.out; omega)] at hown
      obtain ⟨A3, c3', rfl, hc3, _, _, hR, _⟩ := own_slice hown
      have hE := h.below hbw hB
      go_wp2
      go_ret
      refine ⟨_, _, rfl, hc3, ⟨rfl, hR, fun y hy => ?_⟩, hbw⟩
      obtain ⟨x, hx, rfl⟩ := allV_mem hy
      exact (hE.2.2 x hx).more (by have := hbw.size; omega)

end Go.Proofs.YteidmdnhkgcnoaaGreat
