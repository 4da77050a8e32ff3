/-
  WALKS: who was committed (serial, ref34), a number among numbers (ref33.In), what counts, two lists of numbers.
  WALKS: the closure that looks a number up in a set; slices.IndexFunc and slices.DeleteFunc over Dids, by what counts.
  WALK: slices.DeleteFunc over Dids: those that count stay, in order, in the same memory.
-/
import Derived.Test.YteidmdnhkgcnoaaGreatHC
import Derived.Test.YteidmdnhkgcnoaaGreatWJ
import Derived.BigQuiet
import Derived.Deep.QuietTactic
import Derived.Test.YteidmdnhkgcnoaaGreatMem
import Derived.Test.YteidmdnhkgcnoaaGreatIns
import Derived.Test.YteidmdnhkgcnoaaGreatWF
import Derived.Maps.OwnSet
namespace Go.Proofs.YteidmdnhkgcnoaaGreat
open Go.RowKit

/-- P34.3: those whose commits were written. -/
def comL (xs : List EvV) : List Int := (xs.filter (fun x => x.d.act == 2)).map (fun x => x.d.txn)
theorem comL_yes {xs : List EvV} {k : Nat} {x : EvV} (h : xs[k]? = some x) (hq : (x.d.act == 2) = true) : comL (xs.take (k + 1)) = comL (xs.take k) ++ [x.d.txn] := by
  unfold comL
  rw [take_snoc1 h, List.filter_append]
  simp [hq]
theorem comL_no {xs : List EvV} {k : Nat} {x : EvV} (h : xs[k]? = some x) (hq : (x.d.act == 2) = false) : comL (xs.take (k + 1)) = comL (xs.take k) := by
  unfold comL
  rw [take_snoc1 h, List.filter_append]
  simp [hq]
theorem comL_len (xs : List EvV) : (comL xs).length ≤ xs.length := by
  unfold comL
  rw [List.length_map]
  exact List.length_filter_le _ _
theorem ints_one (l : List Int) : ∀ u ∈ l.map (Value.int .i64), u.oneCell' = true := by
  intro u hu
  obtain ⟨x, _, rfl⟩ := List.mem_map.1 hu
  rfl
/-- What a list of numbers of the call's own is. -/
def IntsPost (w : World) (l : List Int) (e : Ending) (w' : World) : Prop :=
  ∃ A c, e = .returned (.slice A l.length c) ∧ Ints w' w'.heap.size A l.length l ∧ Below w.heap.size w w'

set_option maxHeartbeats 400000 in
theorem In_any (A : Option Addr) (n c : Nat) (zs : List Int) (x : Int) (B : Nat) (w : World) (hn : n ≤ 1000000) (h : Ints w B A n zs) :
    Calls Tryz.prog 30 #[.slice A n c, .int .i64 x] w fun e w' => e = .returned (.bool (decide (x ∈ zs))) ∧ w = w' := by
  have HL := hide h.1
  go_enter Tryz.func30, Tryz.ntmps30
  go_wp2
  go_loop [5] (fun i => ∃ k : Nat, k ≤ n ∧ i = .int .i64 k ∧ x ∉ zs.take k) (fun i => n - (intOf i).toNat)
  case atStart => exact ⟨0, Nat.zero_le _, rfl, by simp⟩
  case round =>
    obtain ⟨k, hk, rfl, hni⟩ := hrel
    have HNI := hide hni
    clear hni
    by_cases hlt : k < n
    · obtain ⟨b, o, y, rfl, hb, hy, hcell⟩ := h.at_ hlt
      have HY := hide hy
      clear hy
      have s1 : (k : Int) < n := by omega
      have s2 : (0 : Int) ≤ k := by omega
      cases t1 : ((y : Int) == x)
      · go_wp2
        go_round
        case rel =>
          refine ⟨k + 1, by omega, by go_num, ?_⟩
          rw [take_snoc1 HY.out, List.mem_append, List.mem_singleton]
          intro hx
          rcases hx with hx | rfl
          · exact HNI.out hx
          · simp at t1
        case measure => simp [intOf]; omega
      · have e : decide (x ∈ zs) = true := by
          have : y = x := by simpa using t1
          subst this
          simpa using List.mem_of_getElem? HY.out
        have HE := hide e
        clear e
        go_wp2
        go_ret
        exact ⟨ret_bool HE.out.symm, rfl⟩
    · have e : decide (x ∈ zs) = false := by
        have := HNI.out
        rw [List.take_of_length_le (by have := HL.out; omega)] at this
        simpa using this
      have HE := hide e
      clear e
      go_wp2
      go_ret
      exact ⟨ret_bool HE.out.symm, rfl⟩

/-- P33.4: was it one of the abstract machine? -/
def countsD (d : DidD) : Bool := d.err != 8 && d.err != 9
def didA (d : DidD) (dv cv : Value) : Value := .agg #[.int .i64 d.txn, .int .i64 d.op.act, .string d.op.key, dv, .int .i64 d.op.lo, .int .i64 d.op.hi, .int .i64 d.op.n, .int .i64 d.err, .int .i64 d.cell.kind, cv, .int .i64 d.cell.lo, .int .i64 d.cell.hi, .int .i64 d.cell.val]
set_option maxHeartbeats 800000 in
theorem hCounts_any (d : DidD) (A1 A2 : Option Addr) (n1 c1 n2 c2 : Nat) (w : World) :
    Calls Tryz.prog 39 #[didA d (.slice A1 n1 c1) (.slice A2 n2 c2)] w fun e w' => e = .returned (.bool (countsD d)) ∧ Below w.heap.size w w' := by
  unfold didA
  cases t1 : (d.err != 8)
  · go_enter Tryz.func39, Tryz.ntmps39
    go_wp2
    go_ret
    exact ⟨ret_bool (by simp [countsD, t1]), (Below.refl _ _).alloc (Nat.le_refl _) _⟩
  · cases t2 : (d.err != 9)
    all_goals
      go_enter Tryz.func39, Tryz.ntmps39
      go_wp2
      go_ret
      exact ⟨ret_bool (by simp [countsD, t1, t2]), (Below.refl _ _).alloc (Nat.le_refl _) _⟩
set_option maxHeartbeats 800000 in
theorem rCounts_any (d : DidD) (A1 A2 : Option Addr) (n1 c1 n2 c2 : Nat) (w : World) :
    Calls Tryz.prog 42 #[didA d (.slice A1 n1 c1) (.slice A2 n2 c2)] w fun e w' => e = .returned (.bool (countsD d)) ∧ Below w.heap.size w w' := by
  unfold didA
  cases t1 : (d.err != 8)
  · go_enter Tryz.func42, Tryz.ntmps42
    go_wp2
    go_ret
    exact ⟨ret_bool (by simp [countsD, t1]), (Below.refl _ _).alloc (Nat.le_refl _) _⟩
  · cases t2 : (d.err != 9)
    all_goals
      go_enter Tryz.func42, Tryz.ntmps42
      go_wp2
      go_ret
      exact ⟨ret_bool (by simp [countsD, t1, t2]), (Below.refl _ _).alloc (Nat.le_refl _) _⟩
set_option maxHeartbeats 800000 in
theorem notCounts_any (d : DidD) (A1 A2 : Option Addr) (n1 c1 n2 c2 : Nat) (w : World) :
    Calls Tryz.prog 38 #[didA d (.slice A1 n1 c1) (.slice A2 n2 c2)] w fun e w' => e = .returned (.bool (!countsD d)) ∧ Below w.heap.size w w' := by
  have HC := fun W => hCounts_any d A1 A2 n1 c1 n2 c2 W
  unfold didA at *
  have HCH := hide HC
  clear HC
  go_enter Tryz.func38, Tryz.ntmps38
  go_wp2_with fail
  refine (HCH.out _).mono ?_
  rintro e w1 ⟨rfl, hb1⟩
  go_wp2
  go_ret
  exact ⟨rfl, below_via ((Below.refl _ _).alloc (Nat.le_refl _) _) hb1 (by simp)⟩

set_option maxHeartbeats 800000 in
/-- Two lists of the same numbers. -/
theorem SameList_true (A A' : Option Addr) (n c c' : Nat) (zs : List Int) (B : Nat) (w : World) (hn : n ≤ 1000000) (h : Ints w B A n zs) (h' : Ints w B A' n zs) (hB : B ≤ w.heap.size) :
    Calls Tryz.prog 14 #[.slice A n c, .slice A' n c'] w fun e w' => e = .returned (.bool true) ∧ Below w.heap.size w w' := by
  go_enter Tryz.func14, Tryz.ntmps14
  go_wp2
  go_loopw [5] (fun i wr => ∃ k : Nat, k ≤ n ∧ i = .int .i64 k ∧ Below w.heap.size w wr) (fun i _ => n - (intOf i).toNat)
  case atStart => exact ⟨0, Nat.zero_le _, rfl, Below.refl _ _⟩
  case round =>
    obtain ⟨k, hk, rfl, hbw⟩ := hrel
    by_cases hlt : k < n
    · obtain ⟨b, o, y, rfl, hb, hy, hcell⟩ := (h.below hbw hB).at_ hlt
      obtain ⟨b', o', y', rfl, hb', hy', hcell'⟩ := (h'.below hbw hB).at_ hlt
      obtain rfl : y = y' := by rw [hy] at hy'; injection hy'
      have HY := hide hy
      clear hy hy'
      have s1 : (k : Int) < n := by omega
      have s2 : (0 : Int) ≤ k := by omega
      have t1 : (y != y) = false := by simp
      go_wp2
      go_quiet (fail)
      go_wp2
      go_roundw
      case rel => exact ⟨k + 1, by omega, by go_num, below_drewN hbw _⟩
      case measure => simp [intOf]; omega
    · go_wp2
      go_ret
      exact ⟨rfl, hbw⟩
end Go.Proofs.YteidmdnhkgcnoaaGreat
namespace Go.Proofs.YteidmdnhkgcnoaaGreat
open Go.RowKit Go.Maps

/-- The set of the numbers l. -/
def SetMap (D : DataW Unit) (l : List Int) : Prop := ∀ x : Int, Maps.has D (.int .i64 x) = decide (x ∈ l)
theorem SetMap.start : SetMap (.map []) [] := fun x => by simp [Maps.has]
theorem SetMap.add {D : DataW Unit} {l : List Int} {y : Int} {v : DataW Unit} (h : SetMap D l) (hm : IsMap D) : SetMap (D.put (.int .i64 y) v) (l ++ [y]) := fun x => by
  by_cases hx : x = y
  · subst hx
    rw [has_put_same hm (by trivial)]; simp
  · have hk : Lit.int .i64 x ≠ Lit.int .i64 y := fun e => hx (by injection e)
    rw [has_put_other hk, h x]
    simp [hx]

/-- Those that count. -/
def keepL (xs : List DidV) : List DidV := xs.filter (fun x => countsD x.d)
def IdxPost (xs : List DidV) (w : World) (e : Ending) (w' : World) : Prop :=
  ((∃ i x, xs[i]? = some x ∧ countsD x.d = false ∧ (∀ y ∈ xs.take i, countsD y.d = true) ∧ e = .returned (.int .i64 (i : Nat))) ∨ ((∀ y ∈ xs, countsD y.d = true) ∧ e = .returned (.int .i64 (-1)))) ∧ Below w.heap.size w w'

set_option maxHeartbeats 1600000 in
theorem indexFunc_any (A : Option Addr) (n c : Nat) (xs : List DidV) (B : Nat) (w : World) (hB : B ≤ w.heap.size) (hn : n ≤ 1000000) (h : Dids w B A n xs) :
    Calls Tryz.prog 54 #[.slice A n c, .func (.func 38) #[] #[]] w (IdxPost xs w) := by
  have HL := hide h.1
  go_enter Tryz.func54, Tryz.ntmps54
  go_wp2
  go_loopw [8] (fun i wr => ∃ k : Nat, k ≤ n ∧ i = .int .i64 k ∧ (∀ y ∈ xs.take k, countsD y.d = true) ∧ Below w.heap.size w wr) (fun i _ => n - (intOf i).toNat)
  case atStart => exact ⟨0, Nat.zero_le _, rfl, by simp, Below.refl _ _⟩
  case round =>
    obtain ⟨k, hk, rfl, hall, hbw⟩ := hrel
    have HALL := hide hall
    clear hall
    by_cases hlt : k < n
    · have hD := h.below hbw hB
      obtain ⟨b, o, x, rfl, hb, hkx, hok, _⟩ := hD.at_ hlt
      obtain ⟨c0, c1, c2, c3, c4, c5, c6, c7, c8, c9, c10, c11, c12⟩ := hD.row hkx
      have HK := hide hkx
      have hz := hbw.size
      obtain ⟨d, dv, cv⟩ := x
      obtain ⟨⟨A1, n1, m1, rfl, p1⟩, ⟨A2, n2, m2, rfl, p2⟩⟩ := hok
      dsimp only at *
      clear p1 p2 hkx hD
      have s1 : (k : Int) < n := by omega
      have s2 : (0 : Int) ≤ k := by omega
      have HN := hide (fun W => notCounts_any d A1 A2 n1 m1 n2 m2 W)
      unfold didA at HN
      cases t1 : countsD d
      · rw [t1] at HN
        have HT := hide t1
        clear t1
        go_wp2_with (go_at_call 38; refine (HN.out _).mono ?_; rintro e w1 ⟨rfl, hb1⟩)
        go_ret
        exact ⟨.inl ⟨k, _, HK.out, HT.out, HALL.out, rfl⟩, below_via hbw hb1 hz⟩
      · rw [t1] at HN
        have HT := hide t1
        clear t1
        go_wp2_with (go_at_call 38; refine (HN.out _).mono ?_; rintro e w1 ⟨rfl, hb1⟩)
        go_roundw
        case rel =>
          refine ⟨k + 1, by omega, by go_num, fun y hy => ?_, below_via hbw hb1 hz⟩
          rw [take_snoc1 HK.out, List.mem_append, List.mem_singleton] at hy
          rcases hy with hy | rfl
          · exact HALL.out y hy
          · exact HT.out
        case measure => simp [intOf]; omega
    · go_wp2
      go_ret
      refine ⟨.inr ⟨fun y hy => HALL.out y ?_, rfl⟩, hbw⟩
      rwa [List.take_of_length_le (by have := HL.out; omega)]
end Go.Proofs.YteidmdnhkgcnoaaGreat
namespace Go.Proofs.YteidmdnhkgcnoaaGreat
open Go.RowKit

section
variable {P : Program}
/-- clear, of elements of a row that is known whole. -/
theorem run_clear_blkN {w : World} {tS ty elem : TypeId} (zs : List Value) (hu : P.underlying tS = some (.slice elem)) {z : Value} (hv : (zeroValue elem).run P w = .ok z w) (n : Nat) (hn : 0 < n) (hz : (Builtin.zeroCells z.cells n).toList = zs)
    {g o : Nat} {t : TypeId} {cur : List Value} (k : Blk w g t cur.toArray) (c : Nat) (hfit : o + zs.length ≤ cur.length) (h1 : ∀ v ∈ zs, v.oneCell' = true) :
    ∃ w', (Builtin.clear_ #[tS] ty #[.slice (some ⟨g, o, none⟩) n c]).run P w = .ok (.tuple #[]) w' ∧ Blk w' g t (spl cur o zs).toArray ∧ Touch g (g + 1) w w' := by
  obtain ⟨w', hst, hk, ht⟩ := run_store_blk (P := P) (o := o) k zs hfit h1
  refine ⟨w', ?_, hk, ht⟩
  obtain ⟨m, rfl⟩ : ∃ m, n = m + 1 := ⟨n - 1, by omega⟩
  simp [Builtin.clear_, run_underlying hu, hv, hz, hst]
theorem wpList_clear_blkN {ops : Array Oper} {rest : List Oper} {o : Oper} {a : Act} {w : World} {Q : Exit → Act → World → Prop} (hgd : o.guard = none) (s : Operand) (tS : TypeId)
    (ho : o.op = .call { callee := .builtin .clear, args := #[s], argTypes := #[tS] }) (elem : TypeId) (zs : List Value) (hu : P.underlying tS = some (.slice elem)) {z : Value} (hv : ∀ w, (zeroValue elem).run P w = .ok z w) (n : Nat) (hn : 0 < n) (hz : (Builtin.zeroCells z.cells n).toList = zs)
    (g off : Nat) (t : TypeId) (cur : List Value) (c : Nat) (hd : a.eval s = .slice (some ⟨g, off, none⟩) n c) (k : Blk w g t cur.toArray) (hfit : off + zs.length ≤ cur.length) (h1 : ∀ v ∈ zs, v.oneCell' = true)
    (h : ∀ w', Blk w' g t (spl cur off zs).toArray → Touch g (g + 1) w w' → wpList P ops Q rest (a.put o.dst (.tuple #[])) w') : wpList P ops Q (o :: rest) a w :=
  wpList_plain hgd fun K hK => by
    obtain ⟨w', hrun, hk, ht⟩ := run_clear_blkN (P := P) (ty := o.type) zs hu (hv w) n hn hz k c hfit h1
    unfold Oper.wp execOp
    simp only [ho, resolve, invoke, builtin, Sem.run_bind, Sem.run_pure, Result.andThen_ok, List.map_toArray, List.map_cons, List.map_nil, hd, hrun]
    exact hK _ _ (h w' hk ht)
end

theorem keepL_snoc_yes {xs : List DidV} {k : Nat} {x : DidV} (h : xs[k]? = some x) (hc : countsD x.d = true) : keepL (xs.take (k + 1)) = keepL (xs.take k) ++ [x] := by
  unfold keepL
  rw [take_snoc1 h, List.filter_append]
  simp [hc]
theorem keepL_snoc_no {xs : List DidV} {k : Nat} {x : DidV} (h : xs[k]? = some x) (hc : countsD x.d = false) : keepL (xs.take (k + 1)) = keepL (xs.take k) := by
  unfold keepL
  rw [take_snoc1 h, List.filter_append]
  simp [hc]
theorem keepL_len (xs : List DidV) (k : Nat) : (keepL (xs.take k)).length ≤ k := Nat.le_trans (List.length_filter_le _ _) (List.length_take_le _ _)
theorem keepL_all {xs : List DidV} (h : ∀ y ∈ xs, countsD y.d = true) : keepL xs = xs := List.filter_eq_self.2 h

/-- Where DeleteFunc stands: i kept of the first j. -/
structure DelSt (N0 g cap j i : Nat) (xs : List DidV) (w W : World) : Prop where
  ieq : i = (keepL (xs.take j)).length
  blk : ∃ cs : Array Value, Blk W g 40 cs ∧ cs.size = cap * 13 ∧ (∀ (q : Nat) (u : Value), ((keepL (xs.take j)).flatMap DidV.cells)[q]? = some u → cs[q]? = some u) ∧ (∀ (q : Nat) (u : Value), j * 13 ≤ q → (xs.flatMap DidV.cells)[q]? = some u → cs[q]? = some u)
  ok : ∀ y ∈ xs, OwnB W N0 y.dv y.d.op.data ∧ OwnB W N0 y.cv y.d.cell.data
  hg : N0 ≤ g
  b : Below N0 w W
theorem DelSt.via {N0 g cap j i : Nat} {xs : List DidV} {w W W' : World} (h : DelSt N0 g cap j i xs w W) (hb : Below W.heap.size W W') : DelSt N0 g cap j i xs w W' := by
  obtain ⟨cs, h1, h2⟩ := h.blk
  have := h.hg
  have := h1.lt
  exact ⟨h.ieq, ⟨cs, Blk.via hb h1, h2⟩, fun y hy => ⟨(h.ok y hy).1.via hb, (h.ok y hy).2.via hb⟩, h.hg, h.b.trans (hb.mono (by omega))⟩
theorem DelSt.skip {N0 g cap j i : Nat} {xs : List DidV} {w W : World} {x : DidV} (h : DelSt N0 g cap j i xs w W) (hx : xs[j]? = some x) (hc : countsD x.d = false) : DelSt N0 g cap (j + 1) i xs w W := by
  obtain ⟨cs, h1, h2, h3, h4⟩ := h.blk
  refine ⟨by rw [keepL_snoc_no hx hc]; exact h.ieq, ⟨cs, h1, h2, by rw [keepL_snoc_no hx hc]; exact h3, fun q u hq => h4 q u (by omega)⟩, h.ok, h.hg, h.b⟩
theorem take_of_pre {α : Type} {l m : List α} (h : ∀ (q : Nat) (u : α), m[q]? = some u → l[q]? = some u) : l.take m.length = m := by
  apply List.ext_getElem?
  intro q
  rw [List.getElem?_take]
  split
  · rename_i hq
    rw [h q _ (List.getElem?_eq_getElem hq), List.getElem?_eq_getElem hq]
  · rename_i hq
    rw [List.getElem?_eq_none (by omega)]
theorem OwnB.beside {w w' : World} {base g : Nat} {v : Value} {bs : List UInt8} {cs : Array Value} (h : OwnB w base v bs) (ht : Touch g (g + 1) w w') (k : Blk w g 40 cs) : OwnB w' base v bs :=
  h.keep fun q hq => ht.block q (by
    have hne : q ≠ g := by
      rintro rfl
      obtain ⟨cur, e⟩ := row_obj h hq
      unfold Blk at k
      rw [k] at e
      injection e with e
      injection e with _ e
      cases e
    omega)
theorem OwnB.putL {w : World} {base g o : Nat} {v : Value} {bs : List UInt8} {cs : Array Value} (h : OwnB w base v bs) (k : Blk w g 40 cs) (vs : List Value) : OwnB (putL w g o vs) base v bs := h.beside (putL_touch g vs w w o (Touch.refl _)) k
theorem DelSt.keep {N0 g cap n j i : Nat} {xs : List DidV} {w W : World} {x : DidV} (h : DelSt N0 g cap j i xs w W) (hx : xs[j]? = some x) (hc : countsD x.d = true) (hn : n = xs.length) (hnc : n ≤ cap) : DelSt N0 g cap (j + 1) (i + 1) xs w (putL W g (i * 13) x.cells) := by
  obtain ⟨cs, h1, h2, h3, h4⟩ := h.blk
  obtain ⟨hj, _⟩ := List.getElem?_eq_some_iff.1 hx
  have hij : i ≤ j := by rw [h.ieq]; exact keepL_len _ _
  have hlt : i * 13 + 13 ≤ cs.size := by rw [h2]; have := Nat.mul_le_mul_right 13 (show i + 1 ≤ cap by omega); omega
  have k2 := putL_blk x.cells (i * 13) h1
  obtain ⟨hs2, hq2, hj2⟩ := setL_spec x.cells cs (i * 13) (by rw [DidV.cells_length]; exact hlt)
  have htch := putL_touch g x.cells W W (i * 13) (Touch.refl _)
  refine ⟨by rw [keepL_snoc_yes hx hc, List.length_append]; have := h.ieq; simp; omega, ⟨_, k2, by omega, fun q u hu => ?_, fun q u hq hu => ?_⟩, fun y hy => ⟨(h.ok y hy).1.putL h1 _, (h.ok y hy).2.putL h1 _⟩, h.hg, htch.below h.b h.hg⟩
  · rw [keepL_snoc_yes hx hc, List.flatMap_append] at hu
    have hfl : ((keepL (xs.take j)).flatMap DidV.cells).length = i * 13 := by rw [flat_length _ 13 DidV.cells_length, h.ieq]
    by_cases hqi : q < i * 13
    · rw [List.getElem?_append_left (by omega)] at hu
      rw [hq2 q (.inl hqi)]
      exact h3 q u hu
    · rw [List.getElem?_append_right (by omega), hfl] at hu
      have := hj2 (q - i * 13) u (by simpa using hu)
      rwa [show i * 13 + (q - i * 13) = q by omega] at this
  · have hmul : i * 13 ≤ j * 13 := Nat.mul_le_mul_right 13 hij
    rw [hq2 q (.inr (by rw [DidV.cells_length]; omega))]
    exact h4 q u (by omega) hu
theorem genDel {N0 g cap n j i : Nat} {xs : List DidV} {w W : World} {x : DidV} {R : World → Prop} (h : DelSt N0 g cap j i xs w W) (hx : xs[j]? = some x) (hc : countsD x.d = true) (hn : n = xs.length) (hnc : n ≤ cap) (hR : ∀ W', DelSt N0 g cap (j + 1) (i + 1) xs w W' → R W') : R (putL W g (i * 13) x.cells) := hR _ (h.keep hx hc hn hnc)

theorem zero_did (w : World) : (zeroValue 40).run Tryz.prog w = .ok (.agg didZ) w := by kernel_rfl
theorem zeros_len (n : Nat) : (Builtin.zeroCells (Value.agg didZ).cells n).toList.length = n * 13 := by simp [Builtin.zeroCells, Value.cells, didZ]
theorem zeros_one (n : Nat) : ∀ v ∈ (Builtin.zeroCells (Value.agg didZ).cells n).toList, v.oneCell' = true := by
  intro v hv
  simp only [Builtin.zeroCells, Array.toList_map, List.mem_map] at hv
  obtain ⟨i, _, rfl⟩ := hv
  have h : ∀ j, j < 13 → (didZ[j]!).oneCell' = true := by
    intro j hj
    match j, hj with
    | 0, _ => rfl | 1, _ => rfl | 2, _ => rfl | 3, _ => rfl | 4, _ => rfl | 5, _ => rfl | 6, _ => rfl | 7, _ => rfl | 8, _ => rfl | 9, _ => rfl | 10, _ => rfl | 11, _ => rfl | 12, _ => rfl
  exact h _ (Nat.mod_lt _ (by decide))

def DelPost (N0 : Nat) (xs : List DidV) (w : World) (e : Ending) (w' : World) : Prop := ∃ v, e = .returned v ∧ DRow w' N0 v (keepL xs) ∧ Below N0 w w'

set_option maxHeartbeats 4000000 in
set_option maxRecDepth 100000 in
theorem deleteFunc_any (v : Value) (xs : List DidV) (N0 : Nat) (w : World) (hN : N0 ≤ w.heap.size) (hn : xs.length ≤ 1000000) (h : DRow w N0 v xs) :
    Calls Tryz.prog 37 #[v, .func (.func 38) #[] #[]] w (DelPost N0 xs w) := by
  have hD : ∀ A n c, v = .slice A n c → n = xs.length → Dids w w.heap.size A n xs := fun A n c e hn => by
    subst e hn
    exact ⟨rfl, Reads.of_own h.1, fun y hy => ⟨(h.2 y hy).1.bytes, (h.2 y hy).2.bytes⟩⟩
  have h0 := h
  obtain ⟨⟨hx, ⟨rfl, hl0⟩ | ⟨g, cap, cur, rfl, hbg, hk, hnc, hcm, hs, ht⟩⟩, hok⟩ := h
  · obtain rfl : xs = [] := List.eq_nil_of_length_eq_zero hl0
    have HI := hide (indexFunc_any none 0 0 [] w.heap.size w (Nat.le_refl _) (by omega) (hD _ _ _ rfl rfl))
    have H0 := hide h0
    clear hD h0 hok hx
    go_enter Tryz.func37, Tryz.ntmps37
    go_wp2_with fail
    refine HI.out.mono ?_
    rintro e w1 ⟨⟨i, x, hx, _⟩ | ⟨_, rfl⟩, hb1⟩
    · simp at hx
    · go_wp2
      go_ret
      exact ⟨_, rfl, H0.out.via hb1, hb1.mono hN⟩
  · have HI := hide (indexFunc_any (some ⟨g, 0, none⟩) xs.length cap xs w.heap.size w (Nat.le_refl _) hn (hD _ _ _ rfl rfl))
    have H0 := hide h0
    obtain ⟨n, hnl⟩ : ∃ n, n = xs.length := ⟨_, rfl⟩
    rw [← hnl] at HI hnc ht hx hn h0 ⊢
    have HNL := hide hnl
    have HX := hide hx
    have HT := hide ht
    have HS := hide hs
    have HOK := hide hok
    have HK0 := hide hk
    clear hD h0 hok hx hnl ht hs hk
    go_enter Tryz.func37, Tryz.ntmps37
    go_wp2_with fail
    refine HI.out.mono ?_
    rintro e w1 ⟨⟨i, x, hx, hc, hall, rfl⟩ | ⟨hall, rfl⟩, hb1⟩
    · have hin : i < n := by rw [HNL.out]; exact (List.getElem?_eq_some_iff.1 hx).1
      have hkp : keepL (xs.take (i + 1)) = xs.take i := by rw [keepL_snoc_no hx hc, keepL_all hall]
      have hst : DelSt N0 g cap (i + 1) i xs w w1 := by
        refine ⟨by rw [hkp, List.length_take]; have := HNL.out; omega, ⟨cur, ?_, HS.out, fun q u hu => ?_, fun q u hq hu => ?_⟩, fun y hy => ⟨(HOK.out y hy).1.via hb1, (HOK.out y hy).2.via hb1⟩, hbg, hb1.mono hN⟩
        · exact Blk.via hb1 HK0.out
        · rw [hkp, ← flat_take _ 13 DidV.cells_length, List.getElem?_take] at hu
          split at hu
          · rw [← HT.out, List.getElem?_take] at hu
            split at hu
            · simpa using hu
            · cases hu
          · cases hu
        · rw [← HT.out, List.getElem?_take] at hu
          split at hu
          · simpa using hu
          · cases hu
      have HST := hide hst
      clear hkp hst hx hc hall
      have t0 : ((i : Int) == -1) = false := by rw [beq_eq_false_iff_ne]; omega
      go_wp2
      go_loopw [5, 6] (fun ti tj wr => ∃ i j : Nat, i < j ∧ j ≤ n ∧ ti = .int .i64 i ∧ tj = .int .i64 j ∧ DelSt N0 g cap j i xs w wr) (fun _ tj _ => n - (intOf tj).toNat)
      case atStart => exact ⟨i, i + 1, by omega, hin, rfl, by go_num, HST.out⟩
      case round =>
        obtain ⟨i, j, hij, hj, rfl, rfl, hst⟩ := hrel
        have HST := hide hst
        clear hst
        by_cases hlt : j < n
        · obtain ⟨x, hx⟩ : ∃ x, xs[j]? = some x := ⟨_, List.getElem?_eq_getElem (by rw [← HNL.out]; exact hlt)⟩
          have hat : ∀ q u, x.cells[q]? = some u → wr.cell? ⟨g, j * 13 + q, none⟩ = some u := fun q u hu => by
            obtain ⟨cs, k1, k2, k3, k4⟩ := HST.out.blk
            rw [k1.cell]
            refine k4 _ u (by omega) ?_
            have hq : q < 13 := by have := (List.getElem?_eq_some_iff.1 hu).1; rwa [DidV.cells_length] at this
            rw [flat_at _ 13 DidV.cells_length _ _ _ hq, hx]
            exact hu
          have d0 : wr.cell? ⟨g, j * 13, none⟩ = some (.int .i64 x.d.txn) := hat 0 _ rfl
          have d1 := hat 1 _ rfl
          have d2 := hat 2 _ rfl
          have d3 := hat 3 _ rfl
          have d4 := hat 4 _ rfl
          have d5 := hat 5 _ rfl
          have d6 := hat 6 _ rfl
          have d7 := hat 7 _ rfl
          have d8 := hat 8 _ rfl
          have d9 := hat 9 _ rfl
          have d10 := hat 10 _ rfl
          have d11 := hat 11 _ rfl
          have d12 := hat 12 _ rfl
          have hgz : g < wr.heap.size := by obtain ⟨cs, k1, _⟩ := HST.out.blk; exact k1.lt
          obtain ⟨hok1, hok2⟩ := HST.out.ok x (List.mem_of_getElem? hx)
          obtain ⟨A1, n1, m1, e1⟩ := hok1.form
          obtain ⟨A2, n2, m2, e2⟩ := hok2.form
          have HKX := hide hx
          clear hat hok1 hok2 hx
          obtain ⟨d, dv, cv⟩ := x
          dsimp only at *
          subst e1 e2
          have s1 : (j : Int) < n := by omega
          have s2 : (0 : Int) ≤ j := by omega
          have s3 : (i : Int) < n := by omega
          have s4 : (0 : Int) ≤ i := by omega
          have HN := hide (fun W => notCounts_any d A1 A2 n1 m1 n2 m2 W)
          unfold didA at HN
          go_upto_region 8 with fail
          refine gen1 (fun W k0 hbW hz => ?_)
          clear d0 d1 d2 d3 d4 d5 d6 d7 d8 d9 d10 d11 d12
          have HS2 := hide (HST.out.via hbW)
          have hz0 := k0.lt
          have q0 := k0.cell
          cases t1 : countsD d
          · rw [t1] at HN
            have HC := hide t1
            clear t1
            go_wp2_with fail
            refine (HN.out _).mono ?_
            rintro e W2 ⟨rfl, hb2⟩
            go_wp2
            go_roundw
            case rel => exact ⟨i, j + 1, by omega, by omega, rfl, by go_num, (HS2.out.via hb2).skip HKX.out HC.out⟩
            case measure => simp [intOf]; omega
          · rw [t1] at HN
            have HC := hide t1
            clear t1
            go_wp2_with fail
            refine (HN.out _).mono ?_
            rintro e W2 ⟨rfl, hb2⟩
            have HS3 := hide (HS2.out.via hb2)
            have k2 := Blk.via hb2 k0
            have hz2 := k2.lt
            have q2 := k2.cell
            obtain ⟨cs, hkk, hcs, _⟩ := HS3.out.blk
            have hgz2 := hkk.lt
            have hib : i * 13 + 13 ≤ cs.size := by rw [hcs]; have := Nat.mul_le_mul_right 13 (show i + 1 ≤ cap by omega); omega
            have r2 : ∀ q, q < 13 → ∃ u, W2.cell? ⟨g, i * 13 + q, none⟩ = some u := fun q hq => ⟨_, by rw [hkk.cell, Array.getElem?_eq_getElem (by omega)]⟩
            obtain ⟨u0, hu0⟩ := r2 0 (by omega)
            obtain ⟨u1, hu1⟩ := r2 1 (by omega)
            obtain ⟨u2, hu2⟩ := r2 2 (by omega)
            obtain ⟨u3, hu3⟩ := r2 3 (by omega)
            obtain ⟨u4, hu4⟩ := r2 4 (by omega)
            obtain ⟨u5, hu5⟩ := r2 5 (by omega)
            obtain ⟨u6, hu6⟩ := r2 6 (by omega)
            obtain ⟨u7, hu7⟩ := r2 7 (by omega)
            obtain ⟨u8, hu8⟩ := r2 8 (by omega)
            obtain ⟨u9, hu9⟩ := r2 9 (by omega)
            obtain ⟨u10, hu10⟩ := r2 10 (by omega)
            obtain ⟨u11, hu11⟩ := r2 11 (by omega)
            obtain ⟨u12, hu12⟩ := r2 12 (by omega)
            rw [Nat.add_zero] at hu0
            have r3 := hkk.frozen
            clear r2 hcs hkk hib
            go_upto_region 10 with fail
            refine genDel (n := n) (x := ⟨d, .slice A1 n1 m1, .slice A2 n2 m2⟩) HS3.out HKX.out HC.out HNL.out hnc (fun W4 hs4 => ?_)
            clear hu0 hu1 hu2 hu3 hu4 hu5 hu6 hu7 hu8 hu9 hu10 hu11 hu12 r3 q2
            have HS4 := hide hs4
            clear hs4
            go_wp2
            go_roundw
            case rel => exact ⟨i + 1, j + 1, by omega, by omega, by go_num, by go_num, HS4.out⟩
            case measure => simp [intOf]; omega
        · obtain rfl : j = n := by omega
          have hst := HST.out
          obtain ⟨cs, k1, k2, k3, _⟩ := hst.blk
          have hfull : xs.take j = xs := List.take_of_length_le (by have := HNL.out; omega)
          rw [hfull] at k3
          have hie := hst.ieq
          rw [hfull] at hie
          have HIE := hide hie
          have HCS := hide k2
          have HC3 := hide k3
          have hok := hst.ok
          have HOK2 := hide hok
          have hb := hst.b
          have kl : Blk wr g 40 cs.toList.toArray := by simpa using k1
          clear hie k2 k3 hok hfull hst
          have hcp : ¬ (cap = i) := by omega
          have s3 : (i : Int) < j := by omega
          have s4 : (0 : Int) ≤ i := by omega
          have s5 : (i : Int) ≤ cap := by omega
          have hil : i * 13 + (j - i) * 13 ≤ cs.toList.length := by
            have h1 := HCS.out
            have h2 := Nat.mul_le_mul_right 13 hnc
            have h3 : i * 13 + (j - i) * 13 = j * 13 := by rw [← Nat.add_mul, Nat.add_sub_cancel' (by omega)]
            rw [h3, Array.length_toList, h1]
            exact h2
          have hzl := zeros_len (j - i)
          have HF2 := hide (show i * 13 + (Builtin.zeroCells (Value.agg didZ).cells (j - i)).toList.length ≤ cs.toList.length by rw [hzl]; exact hil)
          clear hil hzl
          go_wp2_with (refine wpList_clear_blkN rfl (.tmp 38) 25 rfl 40 (Builtin.zeroCells (Value.agg didZ).cells (j - i)).toList Tryz.underlying25 zero_did (j - i) (by omega) rfl g (i * 13) 40 cs.toList (cap - i) rfl kl HF2.out (zeros_one _) ?_; intro w2 hk2 ht2)
          go_ret
          refine ⟨_, rfl, ⟨⟨?_, .inr ⟨g, cap, _, ?_, hbg, hk2, ?_, hcm, ?_, ?_⟩⟩, fun y hy => ?_⟩, ht2.below hb hbg⟩
          · exact flat_length _ 13 DidV.cells_length _
          · show Value.slice (some ⟨g, 0, none⟩) i cap = _
            rw [HIE.out]
          · rw [← HIE.out]; omega
          · have := spl_length HF2.out
            have h1 := HCS.out
            rw [List.size_toArray, this, Array.length_toList, h1]
          · have e1 := take_of_pre (l := cs.toList) (m := (keepL xs).flatMap DidV.cells) (fun q u hu => by simpa using HC3.out q u hu)
            rw [flat_length _ 13 DidV.cells_length, ← HIE.out] at e1
            unfold spl
            rw [← HIE.out, List.take_append_of_le_length (by rw [List.length_take]; have := HF2.out; omega), List.take_take, Nat.min_self]
            exact e1
          · have hy' : y ∈ xs := (List.mem_filter.1 hy).1
            exact ⟨((HOK2.out y hy').1).beside ht2 k1, ((HOK2.out y hy').2).beside ht2 k1⟩
    · go_wp2
      go_ret
      refine ⟨_, rfl, ?_, hb1.mono hN⟩
      have := H0.out.via hb1
      rw [keepL_all hall]
      rw [HNL.out]
      exact this
end Go.Proofs.YteidmdnhkgcnoaaGreat
