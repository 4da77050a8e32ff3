/-
  WALKS: slices.IndexFunc, slices.DeleteFunc of edges, waits.Victims.
-/
import Derived.Test.YtkbcenddhcnkeaaGK
import Derived.Laws.CopyRow
import Derived.Laws.CopyOwn
namespace Go.Proofs.Ytkbcenddhcnkeaa
open Go.RowKit

/-- cs laid over cur from place o on. -/
def spl (cur : List Value) (o : Nat) (cs : List Value) : List Value := cur.take o ++ (cs ++ cur.drop (o + cs.length))
theorem spl_length {cur : List Value} {o : Nat} {cs : List Value} (h : o + cs.length ≤ cur.length) : (spl cur o cs).length = cur.length := by unfold spl; simp; omega
theorem touch_setRow (w : World) (g : Nat) (cs : Array Value) : Touch g (g + 1) w (w.setRow g cs) :=
  ⟨rfl, rfl, rfl, by simp [World.setRow], fun k hk => setRow_other w g k cs (by omega)⟩
theorem run_store_blk {P : Program} {w : World} {g o : Nat} {t : TypeId} {cur : List Value} (k : Blk w g t cur.toArray) (cs : List Value) (hfit : o + cs.length ≤ cur.length) (h1 : ∀ v ∈ cs, v.oneCell' = true) :
    ∃ w', (storeCells ⟨g, o, none⟩ cs).run P w = .ok () w' ∧ Blk w' g t (spl cur o cs).toArray ∧ Touch g (g + 1) w w' := by
  have h := run_storeCells_at P g o t cs 0 cur.toArray w k (by simpa using hfit) h1
  refine ⟨_, h, ?_, touch_setRow _ _ _⟩
  have := setRow_heap w g cur.toArray (List.take (o + 0) cur.toArray.toList ++ cs ++ List.drop (o + 0 + cs.length) cur.toArray.toList).toArray t _ k
  unfold Blk spl
  simpa using this
/-- clear, of a piece of a row that is known whole. -/
theorem wpList_clear_blkN {P : Program} {ops : Array Oper} {rest : List Oper} {o : Oper} {a : Act} {w : World} {Q : Exit → Act → World → Prop} (hgd : o.guard = none) (s : Operand) (tS : TypeId)
    (ho : o.op = .call { callee := .builtin .clear, args := #[s], argTypes := #[tS] }) (elem : TypeId) (zs : List Value) (hu : P.underlying tS = some (.slice elem)) {z : Value} (hv : ∀ w, (zeroValue elem).run P w = .ok z w) (n : Nat) (hn0 : 0 < n) (hz : (Builtin.zeroCells z.cells n).toList = zs)
    (g off : Nat) (t : TypeId) (cur : List Value) (c : Nat) (hd : a.eval s = .slice (some ⟨g, off, none⟩) n c) (k : Blk w g t cur.toArray) (hfit : off + zs.length ≤ cur.length) (h1 : ∀ v ∈ zs, v.oneCell' = true)
    (h : ∀ w', Blk w' g t (spl cur off zs).toArray → Touch g (g + 1) w w' → wpList P ops Q rest (a.put o.dst (.tuple #[])) w') : wpList P ops Q (o :: rest) a w :=
  wpList_plain hgd fun K hK => by
    obtain ⟨w', hst, hk, ht⟩ := run_store_blk (P := P) (o := off) k zs hfit h1
    have hrun : (Builtin.clear_ #[tS] o.type #[.slice (some ⟨g, off, none⟩) n c]).run P w = .ok (.tuple #[]) w' := by
      obtain ⟨m, rfl⟩ : ∃ m, n = m + 1 := ⟨n - 1, by omega⟩
      simp [Builtin.clear_, run_underlying hu, hv w, hz, hst]
    unfold Oper.wp execOp
    simp only [ho, resolve, invoke, builtin, Sem.run_bind, Sem.run_pure, Result.andThen_ok, List.map_toArray, List.map_cons, List.map_nil, hd, hrun]
    exact hK _ _ (h w' hk ht)
theorem zero_edge (w : World) : (zeroValue 29).run Try.prog w = .ok (.agg #[.int .i64 0, .int .i64 0]) w := by kernel_rfl
theorem zeros_edge (n : Nat) : (Builtin.zeroCells (Value.agg #[.int .i64 0, .int .i64 0]).cells n).toList.length = n * 2 ∧ ∀ v ∈ (Builtin.zeroCells (Value.agg #[.int .i64 0, .int .i64 0]).cells n).toList, v.oneCell' = true := by
  refine ⟨by rw [Array.length_toList, size_zeroCells]; rfl, fun v hv => ?_⟩
  unfold Builtin.zeroCells at hv
  rw [Array.mem_toList_iff, Array.mem_map] at hv
  obtain ⟨i, _, rfl⟩ := hv
  show (#[Value.int .i64 0, Value.int .i64 0][i % 2]!).oneCell' = true
  rcases Nat.mod_two_eq_zero_or_one i with h | h <;> rw [h] <;> rfl
set_option maxHeartbeats 1600000 in
theorem delC_any (x t y : Int) (gy : Nat) (w : World) (k : Blk w gy 3 #[.int .i64 y]) :
    Calls Try.prog 23 #[.agg #[.int .i64 x, .int .i64 t], .pointer (some ⟨gy, 0, none⟩)] w fun e w' => e = .returned (.bool (x == y)) ∧ Below w.heap.size w w' := by
  have q0 := k.cell 0
  have l0 := k.lt
  simp only [List.getElem?_toArray, List.getElem?_cons_zero] at q0
  by_cases hxy : x = y
  · subst hxy
    go_enter Try.func23, Try.ntmps23
    go_wp2
    go_ret
    exact ⟨by simp, (Below.refl _ _).alloc (Nat.le_refl _) _⟩
  · go_enter Try.func23, Try.ntmps23
    go_wp2
    go_ret
    exact ⟨by first | rfl | exact ret_bool (beq_eq_false_iff_ne.2 hxy).symm, (Below.refl _ _).alloc (Nat.le_refl _) _⟩
/-- The first of the edges from y. -/
structure FirstAt (es : List Ed) (y : Int) (i0 : Nat) : Prop where
  ahead : ∀ (q : Nat) e, q < i0 → es[q]? = some e → e.1 ≠ y
  here : ∃ e, es[i0]? = some e ∧ e.1 = y
theorem firstAt_of {es : List Ed} {y t : Int} (h : (y, t) ∈ es) : ∃ i0, FirstAt es y i0 := by
  induction es with
  | nil => cases h
  | cons x r ih =>
    by_cases hx : x.1 = y
    · exact ⟨0, fun q e hq => absurd hq (by omega), x, rfl, hx⟩
    · rcases List.mem_cons.1 h with h | h
      · subst h; exact absurd rfl hx
      · obtain ⟨i0, h1, e, h2, h3⟩ := ih h
        refine ⟨i0 + 1, fun q e hq he => ?_, e, h2, h3⟩
        cases q with
        | zero => simp at he; subst he; exact hx
        | succ q => exact h1 q e (by omega) (by simpa using he)
set_option maxHeartbeats 1600000 in
theorem index_any (A : Option Addr) (n c : Nat) (es : List Ed) (y : Int) (gy i0 : Nat) (hi0 : FirstAt es y i0) (w : World) (hn : n ≤ 1000) (hE : Eds w w.heap.size A n es) (k : Blk w gy 3 #[.int .i64 y]) :
    Calls Try.prog 33 #[.slice A n c, .func (.func 23) #[] #[.pointer (some ⟨gy, 0, none⟩)]] w fun e w' => e = .returned (.int .i64 (i0 : Nat)) ∧ Below w.heap.size w w' := by
  have HL := hide hE.1
  have HE := hide hE
  have HK := hide k
  have HI := hide hi0
  have hin : i0 < n := by
    obtain ⟨e, h, _⟩ := hi0.here
    have := (List.getElem?_eq_some_iff.1 h).1
    have := hE.1
    omega
  clear hE k hi0
  go_enter Try.func33, Try.ntmps33
  go_wp2
  go_loopw [8] (fun i wr => ∃ k : Nat, k ≤ i0 ∧ i = .int .i64 k ∧ Below w.heap.size w wr) (fun i _ => n - (intOf i).toNat)
  case atStart => exact ⟨0, Nat.zero_le _, rfl, Below.refl _ _⟩
  case round =>
    obtain ⟨k, hk, rfl, hbw⟩ := hrel
    obtain ⟨b, o, ⟨p, t⟩, rfl, hb, hkx, c0, c1⟩ := (HE.out.below hbw (Nat.le_refl _)).at_ (k := k) (by omega)
    have HKX := hide hkx
    have s1 : (k : Int) < n := by omega
    have s0 : (0 : Int) ≤ k := by omega
    have HC := hide (fun (bb : Bool) (hb : (p == y) = bb) => hb ▸ delC_any p t y gy wr (HK.out.via hbw))
    dsimp only at c0 c1
    clear hkx
    by_cases hki : k = i0
    · subst hki
      have HC' := hide (HC.out true (by
        obtain ⟨e, h1, h2⟩ := HI.out.here
        rw [HKX.out] at h1
        injection h1 with h1
        subst h1
        simpa using h2))
      go_wp2_with (go_at_call 23; (with_reducible refine HC'.out.mono ?_); rintro e w' ⟨rfl, hbx⟩)
      go_ret
      exact ⟨rfl, hbw.trans (hbx.mono hbw.size)⟩
    · have HC' := hide (HC.out false (by
        have := HI.out.ahead k _ (by omega) HKX.out
        simpa using this))
      go_wp2_with (go_at_call 23; (with_reducible refine HC'.out.mono ?_); rintro e w' ⟨rfl, hbx⟩)
      go_roundw
      case rel => exact ⟨k + 1, by omega, by go_num, hbw.trans (hbx.mono hbw.size)⟩
      case measure => simp [intOf]; omega
/-- Behind some rounds of DeleteFunc: kept are the first edges that stay; from the j-th on all is as it was. -/
structure CurOk (cur : List Value) (kept es : List Ed) (j : Nat) : Prop where
  left : ∀ (q : Nat) e, kept[q]? = some e → cur[q * 2]? = some (.int .i64 e.1) ∧ cur[q * 2 + 1]? = some (.int .i64 e.2)
  right : ∀ (q : Nat) e, j ≤ q → es[q]? = some e → cur[q * 2]? = some (.int .i64 e.1) ∧ cur[q * 2 + 1]? = some (.int .i64 e.2)
theorem CurOk.pass {cur : List Value} {kept es : List Ed} {j : Nat} (h : CurOk cur kept es j) : CurOk cur kept es (j + 1) := ⟨h.left, fun q e hq => h.right q e (by omega)⟩
theorem CurOk.put {cur : List Value} {kept es : List Ed} {j : Nat} {e : Ed} (h : CurOk cur kept es j) (hj : kept.length < j) (hl : kept.length * 2 + 1 < cur.length) : CurOk ((cur.set (kept.length * 2) (.int .i64 e.1)).set (kept.length * 2 + 1) (.int .i64 e.2)) (kept ++ [e]) es (j + 1) := by
  refine ⟨fun q x hx => ?_, fun q x hq hx => ?_⟩
  · rcases Nat.lt_or_ge q kept.length with hlt | hge
    · rw [List.getElem?_append_left hlt] at hx
      rw [List.getElem?_set_ne (by omega), List.getElem?_set_ne (by omega), List.getElem?_set_ne (by omega), List.getElem?_set_ne (by omega)]
      exact h.left q x hx
    · have hq : q = kept.length := by
        have := (List.getElem?_eq_some_iff.1 hx).1
        rw [List.length_append, List.length_singleton] at this
        omega
      subst hq
      rw [List.getElem?_append_right (Nat.le_refl _), Nat.sub_self] at hx
      injection hx with hx
      subst hx
      rw [List.getElem?_set_ne (by omega), List.getElem?_set_self (by omega), List.getElem?_set_self (by rw [List.length_set]; omega)]
      exact ⟨rfl, rfl⟩
  · rw [List.getElem?_set_ne (by omega), List.getElem?_set_ne (by omega), List.getElem?_set_ne (by omega), List.getElem?_set_ne (by omega)]
    exact h.right q x (by omega) hx
theorem CurOk.start {cur : List Value} {es : List Ed} {y : Int} {i0 : Nat} (hc : cur.take (es.length * 2) = es.flatMap edC) (h : FirstAt es y i0) : CurOk cur (wout (es.take (i0 + 1)) y) es (i0 + 1) ∧ (wout (es.take (i0 + 1)) y).length = i0 := by
  have hat : ∀ (q : Nat) e, es[q]? = some e → cur[q * 2]? = some (.int .i64 e.1) ∧ cur[q * 2 + 1]? = some (.int .i64 e.2) := by
    intro q e he
    have hq := (List.getElem?_eq_some_iff.1 he).1
    have key : ∀ j, j < 2 → cur[q * 2 + j]? = (edC e)[j]? := fun j hj => by
      have h1 : (cur.take (es.length * 2))[q * 2 + j]? = (es.flatMap edC)[q * 2 + j]? := by rw [hc]
      rw [List.getElem?_take_of_lt (by omega), flat_at edC 2 edC_length _ _ _ hj, he] at h1
      exact h1
    exact ⟨key 0 (by omega), key 1 (by omega)⟩
  obtain ⟨e0, h1, h2⟩ := h.here
  have hw : wout (es.take (i0 + 1)) y = es.take i0 := by
    rw [wout_take y h1, if_pos h2]
    refine List.filter_eq_self.2 (fun e he => ?_)
    obtain ⟨q, hq⟩ := List.mem_iff_getElem?.1 he
    have hlt := (List.getElem?_eq_some_iff.1 hq).1
    rw [List.length_take] at hlt
    rw [List.getElem?_take_of_lt (by omega)] at hq
    have := h.ahead q e (by omega) hq
    simpa using this
  rw [hw]
  refine ⟨⟨fun q e he => ?_, fun q e _ he => hat q e he⟩, ?_⟩
  · have hlt := (List.getElem?_eq_some_iff.1 he).1
    rw [List.length_take] at hlt
    rw [List.getElem?_take_of_lt (by omega)] at he
    exact hat q e he
  · have := (List.getElem?_eq_some_iff.1 h1).1
    rw [List.length_take]
    omega
theorem CurOk.take {cur : List Value} {kept es : List Ed} {j : Nat} (h : CurOk cur kept es j) (hl : kept.length * 2 ≤ cur.length) : cur.take (kept.length * 2) = kept.flatMap edC := by
  apply List.ext_getElem?
  intro q
  by_cases hq : q < kept.length * 2
  · rw [List.getElem?_take_of_lt hq]
    have h1 : q / 2 < kept.length := by omega
    have h2 := h.left (q / 2) _ (List.getElem?_eq_getElem h1)
    have h3 := flat_at edC 2 edC_length kept (q / 2) (q % 2) (Nat.mod_lt _ (by omega))
    rw [show q / 2 * 2 + q % 2 = q by omega, List.getElem?_eq_getElem h1] at h3
    rw [h3]
    rcases Nat.mod_two_eq_zero_or_one q with h4 | h4
    · have e : q = q / 2 * 2 := by omega
      rw [h4]
      conv => lhs; rw [e]
      exact h2.1
    · have e : q = q / 2 * 2 + 1 := by omega
      rw [h4]
      conv => lhs; rw [e]
      exact h2.2
  · rw [List.getElem?_eq_none (by rw [List.length_take]; omega), List.getElem?_eq_none (by rw [flat_length _ 2 edC_length]; omega)]
theorem grown_then {w W W' : World} {row : Option Nat} (h : w.grownBy W row) (hb : Below W.heap.size W W') : w.grownBy W' row :=
  ⟨hb.os.trans h.os, hb.tape.trans h.tape, hb.output.trans h.output, Nat.le_trans h.size hb.size, fun k hk hne => (hb.block k (Nat.lt_of_lt_of_le hk h.size)).trans (h.block k hk hne)⟩
theorem grown_set {w W : World} {g : Nat} (h : w.grownBy W (some g)) (i : Nat) (u : Value) : w.grownBy (W.setCell ⟨g, i, none⟩ u) (some g) :=
  ⟨h.os, h.tape, h.output, by simpa [World.setCell] using h.size, fun k hk hne => (Below.heap_setCell W ⟨g, i, none⟩ u k (fun e => hne (by rw [show k = g from e.symm ▸ rfl]))).trans (h.block k hk hne)⟩
def DelRel (es : List Ed) (y : Int) (g cap : Nat) (w : World) (iv jv : Value) (wr : World) : Prop :=
  ∃ (cur : List Value) (j : Nat), iv = .int .i64 ((wout (es.take j) y).length : Nat) ∧ jv = .int .i64 j ∧ (wout (es.take j) y).length < j ∧ j ≤ es.length ∧ Blk wr g 29 cur.toArray ∧ cur.length = cap * 2 ∧ Hid (CurOk cur (wout (es.take j) y) es j) ∧ w.grownBy wr (some g)
set_option maxHeartbeats 3200000 in
set_option maxRecDepth 100000 in
theorem delete_any (g n c : Nat) (es : List Ed) (y t : Int) (gy N : Nat) (w : World) (hn : n ≤ 1000) (hy : (y, t) ∈ es) (hnl : n = es.length) (hown : w.ownsRow N 29 2 (.slice (some ⟨g, 0, none⟩) n c) n (es.flatMap edC)) (k : Blk w gy 3 #[.int .i64 y]) :
    Calls Try.prog 22 #[.slice (some ⟨g, 0, none⟩) n c, .func (.func 23) #[] #[.pointer (some ⟨gy, 0, none⟩)]] w fun e w' =>
      e = .returned (.slice (some ⟨g, 0, none⟩) (wout es y).length c) ∧ w'.ownsRow N 29 2 (.slice (some ⟨g, 0, none⟩) (wout es y).length c) (wout es y).length ((wout es y).flatMap edC) ∧ w.grownBy w' (some g) := by
  obtain ⟨i0, hi0⟩ := firstAt_of hy
  have HI := hide (index_any (some ⟨g, 0, none⟩) n c es y gy i0 hi0 w hn (Eds.of_own hown hnl) k)
  have HL := hide hnl
  have HK := hide k
  have hwo := wout_len hy
  have hin : i0 < n := by
    obtain ⟨e, h, _⟩ := hi0.here
    have := (List.getElem?_eq_some_iff.1 h).1
    omega
  have h2 := hown.2
  have hgy : gy ≠ g := by
    rintro rfl
    rcases h2 with ⟨h0, _⟩ | ⟨g', cap, cur, h0, hb, hh, _⟩
    · cases h0
    · injection h0 with h0 _ _
      injection h0 with h0
      injection h0 with h0
      subst h0
      unfold Blk at k
      rw [hh] at k
      injection k with k
      injection k with _ k
      exact absurd k (by decide)
  rcases h2 with ⟨h0, _⟩ | ⟨g', cap, cur, h0, hb, hh, hnc, hcm, hs, ht⟩
  · cases h0
  · injection h0 with h3 h4 h5
    injection h3 with h3
    injection h3 with h3
    subst h3 h5
    have hc : c ≤ 9223372036854775807 := by unfold maxLen at hcm; omega
    obtain ⟨hco, hcl⟩ := CurOk.start (cur := cur.toList) (y := y) (by rw [← hnl]; exact ht) hi0
    have HCO := hide hco
    have HCL := hide hcl
    have HSZ := hide hs
    have HH := hide (show Blk w g 29 cur.toList.toArray by unfold Blk; simpa using hh)
    clear hown hh ht hs hco hcl hi0 k h4 hy hnl
    go_enter Try.func22, Try.ntmps22
    go_wp2_with fail
    refine HI.out.mono ?_
    rintro e w1 ⟨rfl, hb1⟩
    have s1 : ((i0 : Int) == -1) = false := by rw [beq_eq_false_iff_ne]; omega
    go_wp2
    go_loopw [5, 6] (DelRel es y g c w) (fun _ j _ => n - (intOf j).toNat)
    case atStart => exact ⟨cur.toList, i0 + 1, by rw [HCL.out], by go_num, by rw [HCL.out]; omega, by have := HL.out; omega, HH.out.via hb1, by simpa using HSZ.out, HCO, ⟨hb1.os, hb1.tape, hb1.output, hb1.size, fun q hq _ => hb1.block q hq⟩⟩
    case round =>
      obtain ⟨cur2, j, rfl, rfl, hij, hjl, kb, hcl2, HCO2, hg⟩ := hrel
      have HKw := hide (HK.out.grown hg (fun e => hgy (by injection e)))
      have HG := hide hg
      have hgz := hg.size
      have HKB := hide kb
      have hgl := kb.lt
      have hgw : g < wr.heap.size := hgl
      have f1 := kb.frozen
      by_cases hlt : j < n
      · have hle : j < es.length := by have := HL.out; omega
        obtain ⟨e, he⟩ : ∃ e, es[j]? = some e := ⟨_, List.getElem?_eq_getElem hle⟩
        obtain ⟨p, q⟩ := e
        obtain ⟨d0, d1⟩ := HCO2.out.right j _ (Nat.le_refl _) he
        have hwt := wout_take y he
        have HC := hide (fun (bb : Bool) (hb : (p == y) = bb) (o : Obj) => hb ▸ delC_any p q y gy (wr.alloc o) (HKw.out.alloc o))
        have c0 : wr.cell? ⟨g, j * 2, none⟩ = some (.int .i64 p) := by rw [kb.cell]; simpa using d0
        have c1 : wr.cell? ⟨g, j * 2 + 1, none⟩ = some (.int .i64 q) := by rw [kb.cell]; simpa using d1
        have HWT := hide hwt
        have HCL2 := hide hcl2
        have s2 : (j : Int) < n := by omega
        have s0 : (0 : Int) ≤ j := by omega
        have hmb : (wout (es.take j) y).length * 2 + 1 < cur2.length := by omega
        clear kb hg he d0 d1 hwt hcl2
        by_cases hpy : p = y
        · have HC' := hide (HC.out true (by simpa using hpy))
          have HWT' := hide (show wout (es.take (j + 1)) y = wout (es.take j) y by rw [HWT.out, if_pos hpy])
          have HJ := hide hij
          clear hpy HWT HC
          generalize hm : (wout (es.take j) y).length = m at hmb hij
          have HM := hide hm
          clear hm
          go_wp2_with (go_at_call 23; (with_reducible refine (HC'.out _).mono ?_); rintro e w' ⟨rfl, hbx⟩)
          go_roundw
          case rel =>
            refine ⟨cur2, j + 1, by rw [HWT'.out, HM.out], by go_num, by rw [HWT'.out, HM.out]; omega, hle, (HKB.out.alloc _).via hbx, HCL2.out, hide (by rw [HWT'.out]; exact HCO2.out.pass), ?_⟩
            exact grown_then HG.out (below_via ((Below.refl _ _).alloc (Nat.le_refl _) _) hbx (by simp))
          case measure => simp [intOf]; omega
        · have HC' := hide (HC.out false (by simpa using hpy))
          have HWT' := hide (show wout (es.take (j + 1)) y = wout (es.take j) y ++ [(p, q)] by rw [HWT.out, if_neg hpy])
          have hx0 : ∃ u, cur2[(wout (es.take j) y).length * 2]? = some u := ⟨_, List.getElem?_eq_getElem (by omega)⟩
          have hx1 : ∃ u, cur2[(wout (es.take j) y).length * 2 + 1]? = some u := ⟨_, List.getElem?_eq_getElem (by omega)⟩
          obtain ⟨u0, hu0⟩ := hx0
          obtain ⟨u1, hu1⟩ := hx1
          have HPUT := hide (HCO2.out.put (e := (p, q)) hij hmb)
          clear hpy HWT HC
          generalize hm : (wout (es.take j) y).length = m at *
          have HM := hide hm
          have HU0 := hide hu0
          have HU1 := hide hu1
          have s3 : (m : Int) < n := by omega
          have s4 : (0 : Int) ≤ m := by omega
          clear hm hu0 hu1
          go_wp2_with fail
          refine (HC'.out _).mono ?_
          rintro e w' ⟨rfl, hbx⟩
          have kb' := (HKB.out.alloc (.cells #[.int .i64 p, .int .i64 q] 29)).via hbx
          have kv := (Blk.new wr 29 #[.int .i64 p, .int .i64 q]).via hbx
          have e0 : w'.cell? ⟨g, m * 2, none⟩ = some u0 := by rw [kb'.cell]; simpa using HU0.out
          have e1 : w'.cell? ⟨g, m * 2 + 1, none⟩ = some u1 := by rw [kb'.cell]; simpa using HU1.out
          have v0 := kv.cell 0
          have v1 := kv.cell 1
          have g0 := kb'.frozen (m * 2)
          have g1 := kb'.frozen (m * 2 + 1)
          have KB' := hide kb'
          have hzx := hbx.size
          simp only [List.getElem?_toArray, List.getElem?_cons_zero, List.getElem?_cons_succ] at v0 v1
          clear kb' kv
          go_wp2
          go_roundw
          case rel =>
            refine ⟨(cur2.set (m * 2) (.int .i64 p)).set (m * 2 + 1) (.int .i64 q), j + 1, by rw [HWT'.out, List.length_append, HM.out]; go_num, by go_num, by rw [HWT'.out, List.length_append, HM.out]; simp; omega, hle, ?_, by rw [List.length_set, List.length_set]; exact HCL2.out, hide (by rw [HWT'.out]; exact HPUT.out), ?_⟩
            · have h1 := (KB'.out.set_ (m * 2) (.int .i64 p)).set_ (m * 2 + 1) (.int .i64 q)
              simpa using h1
            · exact grown_set (grown_set (grown_then HG.out (below_via ((Below.refl _ _).alloc (Nat.le_refl _) _) hbx (by simp))) _ _) _ _
          case measure => simp [intOf]; omega
      · obtain rfl : j = n := by have := HL.out; omega
        have hwt : wout (es.take j) y = wout es y := by rw [HL.out, List.take_of_length_le (Nat.le_refl _)]
        rw [hwt] at hij
        have HWT := hide hwt
        have HCO3 := hide (show CurOk cur2 (wout es y) es j by rw [← hwt]; exact HCO2.out)
        have hic : (wout es y).length < c := by omega
        have HCL2 := hide hcl2
        rw [hwt]
        clear kb hg hwt hcl2
        generalize hm : (wout es y).length = m at hij hic hwo ⊢
        have HM := hide hm
        clear hm
        have s2 : ¬ c = m := by omega
        have s3 : (m : Int) ≤ j := by omega
        have s4 : (0 : Int) ≤ m := by omega
        have s5 : (m : Int) ≤ c := by omega
        obtain ⟨hzl, hz1⟩ := zeros_edge (j - m)
        go_wp2_with (refine wpList_clear_blkN rfl (.tmp 38) 22 rfl 29 _ Try.underlying22 zero_edge (j - m) (by omega) rfl g (m * 2) 29 cur2 (c - m) rfl HKB.out (by rw [hzl, HCL2.out]; omega) hz1 ?_; intro w2 hk2 ht2)
        go_ret
        refine ⟨by rw [HM.out]; rfl, ⟨?_, .inr ⟨g, c, _, by rw [HM.out], hb, hk2, by rw [HM.out]; omega, hcm, ?_, ?_⟩⟩, ?_⟩
        · rw [HM.out]; rw [flat_length _ 2 edC_length, HM.out]
        · simp only [List.size_toArray]
          rw [spl_length (by rw [hzl, HCL2.out]; omega), HCL2.out]
        · rw [HM.out]
          have h1 := HCO3.out.take (by rw [HM.out, HCL2.out]; omega)
          rw [HM.out] at h1
          rw [← h1]
          unfold spl
          rw [List.take_append_of_le_length (by rw [List.length_take, HCL2.out]; omega), List.take_take, Nat.min_self]
        · exact ⟨ht2.os.trans HG.out.os, ht2.tape.trans HG.out.tape, ht2.output.trans HG.out.output, by have := HG.out.size; have := ht2.size; omega, fun q hq hne => (ht2.block q (by have : q ≠ g := fun e => hne (by rw [e]); omega)).trans (HG.out.block q hq hne)⟩
theorem wout_srtE (l : List Ed) (y : Int) : wout (srtE l) y = srtE (wout l y) := srtE_filter l _
/-- Between two rounds of the program's Victims. -/
def VwRel (es : List Ed) (a : Int) (w : World) (ov sv rv : Value) (wr : World) : Prop :=
  ∃ (A : Option Addr) (n c : Nat) (left : List Ed) (out : List Int) (A2 : Option Addr) (n2 c2 : Nat), sv = .slice A n c ∧ n = left.length ∧ n ≤ 900 ∧ wr.ownsRow w.heap.size 29 2 (.slice A n c) n ((srtE left).flatMap edC) ∧ Hid (∀ e ∈ left, e ∈ es) ∧
    Hid (∃ f, left.length ≤ f ∧ out ++ vic a f left = vic a es.length es) ∧ out.length + left.length ≤ es.length ∧ wr.ownsRow w.heap.size 3 1 ov out.length (out.map (Value.int .i64)) ∧ rv = .slice A2 n2 c2 ∧ Ints wr wr.heap.size A2 n2 (cyc left a) ∧ n2 ≤ 1001 ∧ Below w.heap.size w wr
set_option maxHeartbeats 3200000 in
set_option maxRecDepth 100000 in
theorem wVictims_any (A : Option Addr) (n c : Nat) (es : List Ed) (a : Int) (B : Nat) (w : World) (hB : B ≤ w.heap.size) (hn : n ≤ 900) (hE : Eds w B A n es) (hc : A = none → c = 0) (hwe : ∀ e ∈ es, (Lit.int .i64 e.2).wf = true) (hwa : (Lit.int .i64 a).wf = true) :
    Calls Try.prog 11 #[.slice A n c, .int .i64 a] w (IntsPost (vic a es.length es) w) := by
  have HS := hide (sorted_any A n c es B w hB (by omega) hE hc)
  have HL := hide hE.1
  have HSL := hide (srtE_len es)
  have HWE := hide hwe
  have HWA := hide hwa
  obtain ⟨i0, hi, hz0, hz1, hz2⟩ := info_parts info_ints
  clear hE hc hwe hwa
  go_enter Try.func11, Try.ntmps11
  go_wp2_with fail
  refine HS.out.mono ?_
  rintro e w1 ⟨A1, c1, rfl, hown, hb1⟩
  rw [HSL.out, ← HL.out] at hown ⊢
  have HO1 := hide hown
  have HR := hide (ring_any A1 n c1 es a w1.heap.size w1 (Nat.le_refl _) hn (Eds.of_own hown (by rw [HSL.out]; exact HL.out)) HWE.out HWA.out)
  clear hown
  go_wp2_with fail
  refine HR.out.mono ?_
  rintro e w2 ⟨A2, n2, c2, rfl, hi2, hb2⟩
  have hn2 : n2 ≤ 1001 := by have := hi2.1; have := cyc_len es a; have := HL.out; omega
  have HI2 := hide hi2
  have hbw2 := hb1.trans (hb2.mono hb1.size)
  clear hi2
  go_wp2
  go_loopw [5, 6, 7] (VwRel es a w) (fun _ s _ _ => sliceLen s)
  case atStart => exact ⟨A1, n, c1, es, [], A2, n2, c2, rfl, HL.out, hn, own_via HO1.out hb2, hide (fun _ h => h), hide ⟨es.length, Nat.le_refl _, rfl⟩, by simp, World.ownsRow_nil _ _ _ 1, rfl, HI2.out, hn2, hbw2⟩
  case round =>
    obtain ⟨A3, n3, c3, left, out, A4, n4, c4, rfl, hnl, hn3, hos, HSub, HV, hol, hown, rfl, hir, hn4, hbw⟩ := hrel
    have HOS := hide hos
    have HIR := hide hir
    have HO := hide hown
    have HN := hide hnl
    have hz := hbw.size
    have hol2 : out.length ≤ 1000 := by have := HL.out; omega
    by_cases h0 : cyc left a = []
    · obtain rfl : n4 = 0 := by have := hir.1; rw [h0] at this; exact this
      have HF := hide (show out = vic a es.length es by
        obtain ⟨f, _, h⟩ := HV.out
        rw [← h, vic_nil h0, List.append_nil])
      obtain ⟨A5, c5, rfl, _⟩ := own_slice hown
      clear h0 hos hir hown hnl
      generalize hm : out.length = m at HO hol hol2 ⊢
      have HM := hide hm
      clear hm
      go_wp2
      go_ret
      exact ⟨A5, m, c5, rfl, ⟨by rw [← HF.out]; exact HM.out.symm, by rw [← HF.out]; exact Reads.of_own HO.out⟩, hbw⟩
    · have h3 : 0 < n4 := by
        rw [hir.1]
        exact List.length_pos_iff.2 h0
      obtain ⟨t, hyt⟩ := young_edge h0
      have hyl : (wout left (young (cyc left a))).length < left.length := wout_len hyt
      have hV' : ∃ f, (wout left (young (cyc left a))).length ≤ f ∧ (out ++ [young (cyc left a)]) ++ vic a f (wout left (young (cyc left a))) = vic a es.length es := by
        obtain ⟨f, hf, h⟩ := HV.out
        obtain ⟨g, _, h2, h3⟩ := vic_cons h0 hf
        exact ⟨g, h2, by rw [← h, h3, List.append_assoc]; rfl⟩
      have HV' := hide hV'
      have HSub' := hide (show ∀ e ∈ wout left (young (cyc left a)), e ∈ es from fun e he => HSub.out e (mem_wout.1 he).1)
      have HY := hide (wYoung_any A4 n4 c4 (cyc left a) wr.heap.size wr (by omega) hir)
      have HYT := hide (mem_srtE.2 hyt)
      clear h0 hos hir hown hV' hyt hnl
      generalize young (cyc left a) = y at HY hyl HV' HSub' HYT
      obtain ⟨A5, c5, rfl, hnc5, _⟩ := own_slice HO.out
      have hsg : ∃ g, A3 = some ⟨g, 0, none⟩ := by
        rcases HOS.out.2 with ⟨h1, h2⟩ | ⟨g, cap, cur, h1, _⟩
        · have := HN.out; omega
        · injection h1 with h1 _ _
          exact ⟨g, h1⟩
      obtain ⟨g3, rfl⟩ := hsg
      generalize hm : out.length = m at HO hol hol2 hnc5 ⊢
      have HM := hide hm
      clear hm
      go_wp2_with (first | (go_at_call 16; refine HY.out.mono ?_; rintro e w' ⟨rfl, hw'⟩; obtain rfl := hw'.symm) | (at_builtin; refine heldG ?_))
      refine unheldG ?_
      at_builtin
      refine wpList_append_any _ rfl _ _ _ rfl w.heap.size 3 i0 _ 1 8 Try.underlying24 hi hz0 hz1 hz2 rfl (by omega) (.slice A5 m c5) m _ rfl ((HO.out.alloc _).alloc _) (wr.heap.size + 1 + 1) (some ⟨wr.heap.size + 1, 0, none⟩) 1 1 [.int .i64 y] rfl (Reads.of_blk (n := 1) (size := 1) (t := 3) (cs := #[.int .i64 y]) (by simpa using Blk.new (wr.alloc (.cells #[.int .i64 y] 3)) 3 #[.int .i64 y]) rfl) (ints_one [y]) (by unfold maxLen; omega) (by omega) (by simp; omega) ?_
      intro v4 w4 hown4 hg4 _
      have hbw4 : Below w.heap.size w w4 := ((hbw.alloc hz _).alloc (by simp; omega) _).grown hg4 (by simp; omega) (fun q hq => (HO.out.lt q hq).1)
      have hz4 := hbw4.size
      have ky : Blk w4 wr.heap.size 3 #[.int .i64 y] := ((Blk.new wr 3 #[.int .i64 y]).alloc _).grown hg4 (fun e => by have := (World.ownsRow.lt HO.out _ e.symm).2; omega)
      have hos4 := own_keep ((HOS.out.alloc _).alloc _) ((HO.out.alloc _).alloc _) (by decide) hg4
      have HD := hide (delete_any g3 n3 c3 (srtE left) y t wr.heap.size w.heap.size w4 (by omega) HYT.out (by rw [srtE_len]; exact HN.out) hos4 ky)
      rw [wout_srtE, srtE_len] at HD
      obtain ⟨A6, d6, rfl, _⟩ := own_slice hown4
      have HO4 := hide hown4
      have HOS4 := hide hos4
      clear hown4 hg4 ky hos4
      go_wp2_with fail
      refine HD.out.mono ?_
      rintro e w5 ⟨rfl, hown5, hg5⟩
      have hbw5 : Below w.heap.size w w5 := hbw4.grown hg5 hz4 (fun q hq => by cases hq; exact (World.ownsRow.lt HOS4.out g3 rfl).1)
      have hz5 := hbw5.size
      have hout5 := own_keep HO4.out HOS4.out (by decide) hg5
      generalize hwl : wout left y = left' at hyl HV' HSub' hown5
      have hl9 : left'.length ≤ 900 := by have := HN.out; omega
      have HR5 := hide (ring_any (some ⟨g3, 0, none⟩) left'.length c3 left' a w5.heap.size w5 (Nat.le_refl _) hl9 (Eds.of_own hown5 (srtE_len _).symm) (fun e he => HWE.out e (HSub'.out e he)) HWA.out)
      have HO5 := hide hown5
      have HT5 := hide hout5
      clear hwl hown5 hout5 hg5
      go_wp2_with fail
      refine HR5.out.mono ?_
      rintro e w6 ⟨A7, n7, c7, rfl, hi7, hb6⟩
      have hbw6 := hbw5.trans (hb6.mono hz5)
      have hn7 : n7 ≤ 1001 := by have := hi7.1; have := cyc_len left' a; omega
      have HI7 := hide hi7
      clear hi7
      generalize hml : left'.length = ml at *
      have HML := hide hml
      clear hml
      go_wp2
      go_roundw
      case rel => exact ⟨some ⟨g3, 0, none⟩, ml, c3, left', out ++ [y], A7, n7, c7, rfl, HML.out.symm, hl9, own_via HO5.out hb6, HSub', by have := HV'.out; rwa [← HML.out] at this, by have := HM.out; have := HML.out; simp; omega, by
        rw [List.length_append, HM.out, List.map_append]
        exact own_via HT5.out hb6, rfl, HI7.out, hn7, hbw6⟩
      case measure => have := HN.out; have := HML.out; simp only [sliceLen]; omega
end Go.Proofs.Ytkbcenddhcnkeaa
