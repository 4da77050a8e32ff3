/-
  THE SEARCH of waits.ring: its state in memory. WALK: waits.ring's closure (it calls itself).
-/
import Derived.Test.YtkbcenddhcnkeaaGH
import Derived.Test.YtkbcenddhcnkeaaGG
import Derived.Maps.OwnSet
import Derived.Deep.LoopGhost
namespace Go.Proofs.Ytkbcenddhcnkeaa
open Go.RowKit Go.Maps Go.Deep

/-- A place of the way, and the edge that is looked at next. -/
abbrev Stand := Int × Nat
def stC (x : Stand) : List Value := [.int .i64 x.1, .int .i64 (x.2 : Nat)]
theorem stC_length (x : Stand) : (stC x).length = 2 := rfl
theorem info_stand : (Try.prog.info? 46).map (fun i => (i.zero, i.size, i.bytes)) = some (some (.agg #[.int .i64 0, .int .i64 0]), 2, 16) := by kernel_rfl
theorem keyI : Keyed Try.prog 3 := int_keyed Try.underlying3
theorem zeroU (w : World) : (zeroValue 43).run Try.prog w = .ok (.agg #[]) w := by kernel_rfl
/-- The places that were gone into, as a map reads. -/
def goneD (sn : List Int) : DataW Unit := setOf (.agg []) (sn.map (Lit.int .i64))
theorem any_int (x : Int) : ∀ l : List Int, l.any ((fun y : Lit => y.sameKey (.int .i64 x)) ∘ Lit.int .i64) = decide (x ∈ l)
  | [] => rfl
  | a :: r => by
    rw [List.any_cons, any_int x r]
    show (decide (IntKind.i64 = IntKind.i64 ∧ a = x) || _) = _
    by_cases e : a = x
    · subst e
      simp
    · have e' : ¬ x = a := fun h => e h.symm
      simp [e, e']
theorem has_goneD (sn : List Int) (x : Int) : Maps.has (goneD sn) (.int .i64 x) = decide (x ∈ sn) := by
  unfold goneD
  rw [has_setOf _ _ _ (fun y hy => by obtain ⟨_, _, rfl⟩ := List.mem_map.1 hy; trivial), List.any_map]
  exact any_int x sn
theorem goneD_snoc (sn : List Int) (x : Int) : goneD (sn ++ [x]) = (goneD sn).put (.int .i64 x) (.agg []) := by
  unfold goneD
  rw [List.map_append]
  exact setOf_snoc _ _ _
theorem wpList_insert_own {H : Type} {P : Program} (w : World) {ops : Array Oper} {rest : List Oper} {o : Oper} {a : Act} {Q : Exit → Act → World → Prop}
    (hg : o.guard = none) (m x v : Operand) (t : TypeId) (hop : o.op = Op.insert t m x v)
    (k e : TypeId) (K : Keyed P k) (ht : P.underlying t = some (.map k e)) (R : Value → Option (DataW H × List MemPlace)) (b n : Nat) (D : DataW H)
    (hm : a.eval m = .map (some b)) (hown : w.ownsMap P k R b n D) (hn : n < maxLen) (key val : Value) (kl : Lit) (hx : a.eval x = key) (hv : a.eval v = val) (hkey : keyOf P k key = some kl)
    (d : DataW H) (ps : List MemPlace) (hval : R val = some (d, ps))
    (hK : ∀ w', w'.ownsMap P k R b (n + 1) (D.put kl d) → w.grownBy w' (some b) → wpList P ops Q rest (a.put o.dst undef) w') :
    wpList P ops Q (o :: rest) a w := by
  refine wpList_plain hg fun K' hK' => ?_
  obtain ⟨w', hrun, r1, r2⟩ := hown.update K ht hn hkey hval
  unfold Oper.wp
  simp [execOp, hop, hm, hx, hv, hrun, Result.andThen]
  exact hK' _ _ (hK w' r1 r2)
/-- The blocks of a search. -/
structure SrB where
  w0 : World
  B : Nat
  bs : Nat
  bf : Nat
  bg : Nat
  bq : Nat
  br : Nat
  gm : Nat
  A : Option Addr
  n : Nat
  c : Nat
  es : List Ed
  a : Int
/-- What stays through a search. -/
structure SrB.Ok (X : SrB) : Prop where
  hB : X.B ≤ X.w0.heap.size
  hn : X.n ≤ 900
  he : Eds X.w0 X.B X.A X.n (srtE X.es)
  wf : ∀ e ∈ X.es, (Lit.int .i64 e.2).wf = true
  br : X.w0.heap.size ≤ X.br
  gm : X.w0.heap.size ≤ X.gm
def SrB.args (X : SrB) : Array Value := #[.pointer (some ⟨X.br, 0, none⟩), .pointer (some ⟨X.bs, 0, none⟩), .pointer (some ⟨X.bf, 0, none⟩), .pointer (some ⟨X.bg, 0, none⟩), .pointer (some ⟨X.bq, 0, none⟩)]
/-- A row of stands of one's own. -/
def StRow (N : Nat) (v : Value) (st : List Stand) (w : World) : Prop := w.ownsRow N 46 2 v st.length (st.flatMap stC)
structure SrSt (X : SrB) (st : List Stand) (sn : List Int) (w : World) : Prop where
  b : Below X.w0.heap.size X.w0 w
  kS : Blk w X.bs 22 #[.slice X.A X.n X.c]
  kF : Blk w X.bf 3 #[.int .i64 X.a]
  kG : Blk w X.bg 44 #[.map (some X.gm)]
  kQ : Blk w X.bq 48 #[.func (.func 26) #[] X.args]
  kR : ∃ v, Blk w X.br 47 #[v] ∧ StRow X.w0.heap.size v st w
  kM : ∃ k, k ≤ sn.length ∧ w.ownsMap Try.prog 3 (unitElem (H := Unit)) X.gm k (goneD sn)
theorem Blk.keepRow {w w' : World} {b base n s : Nat} {t e : TypeId} {cs : Array Value} {v : Value} {xs : List Value} (k : Blk w b t cs) (h2 : w.ownsRow base e s v n xs) (hne : t ≠ e) (hg : w.grownBy w' v.ownBlock) : Blk w' b t cs := by
  refine k.grown hg (fun e' => ?_)
  obtain ⟨_, ⟨rfl, _⟩ | ⟨g, _, cur, rfl, _, hh, _⟩⟩ := h2
  · cases e'
  · injection e' with e'
    subst e'
    exact k.ne_ (show Blk w b e cur from hh) hne rfl
theorem Map.keepRow {w w' : World} {k : TypeId} {R : Value → Option (DataW Unit × List MemPlace)} {b base n m s : Nat} {D : DataW Unit} {e : TypeId} {v : Value} {xs : List Value} (h : w.ownsMap Try.prog k R b m D) (h2 : w.ownsRow base e s v n xs) (hg : w.grownBy w' v.ownBlock) : w'.ownsMap Try.prog k R b m D := by
  refine h.kept hg (fun e' => ?_)
  obtain ⟨es, clock, hb, _⟩ := h
  obtain ⟨_, ⟨rfl, _⟩ | ⟨g, _, cur, rfl, _, hh, _⟩⟩ := h2
  · cases e'
  · injection e' with e'
    subst e'
    rw [hb] at hh
    cases hh
theorem row_of_map {w w' : World} {k : TypeId} {R : Value → Option (DataW Unit × List MemPlace)} {b base n m s : Nat} {D : DataW Unit} {e : TypeId} {v : Value} {xs : List Value} (h : w.ownsMap Try.prog k R b m D) (h2 : w.ownsRow base e s v n xs) (hg : w.grownBy w' (some b)) : w'.ownsRow base e s v n xs := by
  obtain ⟨hl, h2⟩ := h2
  refine ⟨hl, ?_⟩
  rcases h2 with h2 | ⟨g, cap, cur, rfl, hb, hh, hr⟩
  · exact .inl h2
  · refine .inr ⟨g, cap, cur, rfl, hb, (hg.block g (Array.getElem?_eq_some_iff.1 hh).1 (fun e' => ?_)).trans hh, hr⟩
    injection e' with e'
    subst e'
    obtain ⟨es, clock, hb2, _⟩ := h
    rw [hb2] at hh
    cases hh
theorem Blk.of_map {w w' : World} {k : TypeId} {R : Value → Option (DataW Unit × List MemPlace)} {b g m : Nat} {D : DataW Unit} {t : TypeId} {cs : Array Value} (h : w.ownsMap Try.prog k R b m D) (k : Blk w g t cs) (hg : w.grownBy w' (some b)) : Blk w' g t cs := by
  refine k.grown hg (fun e' => ?_)
  injection e' with e'
  subst e'
  obtain ⟨es, clock, hb2, _⟩ := h
  unfold Blk at k
  rw [hb2] at k
  cases k
theorem row_far {w : World} {base n s b : Nat} {t e : TypeId} {cs : Array Value} {v : Value} {xs : List Value} (k : Blk w b t cs) (h2 : w.ownsRow base e s v n xs) (hne : t ≠ e) (i : Nat) (u : Value) : (w.setCell ⟨b, i, none⟩ u).ownsRow base e s v n xs := by
  obtain ⟨hl, h2⟩ := h2
  refine ⟨hl, ?_⟩
  rcases h2 with h2 | ⟨g, cap, cur, rfl, hb, hh, hr⟩
  · exact .inl h2
  · refine .inr ⟨g, cap, cur, rfl, hb, (Below.heap_setCell w ⟨b, i, none⟩ u g (fun e' => ?_)).trans hh, hr⟩
    have e' : g = b := e'
    subst e'
    exact k.ne_ (show Blk w g e cur from hh) hne rfl
section
variable {X : SrB} {st : List Stand} {sn : List Int} {w w' : World}
theorem SrSt.via (h : SrSt X st sn w) (hb : Below w.heap.size w w') : SrSt X st sn w' := by
  obtain ⟨v, k1, k2⟩ := h.kR
  obtain ⟨k, hk, hm⟩ := h.kM
  exact ⟨h.b.trans (hb.mono h.b.size), h.kS.via hb, h.kF.via hb, h.kG.via hb, h.kQ.via hb, ⟨v, k1.via hb, own_via k2 hb⟩, ⟨k, hk, hm.kept (row := none) ⟨hb.os, hb.tape, hb.output, hb.size, fun q hq _ => hb.block q hq⟩ (by simp)⟩⟩
theorem SrSt.alloc (h : SrSt X st sn w) (o : Obj) : SrSt X st sn (w.alloc o) := h.via ((Below.refl _ _).alloc (Nat.le_refl _) _)
theorem SrSt.drewN (h : SrSt X st sn w) (d : Nat) : SrSt X st sn (w.drewN d) := h.via (below_drewN (Below.refl _ _) d)
/-- The state's last place: its row. -/
theorem SrSt.row {st0 : List Stand} {z : Int} {i : Nat} (h : SrSt X (st0 ++ [(z, i)]) sn w) : ∃ g c, Blk w X.br 47 #[.slice (some ⟨g, 0, none⟩) (st0.length + 1) c] ∧ StRow X.w0.heap.size (.slice (some ⟨g, 0, none⟩) (st0.length + 1) c) (st0 ++ [(z, i)]) w ∧ g < w.heap.size ∧ st0.length + 1 ≤ c ∧
    w.cell? ⟨g, st0.length * 2, none⟩ = some (.int .i64 z) ∧ w.cell? ⟨g, st0.length * 2 + 1, none⟩ = some (.int .i64 (i : Nat)) ∧ w.frozen? ⟨g, st0.length * 2 + 1, none⟩ = false := by
  obtain ⟨v, k1, k2⟩ := h.kR
  have hl : (st0 ++ [(z, i)]).length = st0.length + 1 := by simp
  have k3 := k2
  unfold StRow at k3
  rcases k3.2 with ⟨_, h0⟩ | ⟨g, cap, cur, rfl, hb, hh, hnc, hr⟩
  · rw [hl] at h0; omega
  · rw [hl] at k1 k2 k3 hnc
    have hg : ∀ j, j < 2 → w.cell? ⟨g, st0.length * 2 + j, none⟩ = (stC (z, i))[j]? := fun j hj => by
      rw [k3.cellAt _ (by omega), flat_at stC 2 stC_length _ _ _ hj, List.getElem?_append_right (Nat.le_refl _), Nat.sub_self]
      rfl
    exact ⟨g, cap, k1, (by unfold StRow; rw [hl]; exact k3), (Array.getElem?_eq_some_iff.1 hh).1, hnc, hg 0 (by omega), hg 1 (by omega), k3.frozenAt _⟩
theorem flat_last (st0 : List Stand) (z : Int) (i i' : Nat) : ((st0 ++ [(z, i)]).flatMap stC).set (st0.length * 2 + 1) (.int .i64 (i' : Nat)) = (st0 ++ [(z, i')]).flatMap stC := by
  rw [List.flatMap_append, List.flatMap_append, List.set_append_right _ _ (by rw [flat_length _ 2 stC_length]; omega), flat_length _ 2 stC_length]
  have : st0.length * 2 + 1 - st0.length * 2 = 1 := by omega
  rw [this]
  rfl
/-- The next edge. -/
theorem SrSt.tick {st0 : List Stand} {z : Int} {i g c : Nat} (h : SrSt X (st0 ++ [(z, i)]) sn w) (k1 : Blk w X.br 47 #[.slice (some ⟨g, 0, none⟩) (st0.length + 1) c]) (k2 : StRow X.w0.heap.size (.slice (some ⟨g, 0, none⟩) (st0.length + 1) c) (st0 ++ [(z, i)]) w) (i' : Nat) :
    SrSt X (st0 ++ [(z, i')]) sn (w.setCell ⟨g, st0.length * 2 + 1, none⟩ (.int .i64 (i' : Nat))) := by
  have hl : ∀ i, (st0 ++ [(z, i)]).length = st0.length + 1 := by simp
  unfold StRow at k2
  rw [hl] at k2
  obtain ⟨k3, hg⟩ := k2.stored (st0.length * 2 + 1) (.int .i64 (i' : Nat))
  rw [flat_last] at k3
  obtain ⟨k, hk, hm⟩ := h.kM
  have hbl : X.w0.heap.size ≤ g := (World.ownsRow.lt k2 g rfl).1
  exact ⟨h.b.setCell (p := ⟨g, st0.length * 2 + 1, none⟩) hbl _, h.kS.keepRow k2 (by decide) hg, h.kF.keepRow k2 (by decide) hg, h.kG.keepRow k2 (by decide) hg, h.kQ.keepRow k2 (by decide) hg,
    ⟨_, k1.keepRow k2 (by decide) hg, by unfold StRow; rw [hl]; exact k3⟩, ⟨k, hk, Map.keepRow hm k2 hg⟩⟩
/-- One place less. -/
theorem SrSt.pop {st0 : List Stand} {z : Int} {i g c : Nat} (h : SrSt X (st0 ++ [(z, i)]) sn w) (hX : X.Ok) (k1 : Blk w X.br 47 #[.slice (some ⟨g, 0, none⟩) (st0.length + 1) c]) (k2 : StRow X.w0.heap.size (.slice (some ⟨g, 0, none⟩) (st0.length + 1) c) (st0 ++ [(z, i)]) w) :
    SrSt X st0 sn (w.setCell ⟨X.br, 0, none⟩ (.slice (some ⟨g, 0, none⟩) st0.length c)) := by
  have hl : ∀ i, (st0 ++ [(z, i)]).length = st0.length + 1 := by simp
  unfold StRow at k2
  rw [hl] at k2
  have k3 : w.ownsRow X.w0.heap.size 46 2 (.slice (some ⟨g, 0, none⟩) st0.length c) st0.length (st0.flatMap stC) := by
    refine ⟨flat_length _ 2 stC_length _, ?_⟩
    rcases k2.2 with ⟨h0, _⟩ | ⟨g', cap, cur, h0, hb, hh, hnc, hcm, hs, ht⟩
    · cases h0
    · injection h0 with e1 _ e3
      injection e1 with e1
      injection e1 with e1
      subst e1 e3
      refine .inr ⟨g, c, cur, rfl, hb, hh, by omega, hcm, hs, ?_⟩
      have h5 := congrArg (List.take (st0.length * 2)) ht
      rw [List.take_take, flat_take stC 2 stC_length, Nat.min_eq_left (by omega), List.take_append_of_le_length (Nat.le_refl _), List.take_length] at h5
      exact h5
  have hf : ∀ {b : Nat} {t : TypeId} {cs : Array Value} (k : Blk w b t cs), t ≠ 47 → Blk (w.setCell ⟨X.br, 0, none⟩ (.slice (some ⟨g, 0, none⟩) st0.length c)) b t cs := fun k hne => k.far (k.ne_ k1 hne) _
  obtain ⟨k, hk, hm⟩ := h.kM
  exact ⟨h.b.setCell (p := ⟨X.br, 0, none⟩) hX.br _, hf h.kS (by decide), hf h.kF (by decide), hf h.kG (by decide), hf h.kQ (by decide), ⟨_, k1.set_ 0 _, row_far k1 k3 (by decide) _ _⟩, ⟨k, hk, hm.setCell (fun e => by
    obtain ⟨es, clock, hb2, _⟩ := hm
    have e : X.gm = X.br := e
    unfold Blk at k1
    rw [← e, hb2] at k1
    cases k1) _⟩⟩
/-- One more place that was gone into. -/
theorem SrSt.note {m : Int} {kk : Nat} (h : SrSt X st sn w) (hX : X.Ok) (hm : w.ownsMap Try.prog 3 (unitElem (H := Unit)) X.gm kk (goneD sn)) (hm' : w'.ownsMap Try.prog 3 (unitElem (H := Unit)) X.gm (kk + 1) ((goneD sn).put (.int .i64 m) (.agg []))) (hk : kk ≤ sn.length) (hg : w.grownBy w' (some X.gm)) : SrSt X st (sn ++ [m]) w' := by
  obtain ⟨v, k1, k2⟩ := h.kR
  rw [← goneD_snoc] at hm'
  exact ⟨h.b.grown hg h.b.size (fun q hq => by cases hq; exact hX.gm), h.kS.of_map hm hg, h.kF.of_map hm hg, h.kG.of_map hm hg, h.kQ.of_map hm hg, ⟨v, k1.of_map hm hg, row_of_map hm k2 hg⟩, ⟨kk + 1, by simp; omega, hm'⟩⟩
/-- One place more: behind an append a store. -/
theorem SrSt.push {x : Stand} {v v' : Value} (h : SrSt X st sn w) (hX : X.Ok) (k1 : Blk w X.br 47 #[v]) (k2 : StRow X.w0.heap.size v st w) (hown : w'.ownsRow X.w0.heap.size 46 2 v' (st.length + 1) (st.flatMap stC ++ stC x)) (hg : w.grownBy w' v.ownBlock) : SrSt X (st ++ [x]) sn (w'.setCell ⟨X.br, 0, none⟩ v') := by
  unfold StRow at k2
  have q1 := k1.keepRow k2 (by decide) hg
  have hf : ∀ {b : Nat} {t : TypeId} {cs : Array Value} (k : Blk w' b t cs), t ≠ 47 → Blk (w'.setCell ⟨X.br, 0, none⟩ v') b t cs := fun k hne => k.far (k.ne_ q1 hne) _
  obtain ⟨k, hk, hm⟩ := h.kM
  have hm' := Map.keepRow hm k2 hg
  have hbw : Below X.w0.heap.size X.w0 w' := h.b.grown hg h.b.size (fun q hq => (World.ownsRow.lt k2 q hq).1)
  refine ⟨hbw.setCell (p := ⟨X.br, 0, none⟩) hX.br _, hf (h.kS.keepRow k2 (by decide) hg) (by decide), hf (h.kF.keepRow k2 (by decide) hg) (by decide), hf (h.kG.keepRow k2 (by decide) hg) (by decide), hf (h.kQ.keepRow k2 (by decide) hg) (by decide), ⟨_, q1.set_ 0 _, ?_⟩, ⟨k, hk, hm'.setCell (fun e => by
    obtain ⟨es, clock, hb2, _⟩ := hm'
    have e : X.gm = X.br := e
    unfold Blk at q1
    rw [← e, hb2] at q1
    cases q1) _⟩⟩
  unfold StRow
  rw [List.length_append, List.flatMap_append, List.flatMap_singleton]
  exact row_far q1 hown (by decide) _ _
end
end Go.Proofs.Ytkbcenddhcnkeaa
