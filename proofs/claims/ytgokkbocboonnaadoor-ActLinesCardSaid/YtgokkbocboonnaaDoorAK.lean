/-
  WALK OF THE PROGRAM: act.actOf: an act by its words.
-/
import Derived.Test.YtgokkbocboonnaaDoorAJ
import Derived.Deep.DeepCutAuto
import Derived.Deep.RegionHeld3
namespace Go.Proofs.YtgokkbocboonnaaDoor
open Go.RowKit Go.Shelf

/-- Numbers in memory of the program's own, in blocks from 'base' on. -/
def OwnI (w : World) (base : Nat) (v : Value) (ns : List Int) : Prop :=
  ∃ A c, v = .slice A ns.length c ∧ ns.length ≤ c ∧ c ≤ 1000000 ∧ (0 < ns.length → ∃ g o cs, A = some ⟨g, o, none⟩ ∧ base ≤ g ∧ Blk w g 3 cs ∧ ∀ (i : Nat) x, ns[i]? = some x → cs[o + i]? = some (Value.int .i64 x))
section
variable {w w' : World} {base base' : Nat} {v : Value} {ns : List Int}
theorem OwnI.nil (w : World) (base : Nat) : OwnI w base (.slice none 0 0) [] := ⟨none, 0, rfl, Nat.le_refl _, Nat.zero_le _, fun h => absurd h (by decide)⟩
theorem OwnI.low (h : OwnI w base v ns) (hb : base' ≤ base) : OwnI w base' v ns := by
  obtain ⟨A, c, h1, h2, h3, h4⟩ := h
  exact ⟨A, c, h1, h2, h3, fun hn => by obtain ⟨g, o, cs, e, hg, k, r⟩ := h4 hn; exact ⟨g, o, cs, e, Nat.le_trans hb hg, k, r⟩⟩
theorem OwnI.keep (h : OwnI w base v ns) (hk : ∀ (q : Nat) (cs : Array Value), base ≤ q → Blk w q 3 cs → Blk w' q 3 cs) : OwnI w' base v ns := by
  obtain ⟨A, c, h1, h2, h3, h4⟩ := h
  exact ⟨A, c, h1, h2, h3, fun hn => by obtain ⟨g, o, cs, e, hg, k, r⟩ := h4 hn; exact ⟨g, o, cs, e, hg, hk g cs hg k, r⟩⟩
theorem OwnI.via (h : OwnI w base v ns) (hb : Below w.heap.size w w') : OwnI w' base v ns := h.keep fun _ _ _ k => Blk.via hb k
theorem OwnI.form (h : OwnI w base v ns) : ∃ A c, v = .slice A ns.length c := by
  obtain ⟨A, c, h1, _⟩ := h
  exact ⟨A, c, h1⟩
theorem OwnI.ints (h : OwnI w base v ns) : IntsAt w w.heap.size v ns := by
  obtain ⟨A, c, rfl, h2, h3, h4⟩ := h
  refine ⟨A, c, rfl, h2, rfl, by simp, fun hn => ?_⟩
  obtain ⟨g, o, cs, rfl, hg, k, r⟩ := h4 hn
  refine ⟨_, rfl, k.lt, fun j u hu => ?_⟩
  rw [add_plain, k.cell]
  rw [List.getElem?_map] at hu
  cases hx : ns[j]? with
  | none => rw [hx] at hu; cases hu
  | some x => rw [hx] at hu; injection hu with hu; subst hu; exact r j x hx
theorem OwnI.one (h : OwnI w base v ns) : v.oneCell' = true := by obtain ⟨A, c, rfl, _⟩ := h; rfl
end
/-- An act in memory of the program's own. -/
def OwnA (w : World) (base : Nat) (x : ActV) : Prop := OwnB w base x.dv x.d.op.data ∧ OwnI w base x.pv x.d.pages
theorem OwnA.low {w : World} {base base' : Nat} {x : ActV} (h : OwnA w base x) (hb : base' ≤ base) : OwnA w base' x := ⟨h.1.low hb, h.2.low hb⟩
theorem OwnA.via {w w' : World} {base : Nat} {x : ActV} (h : OwnA w base x) (hb : Below w.heap.size w w') : OwnA w' base x := ⟨h.1.via hb, h.2.via hb⟩
theorem OwnA.ok {w : World} {base : Nat} {x : ActV} (h : OwnA w base x) : ActOk w w.heap.size x := ⟨h.1.bytes, h.2.ints⟩
/-- An Act by value. -/
def actV (x : ActV) : Value := .agg #[.int .i64 x.d.act, .int .i64 x.d.client, .int .i64 x.d.op.act, .string x.d.op.key, x.dv, .int .i64 x.d.op.lo, .int .i64 x.d.op.hi, .int .i64 x.d.op.n, .int .i64 x.d.n, x.pv, .int .i64 x.d.log]
/-- What act.actOf tells. -/
def ActPost (w : World) (o : Option ActD) (e : Ending) (w' : World) : Prop :=
  Below w.heap.size w w' ∧ ((o = none ∧ ∃ x A n c A' n' c', e = .returned (.tuple #[actV x, .bool false]) ∧ x.dv = .slice A n c ∧ x.pv = .slice A' n' c') ∨
    ∃ x, o = some x.d ∧ e = .returned (.tuple #[actV x, .bool true]) ∧ OwnA w' w.heap.size x)
def nilS : Value := .slice none 0 0
/-- An act without bytes or numbers. -/
def plainV (a : ActD) : ActV := ⟨a, .slice none 0 0, .slice none 0 0⟩
theorem OwnA.plain (w : World) (base : Nat) {a : ActD} (h1 : a.op.data = []) (h2 : a.pages = []) : OwnA w base (plainV a) := by
  unfold OwnA plainV
  dsimp only
  rw [h1, h2]
  exact ⟨OwnB.nil _ _, OwnI.nil _ _⟩
theorem own_putI {W W' : World} {g base : Nat} {t : TypeId} {cs : Array Value} {v : Value} {ns : List Int} (h : OwnI W base v ns) (k : Blk W g t cs) (hne : t ≠ 3) (ht : Touch g (g + 1) W W') : OwnI W' base v ns := h.keep fun q cs' _ kq => by
  refine (ht.block q ?_).trans kq
  rcases Nat.lt_trichotomy q g with h1 | h1 | h1
  · exact .inl h1
  · subst h1
    unfold Blk at k kq
    rw [k] at kq
    injection kq with kq
    injection kq with _ e
    exact absurd e hne
  · exact .inr h1
/-- The numbers behind the first one. -/
theorem OwnI.tail {w : World} {g base : Nat} {n : Int} {r : List Int} (k : Blk w g 3 ((n :: r).map (Value.int .i64)).toArray) (hb : base ≤ g) (hl : r.length + 1 ≤ 1000000) :
    ∃ A c, (∀ W, (Instr.slice 26 (.slice (some ⟨g, 0, none⟩) (r.length + 1) (r.length + 1)) (some (.int .i64 1)) none none).run Tryd.prog W = .ok (.slice A r.length c) W) ∧ OwnI w base (.slice A r.length c) r := by
  have hE : Tryd.prog.elem 26 = 3 := by kernel_rfl
  have hz : ∀ W, (sizeOf 3).run Tryd.prog W = .ok 1 W := fun W => by kernel_rfl
  refine ⟨if r.length + 1 = 1 then some ⟨g, 0, none⟩ else some ⟨g, 1, none⟩, r.length, fun W => ?_, _, _, rfl, Nat.le_refl _, by omega, fun hn => ⟨g, 1, _, by rw [if_neg (by omega)], hb, k, fun i x hx => ?_⟩⟩
  · rw [run_slice_l (P := Tryd.prog) (w := W) 26 (some ⟨g, 0, none⟩) (r.length + 1) (r.length + 1) (by rw [hE]; exact Tryd.underlying26) .i64 1 (by omega) (by omega), hE, hz]
    simp [Result.andThen, sliced, Addr.add]
  · simp [Nat.add_comm 1 i, hx]
set_option maxRecDepth 100000 in
set_option maxHeartbeats 12800000 in
theorem actOf_word (s : ByteArray) (A : Option Addr) (m c : Nat) (ws : List (List UInt8)) (B : Nat) (w : World) (h : Strs w B A m ws)
    (hn1 : s.data.toList ≠ wCall) (hn2 : s.data.toList ≠ wStep) (hn3 : s.data.toList ≠ wFuse) (hn4 : s.data.toList ≠ wCrash) :
    Calls Tryd.prog 21 #[.string s, .slice A m c] w (ActPost w (actOfD s.data.toList ws)) := by
  have hml := h.1
  have b1 : (s.toList == [99, 97, 108, 108]) = false := lit_no hn1
  have b2 : (s.toList == [115, 116, 101, 112]) = false := lit_no hn2
  have b3 : (s.toList == [102, 117, 115, 101]) = false := lit_no hn3
  have b4 : (s.toList == [99, 114, 97, 115, 104]) = false := lit_no hn4
  have hn := True.intro
  by_cases hk : s.data.toList = wCheck
  · have bk : (s.toList == [99, 104, 101, 99, 107]) = true := lit_yes hk
    by_cases h0 : m = 0
    · have HO := hide (show actOfD s.data.toList ws = some { act00 with act := 2 } by unfold actOfD; rw [if_neg hn1, if_neg hn2,  if_pos hk, if_pos (by omega)])
      have b0 := b0_yes h0
      clear hn1 hn2 hn3 hn4
      clear h0 h hml hk hn
      go_enter Tryd.func21, Tryd.ntmps21
      go_wp2
      refine bodyPost_ret (v := .tuple #[actV (plainV { act00 with act := 2 }), .bool true]) (by simp [results, Tryd.results21, go_sem, actV, plainV, act00, op00]) rfl ?_
      exact ⟨(Below.refl _ _).alloc (Nat.le_refl _) _, .inr ⟨_, HO.out, rfl, OwnA.plain _ _ rfl rfl⟩⟩
    · have HO := hide (show actOfD s.data.toList ws = none by unfold actOfD; rw [if_neg hn1, if_neg hn2,  if_pos hk, if_neg (by omega)])
      have b0 := b0_no h0
      clear hn1 hn2 hn3 hn4
      clear h0 h hml hk hn
      go_enter Tryd.func21, Tryd.ntmps21
      go_wp2
      refine bodyPost_ret (v := .tuple #[actV (plainV { act00 with act := 2 }), .bool false]) (by simp [results, Tryd.results21, go_sem, actV, plainV, act00, op00]) rfl ?_
      exact ⟨(Below.refl _ _).alloc (Nat.le_refl _) _, .inl ⟨HO.out, _, _, _, _, _, _, _, rfl, rfl, rfl⟩⟩
  have hn := And.intro hn hk
  clear hk
  have b5 : (s.toList == [99, 104, 101, 99, 107]) = false := lit_no hn.2
  by_cases hk : s.data.toList = wOpen
  · have bk : (s.toList == [111, 112, 101, 110]) = true := lit_yes hk
    by_cases h0 : m = 0
    · have HO := hide (show actOfD s.data.toList ws = some { act00 with act := 5 } by unfold actOfD; rw [if_neg hn1, if_neg hn2, if_neg hn.2, if_neg hn3, if_neg hn4,  if_pos hk, if_pos (by omega)])
      have b0 := b0_yes h0
      clear hn1 hn2 hn3 hn4
      clear h0 h hml hk hn
      go_enter Tryd.func21, Tryd.ntmps21
      go_wp2
      refine bodyPost_ret (v := .tuple #[actV (plainV { act00 with act := 5 }), .bool true]) (by simp [results, Tryd.results21, go_sem, actV, plainV, act00, op00]) rfl ?_
      exact ⟨(Below.refl _ _).alloc (Nat.le_refl _) _, .inr ⟨_, HO.out, rfl, OwnA.plain _ _ rfl rfl⟩⟩
    · have HO := hide (show actOfD s.data.toList ws = none by unfold actOfD; rw [if_neg hn1, if_neg hn2, if_neg hn.2, if_neg hn3, if_neg hn4,  if_pos hk, if_neg (by omega)])
      have b0 := b0_no h0
      clear hn1 hn2 hn3 hn4
      clear h0 h hml hk hn
      go_enter Tryd.func21, Tryd.ntmps21
      go_wp2
      refine bodyPost_ret (v := .tuple #[actV (plainV { act00 with act := 5 }), .bool false]) (by simp [results, Tryd.results21, go_sem, actV, plainV, act00, op00]) rfl ?_
      exact ⟨(Below.refl _ _).alloc (Nat.le_refl _) _, .inl ⟨HO.out, _, _, _, _, _, _, _, rfl, rfl, rfl⟩⟩
  have hn := And.intro hn hk
  clear hk
  have b6 : (s.toList == [111, 112, 101, 110]) = false := lit_no hn.2
  have HO := hide (show actOfD s.data.toList ws = none by unfold actOfD; rw [if_neg hn1, if_neg hn2, if_neg hn.1.2, if_neg hn3, if_neg hn4, if_neg hn.2])
  clear h hml hn hn1 hn2 hn3 hn4
  go_enter Tryd.func21, Tryd.ntmps21
  go_wp2
  refine bodyPost_ret (v := .tuple #[actV (plainV act00), .bool false]) (by simp [results, Tryd.results21, go_sem, actV, plainV, act00, op00]) rfl ?_
  exact ⟨(Below.refl _ _).alloc (Nat.le_refl _) _, .inl ⟨HO.out, _, _, _, _, _, _, _, rfl, rfl, rfl⟩⟩
end Go.Proofs.YtgokkbocboonnaaDoor
