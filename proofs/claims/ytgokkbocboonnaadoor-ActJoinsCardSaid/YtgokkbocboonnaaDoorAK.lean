/-
  WALK OF THE PROGRAM: act.actOf: an act by its words.
  WALK OF THE PROGRAM: act.actOf: step, fuse, crash.
  WALK OF THE PROGRAM: act.actOf: a call; any act.
-/
import Derived.Test.YtgokkbocboonnaaDoorAI
import Derived.Deep.DeepCutAuto
import Derived.Deep.RegionHeld3
namespace Go.Proofs.YtgokkbocboonnaaDoor
open Go.RowKit Go.Shelf

/-- Numbers in memory of the program's own, in blocks from 'base' on. -/
def OwnI (w : World) (base : Nat) (v : Value) (ns : List Int) : Prop :=
  ∃ A c, v = .slice A ns.length c ∧ ns.length ≤ c ∧ c ≤ 1000000 ∧ (0 < ns.length → ∃ g o cs, A = some ⟨g, o, none⟩ ∧ base ≤ g ∧ Blk w g 3 cs ∧ ∀ (i : Nat) x, ns[i]? = some x → cs[o + i]? = some (Value.int .i64 x))
section
variable {w w' : World} {base base' : Nat} {v : Value} {ns : List Int}
theorem OwnI.nil (w : World) (base : Nat) : OwnI w base (.slice none 0 0) [] := ⟨none, 0, rfl, Nat.le_refl _, Nat.zero_le _, fun h => absurd h (by decide)⟩
theorem OwnI.low (h : OwnI w base v ns) (hb : base' ≤ base) : OwnI w base' v ns := by
  obtain ⟨A, c, h1, h2, h3, h4⟩ := h
  exact ⟨A, c, h1, h2, h3, fun hn => by obtain ⟨g, o, cs, e, hg, k, r⟩ := h4 hn; exact ⟨g, o, cs, e, Nat.le_trans hb hg, k, r⟩⟩
theorem OwnI.keep (h : OwnI w base v ns) (hk : ∀ (q : Nat) (cs : Array Value), base ≤ q → Blk w q 3 cs → Blk w' q 3 cs) : OwnI w' base v ns := by
  obtain ⟨A, c, h1, h2, h3, h4⟩ := h
  exact ⟨A, c, h1, h2, h3, fun hn => by obtain ⟨g, o, cs, e, hg, k, r⟩ := h4 hn; exact ⟨g, o, cs, e, hg, hk g cs hg k, r⟩⟩
theorem OwnI.via (h : OwnI w base v ns) (hb : Below w.heap.size w w') : OwnI w' base v ns := h.keep fun _ _ _ k => Blk.via hb k
theorem OwnI.form (h : OwnI w base v ns) : ∃ A c, v = .slice A ns.length c := by
  obtain ⟨A, c, h1, _⟩ := h
  exact ⟨A, c, h1⟩
theorem OwnI.ints (h : OwnI w base v ns) : IntsAt w w.heap.size v ns := by
  obtain ⟨A, c, rfl, h2, h3, h4⟩ := h
  refine ⟨A, c, rfl, h2, rfl, by simp, fun hn => ?_⟩
  obtain ⟨g, o, cs, rfl, hg, k, r⟩ := h4 hn
  refine ⟨_, rfl, k.lt, fun j u hu => ?_⟩
  rw [add_plain, k.cell]
  rw [List.getElem?_map] at hu
  cases hx : ns[j]? with
  | none => rw [hx] at hu; cases hu
  | some x => rw [hx] at hu; injection hu with hu; subst hu; exact r j x hx
theorem OwnI.one (h : OwnI w base v ns) : v.oneCell' = true := by obtain ⟨A, c, rfl, _⟩ := h; rfl
end
/-- An act in memory of the program's own. -/
def OwnA (w : World) (base : Nat) (x : ActV) : Prop := OwnB w base x.dv x.d.op.data ∧ OwnI w base x.pv x.d.pages
theorem OwnA.low {w : World} {base base' : Nat} {x : ActV} (h : OwnA w base x) (hb : base' ≤ base) : OwnA w base' x := ⟨h.1.low hb, h.2.low hb⟩
theorem OwnA.via {w w' : World} {base : Nat} {x : ActV} (h : OwnA w base x) (hb : Below w.heap.size w w') : OwnA w' base x := ⟨h.1.via hb, h.2.via hb⟩
theorem OwnA.ok {w : World} {base : Nat} {x : ActV} (h : OwnA w base x) : ActOk w w.heap.size x := ⟨h.1.bytes, h.2.ints⟩
/-- An Act by value. -/
def actV (x : ActV) : Value := .agg #[.int .i64 x.d.act, .int .i64 x.d.client, .int .i64 x.d.op.act, .string x.d.op.key, x.dv, .int .i64 x.d.op.lo, .int .i64 x.d.op.hi, .int .i64 x.d.op.n, .int .i64 x.d.n, x.pv, .int .i64 x.d.log]
/-- What act.actOf tells. -/
def ActPost (w : World) (o : Option ActD) (e : Ending) (w' : World) : Prop :=
  Below w.heap.size w w' ∧ ((o = none ∧ ∃ x A n c A' n' c', e = .returned (.tuple #[actV x, .bool false]) ∧ x.dv = .slice A n c ∧ x.pv = .slice A' n' c') ∨
    ∃ x, o = some x.d ∧ e = .returned (.tuple #[actV x, .bool true]) ∧ OwnA w' w.heap.size x)
def nilS : Value := .slice none 0 0
/-- An act without bytes or numbers. -/
def plainV (a : ActD) : ActV := ⟨a, .slice none 0 0, .slice none 0 0⟩
theorem OwnA.plain (w : World) (base : Nat) {a : ActD} (h1 : a.op.data = []) (h2 : a.pages = []) : OwnA w base (plainV a) := by
  unfold OwnA plainV
  dsimp only
  rw [h1, h2]
  exact ⟨OwnB.nil _ _, OwnI.nil _ _⟩
theorem own_putI {W W' : World} {g base : Nat} {t : TypeId} {cs : Array Value} {v : Value} {ns : List Int} (h : OwnI W base v ns) (k : Blk W g t cs) (hne : t ≠ 3) (ht : Touch g (g + 1) W W') : OwnI W' base v ns := h.keep fun q cs' _ kq => by
  refine (ht.block q ?_).trans kq
  rcases Nat.lt_trichotomy q g with h1 | h1 | h1
  · exact .inl h1
  · subst h1
    unfold Blk at k kq
    rw [k] at kq
    injection kq with kq
    injection kq with _ e
    exact absurd e hne
  · exact .inr h1
/-- The numbers behind the first one. -/
theorem OwnI.tail {w : World} {g base : Nat} {n : Int} {r : List Int} (k : Blk w g 3 ((n :: r).map (Value.int .i64)).toArray) (hb : base ≤ g) (hl : r.length + 1 ≤ 1000000) :
    ∃ A c, (∀ W, (Instr.slice 26 (.slice (some ⟨g, 0, none⟩) (r.length + 1) (r.length + 1)) (some (.int .i64 1)) none none).run Tryd.prog W = .ok (.slice A r.length c) W) ∧ OwnI w base (.slice A r.length c) r := by
  have hE : Tryd.prog.elem 26 = 3 := by kernel_rfl
  have hz : ∀ W, (sizeOf 3).run Tryd.prog W = .ok 1 W := fun W => by kernel_rfl
  refine ⟨if r.length + 1 = 1 then some ⟨g, 0, none⟩ else some ⟨g, 1, none⟩, r.length, fun W => ?_, _, _, rfl, Nat.le_refl _, by omega, fun hn => ⟨g, 1, _, by rw [if_neg (by omega)], hb, k, fun i x hx => ?_⟩⟩
  · rw [run_slice_l (P := Tryd.prog) (w := W) 26 (some ⟨g, 0, none⟩) (r.length + 1) (r.length + 1) (by rw [hE]; exact Tryd.underlying26) .i64 1 (by omega) (by omega), hE, hz]
    simp [Result.andThen, sliced, Addr.add]
  · simp [Nat.add_comm 1 i, hx]
set_option maxRecDepth 100000 in
set_option maxHeartbeats 12800000 in
theorem actOf_word (s : ByteArray) (A : Option Addr) (m c : Nat) (ws : List (List UInt8)) (B : Nat) (w : World) (h : Strs w B A m ws)
    (hn1 : s.data.toList ≠ wCall) (hn2 : s.data.toList ≠ wStep) (hn3 : s.data.toList ≠ wFuse) (hn4 : s.data.toList ≠ wCrash) :
    Calls Tryd.prog 21 #[.string s, .slice A m c] w (ActPost w (actOfD s.data.toList ws)) := by
  have hml := h.1
  have b1 : (s.toList == [99, 97, 108, 108]) = false := lit_no hn1
  have b2 : (s.toList == [115, 116, 101, 112]) = false := lit_no hn2
  have b3 : (s.toList == [102, 117, 115, 101]) = false := lit_no hn3
  have b4 : (s.toList == [99, 114, 97, 115, 104]) = false := lit_no hn4
  have hn := True.intro
  by_cases hk : s.data.toList = wCheck
  · have bk : (s.toList == [99, 104, 101, 99, 107]) = true := lit_yes hk
    by_cases h0 : m = 0
    · have HO := hide (show actOfD s.data.toList ws = some { act00 with act := 2 } by unfold actOfD; rw [if_neg hn1, if_neg hn2,  if_pos hk, if_pos (by omega)])
      have b0 := b0_yes h0
      clear hn1 hn2 hn3 hn4
      clear h0 h hml hk hn
      go_enter Tryd.func21, Tryd.ntmps21
      go_wp2
      refine bodyPost_ret (v := .tuple #[actV (plainV { act00 with act := 2 }), .bool true]) (by simp [results, Tryd.results21, go_sem, actV, plainV, act00, op00]) rfl ?_
      exact ⟨(Below.refl _ _).alloc (Nat.le_refl _) _, .inr ⟨_, HO.out, rfl, OwnA.plain _ _ rfl rfl⟩⟩
    · have HO := hide (show actOfD s.data.toList ws = none by unfold actOfD; rw [if_neg hn1, if_neg hn2,  if_pos hk, if_neg (by omega)])
      have b0 := b0_no h0
      clear hn1 hn2 hn3 hn4
      clear h0 h hml hk hn
      go_enter Tryd.func21, Tryd.ntmps21
      go_wp2
      refine bodyPost_ret (v := .tuple #[actV (plainV { act00 with act := 2 }), .bool false]) (by simp [results, Tryd.results21, go_sem, actV, plainV, act00, op00]) rfl ?_
      exact ⟨(Below.refl _ _).alloc (Nat.le_refl _) _, .inl ⟨HO.out, _, _, _, _, _, _, _, rfl, rfl, rfl⟩⟩
  have hn := And.intro hn hk
  clear hk
  have b5 : (s.toList == [99, 104, 101, 99, 107]) = false := lit_no hn.2
  by_cases hk : s.data.toList = wOpen
  · have bk : (s.toList == [111, 112, 101, 110]) = true := lit_yes hk
    by_cases h0 : m = 0
    · have HO := hide (show actOfD s.data.toList ws = some { act00 with act := 5 } by unfold actOfD; rw [if_neg hn1, if_neg hn2, if_neg hn.2, if_neg hn3, if_neg hn4,  if_pos hk, if_pos (by omega)])
      have b0 := b0_yes h0
      clear hn1 hn2 hn3 hn4
      clear h0 h hml hk hn
      go_enter Tryd.func21, Tryd.ntmps21
      go_wp2
      refine bodyPost_ret (v := .tuple #[actV (plainV { act00 with act := 5 }), .bool true]) (by simp [results, Tryd.results21, go_sem, actV, plainV, act00, op00]) rfl ?_
      exact ⟨(Below.refl _ _).alloc (Nat.le_refl _) _, .inr ⟨_, HO.out, rfl, OwnA.plain _ _ rfl rfl⟩⟩
    · have HO := hide (show actOfD s.data.toList ws = none by unfold actOfD; rw [if_neg hn1, if_neg hn2, if_neg hn.2, if_neg hn3, if_neg hn4,  if_pos hk, if_neg (by omega)])
      have b0 := b0_no h0
      clear hn1 hn2 hn3 hn4
      clear h0 h hml hk hn
      go_enter Tryd.func21, Tryd.ntmps21
      go_wp2
      refine bodyPost_ret (v := .tuple #[actV (plainV { act00 with act := 5 }), .bool false]) (by simp [results, Tryd.results21, go_sem, actV, plainV, act00, op00]) rfl ?_
      exact ⟨(Below.refl _ _).alloc (Nat.le_refl _) _, .inl ⟨HO.out, _, _, _, _, _, _, _, rfl, rfl, rfl⟩⟩
  have hn := And.intro hn hk
  clear hk
  have b6 : (s.toList == [111, 112, 101, 110]) = false := lit_no hn.2
  have HO := hide (show actOfD s.data.toList ws = none by unfold actOfD; rw [if_neg hn1, if_neg hn2, if_neg hn.1.2, if_neg hn3, if_neg hn4, if_neg hn.2])
  clear h hml hn hn1 hn2 hn3 hn4
  go_enter Tryd.func21, Tryd.ntmps21
  go_wp2
  refine bodyPost_ret (v := .tuple #[actV (plainV act00), .bool false]) (by simp [results, Tryd.results21, go_sem, actV, plainV, act00, op00]) rfl ?_
  exact ⟨(Below.refl _ _).alloc (Nat.le_refl _) _, .inl ⟨HO.out, _, _, _, _, _, _, _, rfl, rfl, rfl⟩⟩
end Go.Proofs.YtgokkbocboonnaaDoor
namespace Go.Proofs.YtgokkbocboonnaaDoor
open Go.RowKit Go.Shelf


theorem two_no {ns : List Int} {o : Option (List Int)} (h : o = some ns) (hl : ns.length ≠ 1) {f : Int → Option ActD} : (match o with | some [n] => f n | _ => none) = none := by
  subst h
  split
  · rename_i n e
    injection e with e
    subst e
    exact absurd rfl hl
  · rfl
set_option maxRecDepth 100000 in
set_option maxHeartbeats 12800000 in
theorem actOf_step (s : ByteArray) (A : Option Addr) (m c : Nat) (ws : List (List UInt8)) (B : Nat) (w : World) (hB : B ≤ w.heap.size) (hm : m ≤ 1000) (h : Strs w B A m ws) (hl : ∀ x ∈ ws, x.length ≤ 1000000) (hv : ErrV w) (hk : s.data.toList = wStep) :
    Calls Tryd.prog 21 #[.string s, .slice A m c] w (ActPost w (actOfD s.data.toList ws)) := by
  have b1 : (s.toList == [99, 97, 108, 108]) = false := lit_no (by rw [hk]; decide)
  have bk : (s.toList == [115, 116, 101, 112]) = true := lit_yes hk
  have hn1 : s.data.toList ≠ wCall := by rw [hk]; decide
  have HNU := hide (fun W (hbW : Below w.heap.size w W) => numbers_any A m c ws m B W (Nat.le_trans hB hbW.size) hm hm (h.below hbW hB) hl (hv.below hbW))
  have HNN := hide (show numsN ws m = numsD ws by unfold numsN; rw [if_pos (by have := h.1; omega), List.take_of_length_le (by have := h.1; omega)])
  rw [HNN.out] at HNU
  cases hns : numsD ws with
  | none =>
    have HO := hide (show actOfD s.data.toList ws = none by unfold actOfD; rw [if_neg hn1, if_pos hk]; simp only [hns])
    have HNS := hide hns
    clear hns hk h hl hv hn1
    go_enter Tryd.func21, Tryd.ntmps21
    go_wp2_with fail
    refine (HNU.out _ ((Below.refl _ _).alloc (Nat.le_refl _) _)).mono ?_
    rintro e w1 ⟨hb1, ⟨hno, rfl⟩ | ⟨ns', g, hyes, rfl, hg, hgk⟩⟩
    · have k1 := Blk.via hb1 (Blk.new w _ _)
      have hbw1 := below_via ((Below.refl _ w).alloc (Nat.le_refl _) _) hb1 (by simp)
      clear hno
      have q0 := (k1).cell
      have f0 := (k1).frozen
      have l0 := (k1).lt
      go_wp2
      refine genPut (vs := [.int .i64 (plainV act00).d.act, .int .i64 (plainV act00).d.client, .int .i64 (plainV act00).d.op.act, .string (plainV act00).d.op.key, (plainV act00).dv, .int .i64 (plainV act00).d.op.lo, .int .i64 (plainV act00).d.op.hi, .int .i64 (plainV act00).d.op.n, .int .i64 (plainV act00).d.n, (plainV act00).pv, .int .i64 (plainV act00).d.log]) k1 rfl hbw1 (Nat.le_refl _) (fun W' k6 hb6 ht => ?_)
      have q6 := k6.cell
      refine bodyPost_ret (v := .tuple #[actV (plainV act00), .bool false]) (by simp [results, Tryd.results21, go_sem, actV, q6]) rfl ?_
      exact ⟨hb6, .inl ⟨HO.out, _, _, _, _, _, _, _, rfl, rfl, rfl⟩⟩
    · rw [HNS.out] at hyes; cases hyes
  | some ns =>
    have HNS := hide hns
    by_cases h1 : ns.length = 1
    · obtain ⟨a, rfl⟩ := nums1 h1
      have HO := hide (show actOfD s.data.toList ws = some { act00 with act := 1, client := a } by unfold actOfD; rw [if_neg hn1, if_pos hk]; simp only [hns])
      clear hns h1 hk h hl hv hn1
      go_enter Tryd.func21, Tryd.ntmps21
      go_wp2_with fail
      refine (HNU.out _ ((Below.refl _ _).alloc (Nat.le_refl _) _)).mono ?_
      rintro e w1 ⟨hb1, ⟨hno, rfl⟩ | ⟨ns', g, hyes, rfl, hg, hgk⟩⟩
      · rw [HNS.out] at hno; cases hno
      · rw [HNS.out] at hyes
        obtain rfl := Option.some.inj hyes
        have k1 := Blk.via hb1 (Blk.new w _ _)
        have hbw1 := below_via ((Below.refl _ w).alloc (Nat.le_refl _) _) hb1 (by simp)
        clear hyes
        have g0 := hgk.cell
        have gl := hgk.lt
        have q0 := (k1).cell
        have f0 := (k1).frozen
        have l0 := (k1).lt
        go_wp2
        refine genPut (vs := [.int .i64 (plainV { act00 with act := 1, client := a }).d.act, .int .i64 (plainV { act00 with act := 1, client := a }).d.client, .int .i64 (plainV { act00 with act := 1, client := a }).d.op.act, .string (plainV { act00 with act := 1, client := a }).d.op.key, (plainV { act00 with act := 1, client := a }).dv, .int .i64 (plainV { act00 with act := 1, client := a }).d.op.lo, .int .i64 (plainV { act00 with act := 1, client := a }).d.op.hi, .int .i64 (plainV { act00 with act := 1, client := a }).d.op.n, .int .i64 (plainV { act00 with act := 1, client := a }).d.n, (plainV { act00 with act := 1, client := a }).pv, .int .i64 (plainV { act00 with act := 1, client := a }).d.log]) k1 rfl hbw1 (Nat.le_refl _) (fun W' k6 hb6 ht => ?_)
        have q6 := k6.cell
        refine bodyPost_ret (v := .tuple #[actV (plainV { act00 with act := 1, client := a }), .bool true]) (by simp [results, Tryd.results21, go_sem, actV, q6]) rfl ?_
        exact ⟨hb6, .inr ⟨_, HO.out, rfl, OwnA.plain _ _ rfl rfl⟩⟩
    · have HO := hide (show actOfD s.data.toList ws = none by unfold actOfD; rw [if_neg hn1, if_pos hk]; exact two_no hns h1)
      have b1' : ((ns.length : Int) != 1) = true := by simp; omega
      clear hns h1 hk h hl hv hn1
      go_enter Tryd.func21, Tryd.ntmps21
      go_wp2_with fail
      refine (HNU.out _ ((Below.refl _ _).alloc (Nat.le_refl _) _)).mono ?_
      rintro e w1 ⟨hb1, ⟨hno, rfl⟩ | ⟨ns', g, hyes, rfl, hg, hgk⟩⟩
      · rw [HNS.out] at hno; cases hno
      · rw [HNS.out] at hyes
        obtain rfl := Option.some.inj hyes
        have k1 := Blk.via hb1 (Blk.new w _ _)
        have hbw1 := below_via ((Below.refl _ w).alloc (Nat.le_refl _) _) hb1 (by simp)
        clear hyes
        have q0 := (k1).cell
        have f0 := (k1).frozen
        have l0 := (k1).lt
        go_wp2
        refine genPut (vs := [.int .i64 (plainV act00).d.act, .int .i64 (plainV act00).d.client, .int .i64 (plainV act00).d.op.act, .string (plainV act00).d.op.key, (plainV act00).dv, .int .i64 (plainV act00).d.op.lo, .int .i64 (plainV act00).d.op.hi, .int .i64 (plainV act00).d.op.n, .int .i64 (plainV act00).d.n, (plainV act00).pv, .int .i64 (plainV act00).d.log]) k1 rfl hbw1 (Nat.le_refl _) (fun W' k6 hb6 ht => ?_)
        have q6 := k6.cell
        refine bodyPost_ret (v := .tuple #[actV (plainV act00), .bool false]) (by simp [results, Tryd.results21, go_sem, actV, q6]) rfl ?_
        exact ⟨hb6, .inl ⟨HO.out, _, _, _, _, _, _, _, rfl, rfl, rfl⟩⟩
set_option maxRecDepth 100000 in
set_option maxHeartbeats 12800000 in
theorem actOf_fuse (s : ByteArray) (A : Option Addr) (m c : Nat) (ws : List (List UInt8)) (B : Nat) (w : World) (hB : B ≤ w.heap.size) (hm : m ≤ 1000) (h : Strs w B A m ws) (hl : ∀ x ∈ ws, x.length ≤ 1000000) (hv : ErrV w) (hk : s.data.toList = wFuse) :
    Calls Tryd.prog 21 #[.string s, .slice A m c] w (ActPost w (actOfD s.data.toList ws)) := by
  have b1 : (s.toList == [99, 97, 108, 108]) = false := lit_no (by rw [hk]; decide)
  have b2 : (s.toList == [115, 116, 101, 112]) = false := lit_no (by rw [hk]; decide)
  have b3 : (s.toList == [99, 104, 101, 99, 107]) = false := lit_no (by rw [hk]; decide)
  have bk : (s.toList == [102, 117, 115, 101]) = true := lit_yes hk
  have hn1 : s.data.toList ≠ wCall := by rw [hk]; decide
  have hn2 : s.data.toList ≠ wStep := by rw [hk]; decide
  have hn3 : s.data.toList ≠ wCheck := by rw [hk]; decide
  have HNU := hide (fun W (hbW : Below w.heap.size w W) => numbers_any A m c ws m B W (Nat.le_trans hB hbW.size) hm hm (h.below hbW hB) hl (hv.below hbW))
  have HNN := hide (show numsN ws m = numsD ws by unfold numsN; rw [if_pos (by have := h.1; omega), List.take_of_length_le (by have := h.1; omega)])
  rw [HNN.out] at HNU
  cases hns : numsD ws with
  | none =>
    have HO := hide (show actOfD s.data.toList ws = none by unfold actOfD; rw [if_neg hn1, if_neg hn2, if_neg hn3, if_pos hk]; simp only [hns])
    have HNS := hide hns
    clear hns hk h hl hv hn1 hn2 hn3
    go_enter Tryd.func21, Tryd.ntmps21
    go_wp2_with fail
    refine (HNU.out _ ((Below.refl _ _).alloc (Nat.le_refl _) _)).mono ?_
    rintro e w1 ⟨hb1, ⟨hno, rfl⟩ | ⟨ns', g, hyes, rfl, hg, hgk⟩⟩
    · have k1 := Blk.via hb1 (Blk.new w _ _)
      have hbw1 := below_via ((Below.refl _ w).alloc (Nat.le_refl _) _) hb1 (by simp)
      clear hno
      have q0 := (k1).cell
      have f0 := (k1).frozen
      have l0 := (k1).lt
      go_wp2
      refine genPut (vs := [.int .i64 (plainV act00).d.act, .int .i64 (plainV act00).d.client, .int .i64 (plainV act00).d.op.act, .string (plainV act00).d.op.key, (plainV act00).dv, .int .i64 (plainV act00).d.op.lo, .int .i64 (plainV act00).d.op.hi, .int .i64 (plainV act00).d.op.n, .int .i64 (plainV act00).d.n, (plainV act00).pv, .int .i64 (plainV act00).d.log]) k1 rfl hbw1 (Nat.le_refl _) (fun W' k6 hb6 ht => ?_)
      have q6 := k6.cell
      refine bodyPost_ret (v := .tuple #[actV (plainV act00), .bool false]) (by simp [results, Tryd.results21, go_sem, actV, q6]) rfl ?_
      exact ⟨hb6, .inl ⟨HO.out, _, _, _, _, _, _, _, rfl, rfl, rfl⟩⟩
    · rw [HNS.out] at hyes; cases hyes
  | some ns =>
    have HNS := hide hns
    by_cases h1 : ns.length = 1
    · obtain ⟨a, rfl⟩ := nums1 h1
      have HO := hide (show actOfD s.data.toList ws = some { act00 with act := 3, n := a } by unfold actOfD; rw [if_neg hn1, if_neg hn2, if_neg hn3, if_pos hk]; simp only [hns])
      clear hns h1 hk h hl hv hn1 hn2 hn3
      go_enter Tryd.func21, Tryd.ntmps21
      go_wp2_with fail
      refine (HNU.out _ ((Below.refl _ _).alloc (Nat.le_refl _) _)).mono ?_
      rintro e w1 ⟨hb1, ⟨hno, rfl⟩ | ⟨ns', g, hyes, rfl, hg, hgk⟩⟩
      · rw [HNS.out] at hno; cases hno
      · rw [HNS.out] at hyes
        obtain rfl := Option.some.inj hyes
        have k1 := Blk.via hb1 (Blk.new w _ _)
        have hbw1 := below_via ((Below.refl _ w).alloc (Nat.le_refl _) _) hb1 (by simp)
        clear hyes
        have g0 := hgk.cell
        have gl := hgk.lt
        have q0 := (k1).cell
        have f0 := (k1).frozen
        have l0 := (k1).lt
        go_wp2
        refine genPut (vs := [.int .i64 (plainV { act00 with act := 3, n := a }).d.act, .int .i64 (plainV { act00 with act := 3, n := a }).d.client, .int .i64 (plainV { act00 with act := 3, n := a }).d.op.act, .string (plainV { act00 with act := 3, n := a }).d.op.key, (plainV { act00 with act := 3, n := a }).dv, .int .i64 (plainV { act00 with act := 3, n := a }).d.op.lo, .int .i64 (plainV { act00 with act := 3, n := a }).d.op.hi, .int .i64 (plainV { act00 with act := 3, n := a }).d.op.n, .int .i64 (plainV { act00 with act := 3, n := a }).d.n, (plainV { act00 with act := 3, n := a }).pv, .int .i64 (plainV { act00 with act := 3, n := a }).d.log]) k1 rfl hbw1 (Nat.le_refl _) (fun W' k6 hb6 ht => ?_)
        have q6 := k6.cell
        refine bodyPost_ret (v := .tuple #[actV (plainV { act00 with act := 3, n := a }), .bool true]) (by simp [results, Tryd.results21, go_sem, actV, q6]) rfl ?_
        exact ⟨hb6, .inr ⟨_, HO.out, rfl, OwnA.plain _ _ rfl rfl⟩⟩
    · have HO := hide (show actOfD s.data.toList ws = none by unfold actOfD; rw [if_neg hn1, if_neg hn2, if_neg hn3, if_pos hk]; exact two_no hns h1)
      have b1' : ((ns.length : Int) != 1) = true := by simp; omega
      clear hns h1 hk h hl hv hn1 hn2 hn3
      go_enter Tryd.func21, Tryd.ntmps21
      go_wp2_with fail
      refine (HNU.out _ ((Below.refl _ _).alloc (Nat.le_refl _) _)).mono ?_
      rintro e w1 ⟨hb1, ⟨hno, rfl⟩ | ⟨ns', g, hyes, rfl, hg, hgk⟩⟩
      · rw [HNS.out] at hno; cases hno
      · rw [HNS.out] at hyes
        obtain rfl := Option.some.inj hyes
        have k1 := Blk.via hb1 (Blk.new w _ _)
        have hbw1 := below_via ((Below.refl _ w).alloc (Nat.le_refl _) _) hb1 (by simp)
        clear hyes
        have q0 := (k1).cell
        have f0 := (k1).frozen
        have l0 := (k1).lt
        go_wp2
        refine genPut (vs := [.int .i64 (plainV act00).d.act, .int .i64 (plainV act00).d.client, .int .i64 (plainV act00).d.op.act, .string (plainV act00).d.op.key, (plainV act00).dv, .int .i64 (plainV act00).d.op.lo, .int .i64 (plainV act00).d.op.hi, .int .i64 (plainV act00).d.op.n, .int .i64 (plainV act00).d.n, (plainV act00).pv, .int .i64 (plainV act00).d.log]) k1 rfl hbw1 (Nat.le_refl _) (fun W' k6 hb6 ht => ?_)
        have q6 := k6.cell
        refine bodyPost_ret (v := .tuple #[actV (plainV act00), .bool false]) (by simp [results, Tryd.results21, go_sem, actV, q6]) rfl ?_
        exact ⟨hb6, .inl ⟨HO.out, _, _, _, _, _, _, _, rfl, rfl, rfl⟩⟩
set_option maxRecDepth 100000 in
set_option maxHeartbeats 12800000 in
theorem actOf_crash (s : ByteArray) (A : Option Addr) (m c : Nat) (ws : List (List UInt8)) (B : Nat) (w : World) (hB : B ≤ w.heap.size) (hm : m ≤ 1000) (h : Strs w B A m ws) (hl : ∀ x ∈ ws, x.length ≤ 1000000) (hv : ErrV w) (hk : s.data.toList = wCrash) :
    Calls Tryd.prog 21 #[.string s, .slice A m c] w (ActPost w (actOfD s.data.toList ws)) := by
  have b1 : (s.toList == [99, 97, 108, 108]) = false := lit_no (by rw [hk]; decide)
  have b2 : (s.toList == [115, 116, 101, 112]) = false := lit_no (by rw [hk]; decide)
  have b3 : (s.toList == [99, 104, 101, 99, 107]) = false := lit_no (by rw [hk]; decide)
  have b4 : (s.toList == [102, 117, 115, 101]) = false := lit_no (by rw [hk]; decide)
  have bk : (s.toList == [99, 114, 97, 115, 104]) = true := lit_yes hk
  have hn1 : s.data.toList ≠ wCall := by rw [hk]; decide
  have hn2 : s.data.toList ≠ wStep := by rw [hk]; decide
  have hn3 : s.data.toList ≠ wCheck := by rw [hk]; decide
  have hn4 : s.data.toList ≠ wFuse := by rw [hk]; decide
  have HNU := hide (fun W (hbW : Below w.heap.size w W) => numbers_any A m c ws m B W (Nat.le_trans hB hbW.size) hm hm (h.below hbW hB) hl (hv.below hbW))
  have HNN := hide (show numsN ws m = numsD ws by unfold numsN; rw [if_pos (by have := h.1; omega), List.take_of_length_le (by have := h.1; omega)])
  rw [HNN.out] at HNU
  have HML := hide h.1
  cases hns : numsD ws with
  | none =>
    have HO := hide (show actOfD s.data.toList ws = none by unfold actOfD; rw [if_neg hn1, if_neg hn2, if_neg hn3, if_neg hn4, if_pos hk]; simp only [hns])
    have HNS := hide hns
    clear hns hk h hl hv hn1 hn2 hn3 hn4
    go_enter Tryd.func21, Tryd.ntmps21
    go_wp2_with fail
    refine (HNU.out _ ((Below.refl _ _).alloc (Nat.le_refl _) _)).mono ?_
    rintro e w1 ⟨hb1, ⟨hno, rfl⟩ | ⟨ns', g, hyes, rfl, hg, hgk⟩⟩
    · have k1 := Blk.via hb1 (Blk.new w _ _)
      have hbw1 := below_via ((Below.refl _ w).alloc (Nat.le_refl _) _) hb1 (by simp)
      clear hno
      have q0 := (k1).cell
      have f0 := (k1).frozen
      have l0 := (k1).lt
      go_wp2
      refine genPut (vs := [.int .i64 (plainV act00).d.act, .int .i64 (plainV act00).d.client, .int .i64 (plainV act00).d.op.act, .string (plainV act00).d.op.key, (plainV act00).dv, .int .i64 (plainV act00).d.op.lo, .int .i64 (plainV act00).d.op.hi, .int .i64 (plainV act00).d.op.n, .int .i64 (plainV act00).d.n, (plainV act00).pv, .int .i64 (plainV act00).d.log]) k1 rfl hbw1 (Nat.le_refl _) (fun W' k6 hb6 ht => ?_)
      have q6 := k6.cell
      refine bodyPost_ret (v := .tuple #[actV (plainV act00), .bool false]) (by simp [results, Tryd.results21, go_sem, actV, q6]) rfl ?_
      exact ⟨hb6, .inl ⟨HO.out, _, _, _, _, _, _, _, rfl, rfl, rfl⟩⟩
    · rw [HNS.out] at hyes; cases hyes
  | some ns =>
    have HNS := hide hns
    cases ns with
    | nil =>
      have HO := hide (show actOfD s.data.toList ws = none by unfold actOfD; rw [if_neg hn1, if_neg hn2, if_neg hn3, if_neg hn4, if_pos hk]; simp only [hns])
      clear hns hk h hl hv hn1 hn2 hn3 hn4
      go_enter Tryd.func21, Tryd.ntmps21
      go_wp2_with fail
      refine (HNU.out _ ((Below.refl _ _).alloc (Nat.le_refl _) _)).mono ?_
      rintro e w1 ⟨hb1, ⟨hno, rfl⟩ | ⟨ns', g, hyes, rfl, hg, hgk⟩⟩
      · rw [HNS.out] at hno; cases hno
      · rw [HNS.out] at hyes
        obtain rfl := Option.some.inj hyes
        have k1 := Blk.via hb1 (Blk.new w _ _)
        have hbw1 := below_via ((Below.refl _ w).alloc (Nat.le_refl _) _) hb1 (by simp)
        clear hyes
        have q0 := (k1).cell
        have f0 := (k1).frozen
        have l0 := (k1).lt
        go_wp2
        refine genPut (vs := [.int .i64 (plainV act00).d.act, .int .i64 (plainV act00).d.client, .int .i64 (plainV act00).d.op.act, .string (plainV act00).d.op.key, (plainV act00).dv, .int .i64 (plainV act00).d.op.lo, .int .i64 (plainV act00).d.op.hi, .int .i64 (plainV act00).d.op.n, .int .i64 (plainV act00).d.n, (plainV act00).pv, .int .i64 (plainV act00).d.log]) k1 rfl hbw1 (Nat.le_refl _) (fun W' k6 hb6 ht => ?_)
        have q6 := k6.cell
        refine bodyPost_ret (v := .tuple #[actV (plainV act00), .bool false]) (by simp [results, Tryd.results21, go_sem, actV, q6]) rfl ?_
        exact ⟨hb6, .inl ⟨HO.out, _, _, _, _, _, _, _, rfl, rfl, rfl⟩⟩
    | cons a r =>
      have HO := hide (show actOfD s.data.toList ws = some { act00 with act := 4, pages := r, log := a } by unfold actOfD; rw [if_neg hn1, if_neg hn2, if_neg hn3, if_neg hn4, if_pos hk]; simp only [hns])
      have hrl : r.length + 1 ≤ 1000 := by have h1 := numsD_length hns; have h2 := HML.out; simp only [List.length_cons] at h1; omega
      clear hns hk h hl hv hn1 hn2 hn3 hn4
      go_enter Tryd.func21, Tryd.ntmps21
      go_wp2_with fail
      refine (HNU.out _ ((Below.refl _ _).alloc (Nat.le_refl _) _)).mono ?_
      rintro e w1 ⟨hb1, ⟨hno, rfl⟩ | ⟨ns', g, hyes, rfl, hg, hgk⟩⟩
      · rw [HNS.out] at hno; cases hno
      · rw [HNS.out] at hyes
        obtain rfl := Option.some.inj hyes
        have k1 := Blk.via hb1 (Blk.new w _ _)
        have hbw1 := below_via ((Below.refl _ w).alloc (Nat.le_refl _) _) hb1 (by simp)
        clear hyes
        obtain ⟨A1, c1, hsl, hown⟩ := OwnI.tail hgk (by simp at hg; omega : w.heap.size ≤ g) (by omega)
        have HOW := hide hown
        have g0 := hgk.cell
        have gl := hgk.lt
        clear hown
        have kW := k1.cell
        have fW := k1.frozen
        have lW := k1.lt
        go_wp2
        go_still_tail 7, (by kernel_rfl)
        clear kW fW lW
        obtain ⟨W2, hW2⟩ : ∃ W2, W2 = ({ w1 with drawn := w1.drawn + 1 } : World) := ⟨_, rfl⟩
        rw [← hW2]
        have k2 := k1.drew
        have k2 : Blk W2 w.heap.size 30 #[.int .i64 0, .int .i64 0, .int .i64 0, .string ⟨#[]⟩, .slice none 0 0, .int .i64 0, .int .i64 0, .int .i64 0, .int .i64 0, .slice none 0 0, .int .i64 0] := by rw [hW2]; exact k2
        have hbw2 : Below w.heap.size w W2 := by rw [hW2]; exact hbw1.drew
        have HOW2 : OwnI W2 w.heap.size (.slice A1 r.length c1) r := by rw [hW2]; exact HOW.out.via (Below.refl _ _).drew
        have HOW2 := hide HOW2
        clear hW2
        have q0 := (k2).cell
        have f0 := (k2).frozen
        have l0 := (k2).lt
        go_wp2
        refine genPut (vs := [.int .i64 (⟨{ act00 with act := 4, pages := r, log := a }, .slice none 0 0, .slice A1 r.length c1⟩ : ActV).d.act, .int .i64 (⟨{ act00 with act := 4, pages := r, log := a }, .slice none 0 0, .slice A1 r.length c1⟩ : ActV).d.client, .int .i64 (⟨{ act00 with act := 4, pages := r, log := a }, .slice none 0 0, .slice A1 r.length c1⟩ : ActV).d.op.act, .string (⟨{ act00 with act := 4, pages := r, log := a }, .slice none 0 0, .slice A1 r.length c1⟩ : ActV).d.op.key, (⟨{ act00 with act := 4, pages := r, log := a }, .slice none 0 0, .slice A1 r.length c1⟩ : ActV).dv, .int .i64 (⟨{ act00 with act := 4, pages := r, log := a }, .slice none 0 0, .slice A1 r.length c1⟩ : ActV).d.op.lo, .int .i64 (⟨{ act00 with act := 4, pages := r, log := a }, .slice none 0 0, .slice A1 r.length c1⟩ : ActV).d.op.hi, .int .i64 (⟨{ act00 with act := 4, pages := r, log := a }, .slice none 0 0, .slice A1 r.length c1⟩ : ActV).d.op.n, .int .i64 (⟨{ act00 with act := 4, pages := r, log := a }, .slice none 0 0, .slice A1 r.length c1⟩ : ActV).d.n, (⟨{ act00 with act := 4, pages := r, log := a }, .slice none 0 0, .slice A1 r.length c1⟩ : ActV).pv, .int .i64 (⟨{ act00 with act := 4, pages := r, log := a }, .slice none 0 0, .slice A1 r.length c1⟩ : ActV).d.log]) k2 rfl hbw2 (Nat.le_refl _) (fun W' k6 hb6 ht => ?_)
        have q6 := k6.cell
        refine bodyPost_ret (v := .tuple #[actV (⟨{ act00 with act := 4, pages := r, log := a }, .slice none 0 0, .slice A1 r.length c1⟩ : ActV), .bool true]) (by simp [results, Tryd.results21, go_sem, actV, q6]) rfl ?_
        exact ⟨hb6, .inr ⟨_, HO.out, rfl, OwnB.nil _ _, own_putI HOW2.out k2 (by decide) ht⟩⟩
end Go.Proofs.YtgokkbocboonnaaDoor
namespace Go.Proofs.YtgokkbocboonnaaDoor
open Go.RowKit Go.Shelf



theorem strs_tail2 {w : World} {B m c : Nat} {A : Option Addr} {k j : List UInt8} {r : List (List UInt8)} (h : Strs w B A (m + 2) (k :: j :: r)) (hc : m + 2 ≤ c) :
    ∃ A', (∀ W, (Instr.slice 51 (.slice A (m + 2) c) (some (.int .i64 2)) none none).run Tryd.prog W = .ok (.slice A' m (c - 2)) W) ∧ Strs w B A' m r := by
  have h1 := h.cut (k := 2) (cap := c) (by omega) hc
  rw [Nat.add_sub_cancel, List.drop_succ_cons, List.drop_succ_cons, List.drop_zero] at h1
  refine ⟨_, fun W => ?_, h1⟩
  have hE : Tryd.prog.elem 51 = 9 := by kernel_rfl
  have hz : (sizeOf 9).run Tryd.prog W = .ok 1 W := by kernel_rfl
  rw [run_slice_l (P := Tryd.prog) (w := W) 51 A (m + 2) c (by rw [hE]; exact Tryd.underlying51) .i64 2 (by omega) (by omega), hE, hz]
  simp [Result.andThen, sliced]
/-- Behind the call of opOf: what it told, laid in a block of its own. -/
def OpCut (w : World) (o : Option OpD) (s7 s8 : Value) (wx : World) : Prop :=
  ∃ b8 x A n c ok, s7 = .bool ok ∧ s8 = .pointer (some ⟨b8, 0, none⟩) ∧ w.heap.size ≤ b8 ∧ Blk wx b8 25 #[.int .i64 x.act, .string x.key, .slice A n c, .int .i64 x.lo, .int .i64 x.hi, .int .i64 x.n] ∧ Below w.heap.size w wx ∧
    ((o = none ∧ ok = false) ∨ (o = some x ∧ ok = true ∧ OwnB wx w.heap.size (.slice A n c) x.data))
/-- The same as one case. -/
theorem opOf_told {w : World} {o : Option OpD} {e : Ending} {w' : World} (h : OpPost w o e w') : ∃ x A n c ok, e = .returned (.tuple #[.agg #[.int .i64 x.act, .string x.key, .slice A n c, .int .i64 x.lo, .int .i64 x.hi, .int .i64 x.n], .bool ok]) ∧ Below w.heap.size w w' ∧
    Hid ((o = none ∧ ok = false) ∨ (o = some x ∧ ok = true ∧ OwnB w' w.heap.size (.slice A n c) x.data)) := by
  obtain ⟨hb, ⟨h1, x, A, n, c, h2⟩ | ⟨x, A, n, c, h1, h2, h3⟩⟩ := h
  · exact ⟨x, A, n, c, false, h2, hb, .inl ⟨h1, rfl⟩⟩
  · exact ⟨x, A, n, c, true, h2, hb, .inr ⟨h1, rfl, h3⟩⟩
theorem genPutD {w W : World} {g B : Nat} {t : TypeId} {cs : Array Value} {vs : List Value} {R : World → Prop} (k : Blk W g t cs) (hs : cs.size = vs.length) (hb : Below B w W) (hg : B ≤ g)
    (hR : ∀ W', Blk W' g t vs.toArray → Below B w W' → Touch g (g + 1) W W' → R W') : R (putL W g 0 vs).drew :=
  genPut (R := fun W' => R W'.drew) k hs hb hg fun _ h1 h2 h3 => hR _ h1.drew h2.drew ⟨h3.os, h3.tape, h3.output, h3.size, h3.block⟩
set_option maxRecDepth 100000 in
set_option maxHeartbeats 12800000 in
theorem actOf_call (s : ByteArray) (A : Option Addr) (m c : Nat) (ws : List (List UInt8)) (B : Nat) (w : World) (hB : B ≤ w.heap.size) (hm : m ≤ 1000) (hmc : m ≤ c) (h : Strs w B A m ws) (hl : ∀ x ∈ ws, x.length ≤ 1000000) (hv : ErrV w) (hk : s.data.toList = wCall) :
    Calls Tryd.prog 21 #[.string s, .slice A m c] w (ActPost w (actOfD s.data.toList ws)) := by
  have bk : (s.toList == [99, 97, 108, 108]) = true := lit_yes hk
  have HO := hide (show actOfD s.data.toList ws = callOfD (numsN ws 1) ws by unfold actOfD; rw [if_pos hk])
  rw [HO.out]
  clear HO
  have HNU := hide (fun W (hbW : Below w.heap.size w W) => numbers_any A m c ws 1 B W (Nat.le_trans hB hbW.size) hm (by omega) (h.below hbW hB) hl (hv.below hbW))
  have HML := hide h.1
  cases hns : numsN ws 1 with
  | none =>
    have HO := hide (show callOfD none ws = none from rfl)
    have HNS := hide hns
    clear hns hk h hl hv
    go_enter Tryd.func21, Tryd.ntmps21
    go_wp2_with fail
    refine (HNU.out _ ((Below.refl _ _).alloc (Nat.le_refl _) _)).mono ?_
    rintro e w1 ⟨hb1, ⟨hno, rfl⟩ | ⟨ns', g, hyes, rfl, hg, hgk⟩⟩
    · have k1 := Blk.via hb1 (Blk.new w _ _)
      have hbw1 := below_via ((Below.refl _ w).alloc (Nat.le_refl _) _) hb1 (by simp)
      clear hno
      have q0 := (k1).cell
      have f0 := (k1).frozen
      have l0 := (k1).lt
      go_wp2
      refine genPut (vs := [.int .i64 (plainV act00).d.act, .int .i64 (plainV act00).d.client, .int .i64 (plainV act00).d.op.act, .string (plainV act00).d.op.key, (plainV act00).dv, .int .i64 (plainV act00).d.op.lo, .int .i64 (plainV act00).d.op.hi, .int .i64 (plainV act00).d.op.n, .int .i64 (plainV act00).d.n, (plainV act00).pv, .int .i64 (plainV act00).d.log]) k1 rfl hbw1 (Nat.le_refl _) (fun W' k6 hb6 ht => ?_)
      have q6 := k6.cell
      refine bodyPost_ret (v := .tuple #[actV (plainV act00), .bool false]) (by simp [results, Tryd.results21, go_sem, actV, q6]) rfl ?_
      exact ⟨hb6, .inl ⟨HO.out, _, _, _, _, _, _, _, rfl, rfl, rfl⟩⟩
    · rw [HNS.out] at hyes; cases hyes
  | some ns =>
    have HNS := hide hns
    have hns1 : ns.length = 1 ∧ 1 ≤ ws.length := by
      unfold numsN at hns
      split at hns
      · rename_i h1
        refine ⟨?_, h1⟩
        rw [numsD_length hns, List.length_take]
        omega
      · cases hns
    obtain ⟨a, rfl⟩ := nums1 hns1.1
    cases ws with
    | nil => exact absurd hns1.2 (by decide)
    | cons x0 rest =>
      cases rest with
      | nil =>
        have HO := hide (show callOfD (some [a]) [x0] = none from rfl)
        obtain rfl : m = 1 := HML.out
        clear hns hns1 hk h hl hv
        go_enter Tryd.func21, Tryd.ntmps21
        go_wp2_with fail
        refine (HNU.out _ ((Below.refl _ _).alloc (Nat.le_refl _) _)).mono ?_
        rintro e w1 ⟨hb1, ⟨hno, rfl⟩ | ⟨ns', g, hyes, rfl, hg, hgk⟩⟩
        · rw [HNS.out] at hno; cases hno
        · rw [HNS.out] at hyes
          obtain rfl := Option.some.inj hyes
          have k1 := Blk.via hb1 (Blk.new w _ _)
          have hbw1 := below_via ((Below.refl _ w).alloc (Nat.le_refl _) _) hb1 (by simp)
          clear hyes
          have q0 := (k1).cell
          have f0 := (k1).frozen
          have l0 := (k1).lt
          go_wp2
          refine genPut (vs := [.int .i64 (plainV act00).d.act, .int .i64 (plainV act00).d.client, .int .i64 (plainV act00).d.op.act, .string (plainV act00).d.op.key, (plainV act00).dv, .int .i64 (plainV act00).d.op.lo, .int .i64 (plainV act00).d.op.hi, .int .i64 (plainV act00).d.op.n, .int .i64 (plainV act00).d.n, (plainV act00).pv, .int .i64 (plainV act00).d.log]) k1 rfl hbw1 (Nat.le_refl _) (fun W' k6 hb6 ht => ?_)
          have q6 := k6.cell
          refine bodyPost_ret (v := .tuple #[actV (plainV act00), .bool false]) (by simp [results, Tryd.results21, go_sem, actV, q6]) rfl ?_
          exact ⟨hb6, .inl ⟨HO.out, _, _, _, _, _, _, _, rfl, rfl, rfl⟩⟩
      | cons nm r =>
        obtain ⟨m, rfl⟩ : ∃ m', m = m' + 2 := ⟨r.length, by have := HML.out; simpa using this⟩
        have HO := hide (show callOfD (some [a]) (x0 :: nm :: r) = (opOfD nm r).map fun x => { act00 with client := a, op := x } from rfl)
        obtain ⟨A', hsl, hr⟩ := strs_tail2 h hmc
        obtain ⟨bq, o, x, rfl, hbq, hkx, c0⟩ := h.at_ (k := 1) (by omega)
        obtain rfl : nm = x := by simpa using hkx
        have hlt : bq < w.heap.size := by omega
        have HR := hide hr
        have b2 : ¬ ((m : Int) + 2 < 2) := by omega
        have HOP := hide (fun W (hbW : Below w.heap.size w W) => tx_data nm ▸ opOf_any (tx nm) A' m (c - 2) r B W (Nat.le_trans hB hbW.size) (by omega) (by omega) (HR.out.below hbW hB) (fun x hx => hl x (by simp [hx])) (hv.below hbW))
        clear hns hns1 hk h hl hv hr hkx
        go_enter Tryd.func21, Tryd.ntmps21
        go_wp2_with fail
        refine (HNU.out _ ((Below.refl _ _).alloc (Nat.le_refl _) _)).mono ?_
        rintro e w1 ⟨hb1, ⟨hno, rfl⟩ | ⟨ns', g, hyes, rfl, hg, hgk⟩⟩
        · rw [HNS.out] at hno; cases hno
        · rw [HNS.out] at hyes
          obtain rfl := Option.some.inj hyes
          have k1 := Blk.via hb1 (Blk.new w _ _)
          have hbw1 := below_via ((Below.refl _ w).alloc (Nat.le_refl _) _) hb1 (by simp)
          clear hyes
          have g0 := hgk.cell
          have gl := hgk.lt
          go_wp2_with fail
          go_cut [7, 8] (fun s7 s8 wx => OpCut w1 (opOfD nm r) s7 s8 wx)
          case first =>
            have jb := (Below.refl w1.heap.size w1).drew
            have c1 : ∀ W, Below w1.heap.size w1 W → W.cell? ⟨bq, o + 1, none⟩ = some (.string (tx nm)) := fun W hW => (hW.cell (p := ⟨bq, o + 1, none⟩) (by have := hbw1.size; show bq < _; omega)).trans ((hbw1.cell (p := ⟨bq, o + 1, none⟩) hlt).trans c0)
            have C1 := hide c1
            clear c1 g0
            have i1 : (1 : Int) < (m : Int) + 2 := by omega
            have i2 : (1 : Int) < ((m + 2 : Nat) : Int) := by omega
            go_region_held3 (fun w' => w'.cell? ⟨bq, o + 1, none⟩ = some (.string (tx nm)))
              (first | (with_reducible exact C1.out _ jb) | (with_reducible exact C1.out _ (((Below.refl w1.heap.size w1).alloc (Nat.le_refl _) _).drew)) | (with_reducible exact C1.out _ jq) | (with_reducible exact C1.out _ (jq.alloc jq.size _)) | exact C1.out _ ((((((jq.setCell (p := ⟨w1.heap.size, 0, none⟩) (Nat.le_refl _) _).setCell (p := ⟨w1.heap.size, 1, none⟩) (Nat.le_refl _) _).setCell (p := ⟨w1.heap.size, 2, none⟩) (Nat.le_refl _) _).setCell (p := ⟨w1.heap.size, 3, none⟩) (Nat.le_refl _) _).setCell (p := ⟨w1.heap.size, 4, none⟩) (Nat.le_refl _) _).setCell (p := ⟨w1.heap.size, 5, none⟩) (Nat.le_refl _) _))
              ((go_at_call 43; refine (HOP.out _ (below_via hbw1 (by (first | (with_reducible exact jb) | (with_reducible exact (((Below.refl w1.heap.size w1).alloc (Nat.le_refl _) _).drew)))) hbw1.size)).mono ?_; rintro e wq hq; obtain ⟨x, A2, n2, c2, ok, rfl, hbq, HQ⟩ := opOf_told hq; have jq : Below w1.heap.size w1 wq := (by (first | exact below_via jb hbq jb.size | exact below_via (((Below.refl w1.heap.size w1).alloc (Nat.le_refl _) _).drew) hbq (by simp))); try (have k8 := Blk.via hbq ((Blk.new w1 _ _).drew); have q8 := k8.cell; have f8 := k8.frozen; have l8 := k8.lt)))
            all_goals go_wp2_with fail
            all_goals go_meet
            · refine ⟨wq.heap.size, x, A2, n2, c2, ok, rfl, rfl, jq.size, Blk.new _ _ _, jq.alloc jq.size _, ?_⟩
              rcases HQ.out with h | ⟨h1, h2, h3⟩
              · exact .inl h
              · exact .inr ⟨h1, h2, (h3.alloc _).low (Nat.le_refl _)⟩
            · refine genPut (vs := [.int .i64 x.act, .string x.key, .slice A2 n2 c2, .int .i64 x.lo, .int .i64 x.hi, .int .i64 x.n]) k8 rfl jq (Nat.le_refl _) (fun W' k6 hb6 ht => ⟨w1.heap.size, x, A2, n2, c2, ok, rfl, rfl, Nat.le_refl _, k6, hb6, ?_⟩)
              rcases HQ.out with h | ⟨h1, h2, h3⟩
              · exact .inl h
              · exact .inr ⟨h1, h2, (own_put h3 k8 (by decide) ht).low (by simp)⟩
          case rest =>
            obtain ⟨b8, x, A2, n2, c2, ok, rfl, rfl, hb8, k8, hbx, HQ⟩ := hcut
            rename World => wx
            have HQ := hide HQ
            have k1 := Blk.via hbx k1
            have hgk := Blk.via hbx hgk
            have hbwx := below_via hbw1 hbx hbw1.size
            clear g0
            have g0 := hgk.cell
            have gl := hgk.lt
            have q8 := k8.cell
            have l8 := k8.lt
            have kW := k1.cell
            have fW := k1.frozen
            have lW := k1.lt
            go_wp2
            go_region
            go_wp2
            refine genPutD (vs := [.int .i64 0, .int .i64 a, .int .i64 x.act, .string x.key, .slice A2 n2 c2, .int .i64 x.lo, .int .i64 x.hi, .int .i64 x.n, .int .i64 0, .slice none 0 0, .int .i64 0]) k1 rfl hbwx (Nat.le_refl _) (fun W' k6 hb6 ht => ?_)
            have q6 := k6.cell
            refine bodyPost_ret (v := .tuple #[actV ⟨{ act00 with client := a, op := x }, .slice A2 n2 c2, .slice none 0 0⟩, .bool ok]) (by simp [results, Tryd.results21, go_sem, actV, act00, q6]) rfl ?_
            rcases HQ.out with ⟨h1, rfl⟩ | ⟨h1, rfl, h3⟩
            · exact ⟨hb6, .inl ⟨by rw [HO.out, h1]; rfl, _, _, _, _, _, _, _, rfl, rfl, rfl⟩⟩
            · exact ⟨hb6, .inr ⟨_, by rw [HO.out, h1]; rfl, rfl, (own_put h3 k1 (by decide) ht).low hbw1.size, OwnI.nil _ _⟩⟩
theorem actOf_any (s : ByteArray) (A : Option Addr) (m c : Nat) (ws : List (List UInt8)) (B : Nat) (w : World) (hB : B ≤ w.heap.size) (hm : m ≤ 1000) (hmc : m ≤ c) (h : Strs w B A m ws) (hl : ∀ x ∈ ws, x.length ≤ 1000000) (hv : ErrV w) :
    Calls Tryd.prog 21 #[.string s, .slice A m c] w (ActPost w (actOfD s.data.toList ws)) := by
  by_cases h1 : s.data.toList = wCall
  · exact actOf_call s A m c ws B w hB hm hmc h hl hv h1
  by_cases h2 : s.data.toList = wStep
  · exact actOf_step s A m c ws B w hB hm h hl hv h2
  by_cases h3 : s.data.toList = wFuse
  · exact actOf_fuse s A m c ws B w hB hm h hl hv h3
  by_cases h4 : s.data.toList = wCrash
  · exact actOf_crash s A m c ws B w hB hm h hl hv h4
  · exact actOf_word s A m c ws B w h h1 h2 h3 h4
end Go.Proofs.YtgokkbocboonnaaDoor
