/-
  WALK OF THE PROGRAM: act.opOf: a call by its words.
  WALK OF THE PROGRAM: act.opOf: a call with numbers; any call.
-/
import Derived.Test.YtgokkbocboonnaaDoorAD
import Derived.Test.YtgokkbocboonnaaDoorAH
import Derived.Deep.QuietTactic
import Derived.BigQuiet
import Derived.RegionTactic
import Derived.ChangeAlike
import Derived.BigRegion
import Derived.StillTailTactics
namespace Go.Proofs.YtgokkbocboonnaaDoor
open Go.RowKit Go.Shelf

theorem lit_no {s : ByteArray} {l : List UInt8} (h : s.data.toList ≠ l) : (s.toList == l) = false := by
  rw [beq_eq_false_iff_ne, ByteArray.toList_eq]
  exact h
theorem lit_yes {s : ByteArray} {l : List UInt8} (h : s.data.toList = l) : (s.toList == l) = true := by
  rw [ByteArray.toList_eq, h]
  exact beq_self_eq_true l
/-- An Op by value. -/
def opV (x : OpD) (dv : Value) : Value := .agg #[.int .i64 x.act, .string x.key, dv, .int .i64 x.lo, .int .i64 x.hi, .int .i64 x.n]
/-- What act.opOf tells. -/
def OpPost (w : World) (o : Option OpD) (e : Ending) (w' : World) : Prop :=
  Below w.heap.size w w' ∧ ((o = none ∧ ∃ x A n c, e = .returned (.tuple #[opV x (.slice A n c), .bool false])) ∨
    ∃ x A n c, o = some x ∧ e = .returned (.tuple #[opV x (.slice A n c), .bool true]) ∧ OwnB w' w.heap.size (.slice A n c) x.data)
theorem opKeyD_write {n key : List UInt8} {w : List (List UInt8)} (h1 : n ≠ wRead) (h2 : n ≠ wDrop) (h3 : n = wWrite) (h : w.length ≠ 1) : opKeyD n key w = none := by
  unfold opKeyD
  rw [if_neg h1, if_neg h2, if_pos h3]
  split
  · exact absurd rfl h
  · rfl
theorem nums3 {ns : List Int} (h : ns.length = 3) : ∃ a b c, ns = [a, b, c] := by
  match ns, h with
  | [a, b, c], _ => exact ⟨a, b, c, rfl⟩
theorem nums1 {ns : List Int} (h : ns.length = 1) : ∃ a, ns = [a] := by
  match ns, h with
  | [a], _ => exact ⟨a, rfl⟩
theorem opNumsD_no {n : List UInt8} {k : ByteArray} {ns : List Int} (h3 : n = wCreate → ns.length ≠ 3) (h1 : n = wInc ∨ n = wDec → ns.length ≠ 1) : opNumsD n k (some ns) = none := by
  unfold opNumsD
  split
  · rename_i a b c e
    injection e with e
    subst e
    rw [if_neg (fun h => h3 h rfl)]
  · rename_i a e
    injection e with e
    subst e
    rw [if_neg (fun h => h1 (.inl h) rfl), if_neg (fun h => h1 (.inr h) rfl)]
  · rfl
theorem len_no {n k : Nat} (h : n ≠ k) : ((n : Int) == (k : Int)) = false := beq_eq_false_iff_ne.2 (by omega)
theorem b0_yes {n : Nat} (h : n = 0) : ((n : Int) == 0) = true := by simpa using h
theorem b0_no {n : Nat} (h : n ≠ 0) : ((n : Int) == 0) = false := by simpa using h

theorem strs_tail {w : World} {B m c : Nat} {A : Option Addr} {k : List UInt8} {r : List (List UInt8)} (h : Strs w B A (m + 1) (k :: r)) (hc : m + 1 ≤ c) :
    ∃ A', (∀ W, (Instr.slice 51 (.slice A (m + 1) c) (some (.int .i64 1)) none none).run Tryd.prog W = .ok (.slice A' m (c - 1)) W) ∧ Strs w B A' m r := by
  have h1 := h.cut (k := 1) (cap := c) (by omega) hc
  rw [Nat.add_sub_cancel, List.drop_succ_cons, List.drop_zero] at h1
  refine ⟨_, fun W => ?_, h1⟩
  have hE : Tryd.prog.elem 51 = 9 := by kernel_rfl
  have hz : (sizeOf 9).run Tryd.prog W = .ok 1 W := by kernel_rfl
  rw [run_slice_l (P := Tryd.prog) (w := W) 51 A (m + 1) c (by rw [hE]; exact Tryd.underlying51) .i64 1 (by omega) (by omega), hE, hz]
  simp [Result.andThen, sliced]
/-- A world of which one block has just been laid, a draw behind it, under a name of its own. -/
theorem gen1d {w : World} {n : Nat} {cs : Array Value} {t : TypeId} {R : World → Prop} (h : ∀ W, Blk W w.heap.size t cs → Below w.heap.size w W → w.heap.size + 1 ≤ W.heap.size → R W) : R ((w.alloc (.cells cs t)).drewN n) :=
  h _ ((Blk.new _ _ _).drewN n) (below_drewN ((Below.refl _ _).alloc (Nat.le_refl _) _) n) (by simp)
theorem setL_toList : ∀ (vs : List Value) (cs : Array Value) (o : Nat), o + vs.length ≤ cs.size → (setL cs o vs).toList = cs.toList.take o ++ vs ++ cs.toList.drop (o + vs.length)
  | [], cs, o, _ => by simp [setL]
  | v :: vs, cs, o, h => by
    simp only [List.length_cons] at h
    have ho : o < cs.toList.length := by simp; omega
    have e : (cs.setIfInBounds o v).toList = cs.toList.take o ++ v :: cs.toList.drop (o + 1) := by
      rw [Array.toList_setIfInBounds, List.set_eq_take_append_cons_drop, if_pos ho]
    have hl : (cs.toList.take o).length = o := by rw [List.length_take]; omega
    rw [setL, setL_toList vs _ (o + 1) (by simp; omega), e, List.take_append, hl, List.drop_append, hl]
    simp only [List.length_cons]
    rw [List.take_of_length_le (by omega), show o + 1 - o = 1 by omega, List.take_succ_cons, List.take_zero, List.drop_of_length_le (by omega), show o + 1 + vs.length - o = vs.length + 1 by omega, List.drop_succ_cons, List.drop_drop]
    simp only [List.nil_append, List.append_assoc, List.cons_append]
    rw [show o + (vs.length + 1) = vs.length + (o + 1) by omega]
    first | rfl | rw [Nat.add_comm]
theorem setL_all (cs : Array Value) (vs : List Value) (h : cs.size = vs.length) : setL cs 0 vs = vs.toArray := by
  have h1 := setL_toList vs cs 0 (by omega)
  apply Array.toList_inj.1
  rw [h1, List.drop_of_length_le (by simp; omega)]
  simp
/-- All cells of a block stored. -/
theorem genPut {w W : World} {g B : Nat} {t : TypeId} {cs : Array Value} {vs : List Value} {R : World → Prop} (k : Blk W g t cs) (hs : cs.size = vs.length) (hb : Below B w W) (hg : B ≤ g)
    (hR : ∀ W', Blk W' g t vs.toArray → Below B w W' → Touch g (g + 1) W W' → R W') : R (putL W g 0 vs) := by
  have k2 := putL_blk vs 0 k
  rw [setL_all cs vs hs] at k2
  have ht := putL_touch g vs W W 0 (Touch.refl _)
  exact hR _ k2 (ht.below hb hg) ht
theorem own_put {W W' : World} {g base : Nat} {t : TypeId} {cs : Array Value} {v : Value} {bs : List UInt8} (h : OwnB W base v bs) (k : Blk W g t cs) (hne : t ≠ 5) (ht : Touch g (g + 1) W W') : OwnB W' base v bs := h.keep fun q hq => by
  refine ht.block q ?_
  rcases Nat.lt_trichotomy q g with h1 | h1 | h1
  · exact .inl h1
  · subst h1
    obtain ⟨cur, e⟩ := row_obj h hq
    unfold Blk at k
    rw [k] at e
    injection e with e
    injection e with _ e
    exact absurd e hne
  · exact .inr h1
set_option maxHeartbeats 3200000 in
theorem opOf_rd (s : ByteArray) (A : Option Addr) (m c : Nat) (ky : List UInt8) (r : List (List UInt8)) (B : Nat) (w : World) (hB : B ≤ w.heap.size) (hm : m + 1 ≤ 1000) (hmc : m + 1 ≤ c) (h : Strs w B A (m + 1) (ky :: r)) (b1 : (s.toList == [98, 101, 103, 105, 110]) = false) (b2 : (s.toList == [99, 111, 109, 109, 105, 116]) = false) (b3 : (s.toList == [97, 98, 111, 114, 116]) = false) (hk0 : s.data.toList = wRead ∨ s.data.toList = wDrop) :
    Calls Tryd.prog 43 #[.string s, .slice A (m + 1) c] w (OpPost w (opKeyD s.data.toList ky r)) := by
  have b0 := b0_no (show m + 1 ≠ 0 by omega)
  have hml := h.1
  obtain ⟨A', hsl, hr⟩ := strs_tail h hmc
  obtain ⟨bk, o, x, rfl, hbk, hkx, c0⟩ := h.at_ (k := 0) (by omega)
  obtain rfl : ky = x := by simpa using hkx
  simp only [Nat.add_zero] at c0
  have hml' : m = r.length := by simpa using hml
  have hlt : bk < w.heap.size := by omega
  have HR := hide hr
  have HML := hide hml'
  clear h hkx hr hml hml'
  have hn := True.intro
  by_cases hk : s.data.toList = wRead
  · have bk : (s.toList == [114, 101, 97, 100]) = true := lit_yes hk
    by_cases h0 : m = 0
    · have HO := hide (show opKeyD s.data.toList ky r = some ⟨0, tx ky, [], 0, 0, 0⟩ by unfold opKeyD; rw [ if_pos hk, if_pos (by have := HML.out; omega)])
      have b4 := b0_yes h0
      clear h0 hk hn
      go_enter Tryd.func43, Tryd.ntmps43
      go_wp2
      go_quiet (fail)
      refine gen1d (fun W k0 hbW hz => ?_)
      have q0 := (k0).cell
      have f0 := (k0).frozen
      have l0 := (k0).lt
      go_wp2
      refine genPut (vs := [.int .i64 0, .string (tx ky), (.slice none 0 0), .int .i64 0, .int .i64 0, .int .i64 0]) k0 rfl hbW (Nat.le_refl _) (fun W' k6 hb6 ht => ?_)
      have q6 := k6.cell
      refine bodyPost_ret (v := .tuple #[opV ⟨0, (tx ky), [], 0, 0, 0⟩ (.slice none 0 0), .bool true]) (by simp [results, Tryd.results43, go_sem, opV, q6]) rfl ?_
      exact ⟨hb6, .inr ⟨_, _, _, _, HO.out, rfl, OwnB.nil _ _⟩⟩
    · have HO := hide (show opKeyD s.data.toList ky r = none by unfold opKeyD; rw [ if_pos hk, if_neg (by have := HML.out; omega)])
      have b4 := b0_no h0
      clear h0 hk hn
      go_enter Tryd.func43, Tryd.ntmps43
      go_wp2
      go_quiet (fail)
      refine gen1d (fun W k0 hbW hz => ?_)
      have q0 := (k0).cell
      have f0 := (k0).frozen
      have l0 := (k0).lt
      go_wp2
      refine genPut (vs := [.int .i64 0, .string (tx ky), (.slice none 0 0), .int .i64 0, .int .i64 0, .int .i64 0]) k0 rfl hbW (Nat.le_refl _) (fun W' k6 hb6 ht => ?_)
      have q6 := k6.cell
      refine bodyPost_ret (v := .tuple #[opV ⟨0, (tx ky), [], 0, 0, 0⟩ (.slice none 0 0), .bool false]) (by simp [results, Tryd.results43, go_sem, opV, q6]) rfl ?_
      exact ⟨hb6, .inl ⟨HO.out, _, _, _, _, rfl⟩⟩
  have hn := And.intro hn hk
  clear hk
  have bk1 : (s.toList == [114, 101, 97, 100]) = false := lit_no hn.2
  by_cases hk : s.data.toList = wDrop
  · have bk : (s.toList == [100, 114, 111, 112]) = true := lit_yes hk
    by_cases h0 : m = 0
    · have HO := hide (show opKeyD s.data.toList ky r = some ⟨3, tx ky, [], 0, 0, 0⟩ by unfold opKeyD; rw [if_neg hn.2,  if_pos hk, if_pos (by have := HML.out; omega)])
      have b4 := b0_yes h0
      clear h0 hk hn
      go_enter Tryd.func43, Tryd.ntmps43
      go_wp2
      go_quiet (fail)
      refine gen1d (fun W k0 hbW hz => ?_)
      have q0 := (k0).cell
      have f0 := (k0).frozen
      have l0 := (k0).lt
      go_wp2
      refine genPut (vs := [.int .i64 3, .string (tx ky), (.slice none 0 0), .int .i64 0, .int .i64 0, .int .i64 0]) k0 rfl hbW (Nat.le_refl _) (fun W' k6 hb6 ht => ?_)
      have q6 := k6.cell
      refine bodyPost_ret (v := .tuple #[opV ⟨3, (tx ky), [], 0, 0, 0⟩ (.slice none 0 0), .bool true]) (by simp [results, Tryd.results43, go_sem, opV, q6]) rfl ?_
      exact ⟨hb6, .inr ⟨_, _, _, _, HO.out, rfl, OwnB.nil _ _⟩⟩
    · have HO := hide (show opKeyD s.data.toList ky r = none by unfold opKeyD; rw [if_neg hn.2,  if_pos hk, if_neg (by have := HML.out; omega)])
      have b4 := b0_no h0
      clear h0 hk hn
      go_enter Tryd.func43, Tryd.ntmps43
      go_wp2
      go_quiet (fail)
      refine gen1d (fun W k0 hbW hz => ?_)
      have q0 := (k0).cell
      have f0 := (k0).frozen
      have l0 := (k0).lt
      go_wp2
      refine genPut (vs := [.int .i64 3, .string (tx ky), (.slice none 0 0), .int .i64 0, .int .i64 0, .int .i64 0]) k0 rfl hbW (Nat.le_refl _) (fun W' k6 hb6 ht => ?_)
      have q6 := k6.cell
      refine bodyPost_ret (v := .tuple #[opV ⟨3, (tx ky), [], 0, 0, 0⟩ (.slice none 0 0), .bool false]) (by simp [results, Tryd.results43, go_sem, opV, q6]) rfl ?_
      exact ⟨hb6, .inl ⟨HO.out, _, _, _, _, rfl⟩⟩
  have hn := And.intro hn hk
  clear hk
  have bk2 : (s.toList == [100, 114, 111, 112]) = false := lit_no hn.2
  exact (hk0.elim hn.1.2 hn.2).elim
set_option maxHeartbeats 3200000 in
theorem opOf_write (s : ByteArray) (A : Option Addr) (m c : Nat) (ky : List UInt8) (r : List (List UInt8)) (B : Nat) (w : World) (hB : B ≤ w.heap.size) (hm : m + 1 ≤ 1000) (hmc : m + 1 ≤ c) (h : Strs w B A (m + 1) (ky :: r)) (hl : ∀ x ∈ ky :: r, x.length ≤ 1000000) (b1 : (s.toList == [98, 101, 103, 105, 110]) = false) (b2 : (s.toList == [99, 111, 109, 109, 105, 116]) = false) (b3 : (s.toList == [97, 98, 111, 114, 116]) = false) (hn1 : s.data.toList ≠ wRead) (hn2 : s.data.toList ≠ wDrop) (hk : s.data.toList = wWrite) :
    Calls Tryd.prog 43 #[.string s, .slice A (m + 1) c] w (OpPost w (opKeyD s.data.toList ky r)) := by
  have b0 := b0_no (show m + 1 ≠ 0 by omega)
  have hml := h.1
  obtain ⟨A', hsl, hr⟩ := strs_tail h hmc
  obtain ⟨bk, o, x, rfl, hbk, hkx, c0⟩ := h.at_ (k := 0) (by omega)
  obtain rfl : ky = x := by simpa using hkx
  simp only [Nat.add_zero] at c0
  have hml' : m = r.length := by simpa using hml
  have hlt : bk < w.heap.size := by omega
  have HR := hide hr
  have HML := hide hml'
  clear h hkx hr hml hml'
  have bk1 : (s.toList == [114, 101, 97, 100]) = false := lit_no hn1
  have bk2 : (s.toList == [100, 114, 111, 112]) = false := lit_no hn2
  have hn := And.intro (And.intro True.intro hn1) hn2
  clear hn1 hn2
  · have bk : (s.toList == [119, 114, 105, 116, 101]) = true := lit_yes hk
    by_cases h0 : m = 1
    · subst h0
      obtain ⟨x1, rfl⟩ : ∃ x1, r = [x1] := by
        have := HML.out
        cases r with
        | nil => simp at this
        | cons a t =>
          obtain rfl := List.eq_nil_of_length_eq_zero (l := t) (by simpa using this.symm)
          exact ⟨a, rfl⟩
      have HO := hide (show opKeyD s.data.toList ky [x1] = (bytesD x1).map fun b => ⟨1, tx ky, b, 0, 0, 0⟩ by unfold opKeyD; rw [if_neg hn.1.2, if_neg hn.2, if_pos hk])
      obtain ⟨bk', o', x2, rfl, hbk', hkx', c1⟩ := HR.out.at_ (k := 0) (by omega)
      obtain rfl : x1 = x2 := by simpa using hkx'
      simp only [Nat.add_zero] at c1
      have hlt' : bk' < w.heap.size := by omega
      have b4 : (((1 : Nat) : Int) != 1) = false := rfl
      have HBY := hide (fun W => tx_data x1 ▸ bytesOf_any (tx x1) W (by rw [tx_size]; exact hl x1 (by simp)))
      clear hk hkx' hn hl
      go_enter Tryd.func43, Tryd.ntmps43
      go_wp2
      go_quiet (fail)
      refine gen1d (fun W k0 hbW hz => ?_)
      have c2 := (hbW.cell (p := ⟨bk', o', none⟩) hlt').trans c1
      go_wp2_with fail
      refine (HBY.out _).mono ?_
      rintro e w1 ⟨hb1, ⟨hno, rfl⟩ | ⟨bs, A1, n1, c1', hyes, rfl, hown⟩⟩
      · have k1 := Blk.via hb1 k0
        have hbw1 := below_via hbW hb1 hbW.size
        have HNO := hide hno
        clear hno
        have q0 := (k1).cell
        have f0 := (k1).frozen
        have l0 := (k1).lt
        go_wp2
        refine genPut (vs := [.int .i64 1, .string (tx ky), (.slice none 0 0), .int .i64 0, .int .i64 0, .int .i64 0]) k1 rfl hbw1 (Nat.le_refl _) (fun W' k6 hb6 ht => ?_)
        have q6 := k6.cell
        refine bodyPost_ret (v := .tuple #[opV ⟨1, (tx ky), [], 0, 0, 0⟩ (.slice none 0 0), .bool false]) (by simp [results, Tryd.results43, go_sem, opV, q6]) rfl ?_
        exact ⟨hb6, .inl ⟨by rw [HO.out, HNO.out]; rfl, _, _, _, _, rfl⟩⟩
      · have k1 := Blk.via hb1 k0
        have hbw1 := below_via hbW hb1 hbW.size
        have HYES := hide hyes
        have HOW := hide hown
        clear hyes hown
        have q0 := (k1).cell
        have f0 := (k1).frozen
        have l0 := (k1).lt
        go_wp2
        refine genPut (vs := [.int .i64 1, .string (tx ky), (.slice A1 n1 c1'), .int .i64 0, .int .i64 0, .int .i64 0]) k1 rfl hbw1 (Nat.le_refl _) (fun W' k6 hb6 ht => ?_)
        have q6 := k6.cell
        refine bodyPost_ret (v := .tuple #[opV ⟨1, (tx ky), bs, 0, 0, 0⟩ (.slice A1 n1 c1'), .bool true]) (by simp [results, Tryd.results43, go_sem, opV, q6]) rfl ?_
        exact ⟨hb6, .inr ⟨_, _, _, _, by rw [HO.out, HYES.out]; rfl, rfl, (own_put HOW.out k1 (by decide) ht).low hbW.size⟩⟩
    · have HO := hide (show opKeyD s.data.toList ky r = none by exact opKeyD_write hn.1.2 hn.2 hk (by have := HML.out; omega))
      have b4 : ((m : Int) != 1) = true := by simp; omega
      clear h0 hk hn
      go_enter Tryd.func43, Tryd.ntmps43
      go_wp2
      go_quiet (fail)
      refine gen1d (fun W k0 hbW hz => ?_)
      have q0 := (k0).cell
      have f0 := (k0).frozen
      have l0 := (k0).lt
      go_wp2
      refine genPut (vs := [.int .i64 0, .string ⟨#[]⟩, (.slice none 0 0), .int .i64 0, .int .i64 0, .int .i64 0]) k0 rfl hbW (Nat.le_refl _) (fun W' k6 hb6 ht => ?_)
      have q6 := k6.cell
      refine bodyPost_ret (v := .tuple #[opV ⟨0, ⟨#[]⟩, [], 0, 0, 0⟩ (.slice none 0 0), .bool false]) (by simp [results, Tryd.results43, go_sem, opV, q6]) rfl ?_
      exact ⟨hb6, .inl ⟨HO.out, _, _, _, _, rfl⟩⟩
end Go.Proofs.YtgokkbocboonnaaDoor
namespace Go.Proofs.YtgokkbocboonnaaDoor
open Go.RowKit Go.Shelf

set_option maxRecDepth 100000 in
set_option maxHeartbeats 25600000 in
theorem opOf_nums (s : ByteArray) (A : Option Addr) (m c : Nat) (ky : List UInt8) (r : List (List UInt8)) (B : Nat) (w : World) (hB : B ≤ w.heap.size) (hm : m + 1 ≤ 1000) (hmc : m + 1 ≤ c) (h : Strs w B A (m + 1) (ky :: r)) (hl : ∀ x ∈ ky :: r, x.length ≤ 1000000) (b1 : (s.toList == [98, 101, 103, 105, 110]) = false) (b2 : (s.toList == [99, 111, 109, 109, 105, 116]) = false) (b3 : (s.toList == [97, 98, 111, 114, 116]) = false) (hv : ErrV w) (hn1 : s.data.toList ≠ wRead) (hn2 : s.data.toList ≠ wDrop) (hn3 : s.data.toList ≠ wWrite) :
    Calls Tryd.prog 43 #[.string s, .slice A (m + 1) c] w (OpPost w (opKeyD s.data.toList ky r)) := by
  have b0 := b0_no (show m + 1 ≠ 0 by omega)
  have hml := h.1
  obtain ⟨A', hsl, hr⟩ := strs_tail h hmc
  obtain ⟨bk, o, x, rfl, hbk, hkx, c0⟩ := h.at_ (k := 0) (by omega)
  obtain rfl : ky = x := by simpa using hkx
  simp only [Nat.add_zero] at c0
  have hml' : m = r.length := by simpa using hml
  have hlt : bk < w.heap.size := by omega
  have HR := hide hr
  have HML := hide hml'
  clear h hkx hr hml hml'
  have bk1 : (s.toList == [114, 101, 97, 100]) = false := lit_no hn1
  have bk2 : (s.toList == [100, 114, 111, 112]) = false := lit_no hn2
  have bk3 : (s.toList == [119, 114, 105, 116, 101]) = false := lit_no hn3
  have HO := hide (show opKeyD s.data.toList ky r = opNumsD s.data.toList (tx ky) (numsD r) by unfold opKeyD; rw [if_neg hn1, if_neg hn2, if_neg hn3])
  have HNU := hide (fun W (hbW : Below w.heap.size w W) => numbers_any A' m (c - 1) r m B W (Nat.le_trans hB hbW.size) (by omega) (by omega) (HR.out.below hbW hB) (fun x hx => hl x (List.mem_cons_of_mem _ hx)) (hv.below hbW))
  have HNN := hide (show numsN r m = numsD r by unfold numsN; rw [if_pos (by have := HML.out; omega), List.take_of_length_le (by have := HML.out; omega)])
  rw [HO.out]
  clear hn1 hn2 hn3 hl HO
  rw [HNN.out] at HNU
  cases hns : numsD r with
  | none =>
    have HNS := hide hns
    clear hns
    go_enter Tryd.func43, Tryd.ntmps43
    go_wp2
    go_quiet (fail)
    refine gen1d (fun W k0 hbW hz => ?_)
    go_wp2_with fail
    refine (HNU.out W hbW).mono ?_
    rintro e w1 ⟨hb1, ⟨hno, rfl⟩ | ⟨ns', g, hyes, rfl, hg, hgk⟩⟩
    · have k1 := Blk.via hb1 k0
      have hbw1 := below_via hbW hb1 hbW.size
      clear hno
      have q0 := (k1).cell
      have f0 := (k1).frozen
      have l0 := (k1).lt
      go_wp2
      refine genPut (vs := [.int .i64 0, .string ⟨#[]⟩, (.slice none 0 0), .int .i64 0, .int .i64 0, .int .i64 0]) k1 rfl hbw1 (Nat.le_refl _) (fun W' k6 hb6 ht => ?_)
      have q6 := k6.cell
      refine bodyPost_ret (v := .tuple #[opV ⟨0, ⟨#[]⟩, [], 0, 0, 0⟩ (.slice none 0 0), .bool false]) (by simp [results, Tryd.results43, go_sem, opV, q6]) rfl ?_
      exact ⟨hb6, .inl ⟨rfl, _, _, _, _, rfl⟩⟩
    · rw [HNS.out] at hyes; cases hyes
  | some ns =>
    have HNS := hide hns
    clear hns
    by_cases hc : s.data.toList = wCreate
    · have bc : (s.toList == [99, 114, 101, 97, 116, 101]) = true := lit_yes hc
      by_cases h3 : ns.length = 3
      · obtain ⟨a, b, d, rfl⟩ := nums3 h3
        have HO := hide (show opNumsD s.data.toList (tx ky) (some [a, b, d]) = some ⟨2, tx ky, [], a, b, d⟩ by unfold opNumsD; dsimp only; rw [if_pos hc])
        clear hc h3
        go_enter Tryd.func43, Tryd.ntmps43
        go_wp2
        go_quiet (fail)
        refine gen1d (fun W k0 hbW hz => ?_)
        go_wp2_with fail
        refine (HNU.out W hbW).mono ?_
        rintro e w1 ⟨hb1, ⟨hno, rfl⟩ | ⟨ns', g, hyes, rfl, hg, hgk⟩⟩
        · rw [HNS.out] at hno; cases hno
        · rw [HNS.out] at hyes
          obtain rfl := Option.some.inj hyes
          have k1 := Blk.via hb1 k0
          have hbw1 := below_via hbW hb1 hbW.size
          clear hyes
          have g0 := hgk.cell
          have gl := hgk.lt
          have kW := k1.cell
          have fW := k1.frozen
          have lW := k1.lt
          go_wp2
          go_still_tail 11, (by kernel_rfl)
          clear kW fW lW
          obtain ⟨W2, hW2⟩ : ∃ W2, W2 = ({ w1 with drawn := w1.drawn + 1 } : World) := ⟨_, rfl⟩
          rw [← hW2]
          have k2 := k1.drew
          have k2 : Blk W2 w.heap.size 25 #[.int .i64 0, .string ⟨#[]⟩, .slice none 0 0, .int .i64 0, .int .i64 0, .int .i64 0] := by rw [hW2]; exact k2
          have hbw2 : Below w.heap.size w W2 := by rw [hW2]; exact hbw1.drew
          clear hW2
          have q0 := (k2).cell
          have f0 := (k2).frozen
          have l0 := (k2).lt
          go_wp2
          refine genPut (vs := [.int .i64 2, .string (tx ky), (.slice none 0 0), .int .i64 a, .int .i64 b, .int .i64 d]) k2 rfl hbw2 (Nat.le_refl _) (fun W' k6 hb6 ht => ?_)
          have q6 := k6.cell
          refine bodyPost_ret (v := .tuple #[opV ⟨2, (tx ky), [], a, b, d⟩ (.slice none 0 0), .bool true]) (by simp [results, Tryd.results43, go_sem, opV, q6]) rfl ?_
          exact ⟨hb6, .inr ⟨_, _, _, _, HO.out, rfl, OwnB.nil _ _⟩⟩
      · have HO := hide (opNumsD_no (n := s.data.toList) (k := tx ky) (ns := ns) (fun _ => h3) (fun h => absurd h (by rw [hc]; decide)))
        have b3' := len_no h3
        have bi : (s.toList == [105, 110, 99]) = false := lit_no (by rw [hc]; decide)
        have bd : (s.toList == [100, 101, 99]) = false := lit_no (by rw [hc]; decide)
        clear hc h3
        go_enter Tryd.func43, Tryd.ntmps43
        go_wp2
        go_quiet (fail)
        refine gen1d (fun W k0 hbW hz => ?_)
        go_wp2_with fail
        refine (HNU.out W hbW).mono ?_
        rintro e w1 ⟨hb1, ⟨hno, rfl⟩ | ⟨ns', g, hyes, rfl, hg, hgk⟩⟩
        · rw [HNS.out] at hno; cases hno
        · rw [HNS.out] at hyes
          obtain rfl := Option.some.inj hyes
          have k1 := Blk.via hb1 k0
          have hbw1 := below_via hbW hb1 hbW.size
          clear hyes
          have q0 := (k1).cell
          have f0 := (k1).frozen
          have l0 := (k1).lt
          go_wp2
          refine genPut (vs := [.int .i64 0, .string ⟨#[]⟩, (.slice none 0 0), .int .i64 0, .int .i64 0, .int .i64 0]) k1 rfl hbw1 (Nat.le_refl _) (fun W' k6 hb6 ht => ?_)
          have q6 := k6.cell
          refine bodyPost_ret (v := .tuple #[opV ⟨0, ⟨#[]⟩, [], 0, 0, 0⟩ (.slice none 0 0), .bool false]) (by simp [results, Tryd.results43, go_sem, opV, q6]) rfl ?_
          exact ⟨hb6, .inl ⟨HO.out, _, _, _, _, rfl⟩⟩
    have bc : (s.toList == [99, 114, 101, 97, 116, 101]) = false := lit_no hc
    by_cases hi : s.data.toList = wInc
    · have bi : (s.toList == [105, 110, 99]) = true := lit_yes hi
      by_cases h1 : ns.length = 1
      · obtain ⟨a, rfl⟩ := nums1 h1
        have HO := hide (show opNumsD s.data.toList (tx ky) (some [a]) = some ⟨4, tx ky, [], 0, 0, a⟩ by unfold opNumsD; dsimp only; rw [if_pos hi])
        have bo : (s.toList == [100, 101, 99]) = false := lit_no (by rw [hi]; decide)
        clear hc h1
        go_enter Tryd.func43, Tryd.ntmps43
        go_wp2
        go_quiet (fail)
        refine gen1d (fun W k0 hbW hz => ?_)
        go_wp2_with fail
        refine (HNU.out W hbW).mono ?_
        rintro e w1 ⟨hb1, ⟨hno, rfl⟩ | ⟨ns', g, hyes, rfl, hg, hgk⟩⟩
        · rw [HNS.out] at hno; cases hno
        · rw [HNS.out] at hyes
          obtain rfl := Option.some.inj hyes
          have k1 := Blk.via hb1 k0
          have hbw1 := below_via hbW hb1 hbW.size
          clear hyes
          have g0 := hgk.cell
          have gl := hgk.lt
          have q0 := (k1).cell
          have f0 := (k1).frozen
          have l0 := (k1).lt
          go_wp2
          refine genPut (vs := [.int .i64 4, .string (tx ky), (.slice none 0 0), .int .i64 0, .int .i64 0, .int .i64 a]) k1 rfl hbw1 (Nat.le_refl _) (fun W' k6 hb6 ht => ?_)
          have q6 := k6.cell
          refine bodyPost_ret (v := .tuple #[opV ⟨4, (tx ky), [], 0, 0, a⟩ (.slice none 0 0), .bool true]) (by simp [results, Tryd.results43, go_sem, opV, q6]) rfl ?_
          exact ⟨hb6, .inr ⟨_, _, _, _, HO.out, rfl, OwnB.nil _ _⟩⟩
      · have HO := hide (opNumsD_no (n := s.data.toList) (k := tx ky) (ns := ns) (fun h => absurd h hc) (fun _ => h1))
        have b1' := len_no h1
        have bo : (s.toList == [100, 101, 99]) = false := lit_no (by rw [hi]; decide)
        clear hc h1
        go_enter Tryd.func43, Tryd.ntmps43
        go_wp2
        go_quiet (fail)
        refine gen1d (fun W k0 hbW hz => ?_)
        go_wp2_with fail
        refine (HNU.out W hbW).mono ?_
        rintro e w1 ⟨hb1, ⟨hno, rfl⟩ | ⟨ns', g, hyes, rfl, hg, hgk⟩⟩
        · rw [HNS.out] at hno; cases hno
        · rw [HNS.out] at hyes
          obtain rfl := Option.some.inj hyes
          have k1 := Blk.via hb1 k0
          have hbw1 := below_via hbW hb1 hbW.size
          clear hyes
          have q0 := (k1).cell
          have f0 := (k1).frozen
          have l0 := (k1).lt
          go_wp2
          refine genPut (vs := [.int .i64 0, .string ⟨#[]⟩, (.slice none 0 0), .int .i64 0, .int .i64 0, .int .i64 0]) k1 rfl hbw1 (Nat.le_refl _) (fun W' k6 hb6 ht => ?_)
          have q6 := k6.cell
          refine bodyPost_ret (v := .tuple #[opV ⟨0, ⟨#[]⟩, [], 0, 0, 0⟩ (.slice none 0 0), .bool false]) (by simp [results, Tryd.results43, go_sem, opV, q6]) rfl ?_
          exact ⟨hb6, .inl ⟨HO.out, _, _, _, _, rfl⟩⟩
    have bi : (s.toList == [105, 110, 99]) = false := lit_no hi
    by_cases hd : s.data.toList = wDec
    · have bd : (s.toList == [100, 101, 99]) = true := lit_yes hd
      by_cases h1 : ns.length = 1
      · obtain ⟨a, rfl⟩ := nums1 h1
        have HO := hide (show opNumsD s.data.toList (tx ky) (some [a]) = some ⟨5, tx ky, [], 0, 0, a⟩ by unfold opNumsD; dsimp only; rw [if_neg hi, if_pos hd])
        have bo : (s.toList == [105, 110, 99]) = false := lit_no (by rw [hd]; decide)
        clear hc h1
        go_enter Tryd.func43, Tryd.ntmps43
        go_wp2
        go_quiet (fail)
        refine gen1d (fun W k0 hbW hz => ?_)
        go_wp2_with fail
        refine (HNU.out W hbW).mono ?_
        rintro e w1 ⟨hb1, ⟨hno, rfl⟩ | ⟨ns', g, hyes, rfl, hg, hgk⟩⟩
        · rw [HNS.out] at hno; cases hno
        · rw [HNS.out] at hyes
          obtain rfl := Option.some.inj hyes
          have k1 := Blk.via hb1 k0
          have hbw1 := below_via hbW hb1 hbW.size
          clear hyes
          have g0 := hgk.cell
          have gl := hgk.lt
          have q0 := (k1).cell
          have f0 := (k1).frozen
          have l0 := (k1).lt
          go_wp2
          refine genPut (vs := [.int .i64 5, .string (tx ky), (.slice none 0 0), .int .i64 0, .int .i64 0, .int .i64 a]) k1 rfl hbw1 (Nat.le_refl _) (fun W' k6 hb6 ht => ?_)
          have q6 := k6.cell
          refine bodyPost_ret (v := .tuple #[opV ⟨5, (tx ky), [], 0, 0, a⟩ (.slice none 0 0), .bool true]) (by simp [results, Tryd.results43, go_sem, opV, q6]) rfl ?_
          exact ⟨hb6, .inr ⟨_, _, _, _, HO.out, rfl, OwnB.nil _ _⟩⟩
      · have HO := hide (opNumsD_no (n := s.data.toList) (k := tx ky) (ns := ns) (fun h => absurd h hc) (fun _ => h1))
        have b1' := len_no h1
        have bo : (s.toList == [105, 110, 99]) = false := lit_no (by rw [hd]; decide)
        clear hc h1
        go_enter Tryd.func43, Tryd.ntmps43
        go_wp2
        go_quiet (fail)
        refine gen1d (fun W k0 hbW hz => ?_)
        go_wp2_with fail
        refine (HNU.out W hbW).mono ?_
        rintro e w1 ⟨hb1, ⟨hno, rfl⟩ | ⟨ns', g, hyes, rfl, hg, hgk⟩⟩
        · rw [HNS.out] at hno; cases hno
        · rw [HNS.out] at hyes
          obtain rfl := Option.some.inj hyes
          have k1 := Blk.via hb1 k0
          have hbw1 := below_via hbW hb1 hbW.size
          clear hyes
          have q0 := (k1).cell
          have f0 := (k1).frozen
          have l0 := (k1).lt
          go_wp2
          refine genPut (vs := [.int .i64 0, .string ⟨#[]⟩, (.slice none 0 0), .int .i64 0, .int .i64 0, .int .i64 0]) k1 rfl hbw1 (Nat.le_refl _) (fun W' k6 hb6 ht => ?_)
          have q6 := k6.cell
          refine bodyPost_ret (v := .tuple #[opV ⟨0, ⟨#[]⟩, [], 0, 0, 0⟩ (.slice none 0 0), .bool false]) (by simp [results, Tryd.results43, go_sem, opV, q6]) rfl ?_
          exact ⟨hb6, .inl ⟨HO.out, _, _, _, _, rfl⟩⟩
    · have bd : (s.toList == [100, 101, 99]) = false := lit_no hd
      have HO := hide (opNumsD_no (n := s.data.toList) (k := tx ky) (fun h => absurd h hc) (fun h => absurd h (not_or.2 ⟨hi, hd⟩)) (ns := ns))
      clear hc hi hd
      go_enter Tryd.func43, Tryd.ntmps43
      go_wp2
      go_quiet (fail)
      refine gen1d (fun W k0 hbW hz => ?_)
      go_wp2_with fail
      refine (HNU.out W hbW).mono ?_
      rintro e w1 ⟨hb1, ⟨hno, rfl⟩ | ⟨ns', g, hyes, rfl, hg, hgk⟩⟩
      · rw [HNS.out] at hno; cases hno
      · rw [HNS.out] at hyes
        obtain rfl := Option.some.inj hyes
        have k1 := Blk.via hb1 k0
        have hbw1 := below_via hbW hb1 hbW.size
        clear hyes
        have q0 := (k1).cell
        have f0 := (k1).frozen
        have l0 := (k1).lt
        go_wp2
        refine genPut (vs := [.int .i64 0, .string ⟨#[]⟩, (.slice none 0 0), .int .i64 0, .int .i64 0, .int .i64 0]) k1 rfl hbw1 (Nat.le_refl _) (fun W' k6 hb6 ht => ?_)
        have q6 := k6.cell
        refine bodyPost_ret (v := .tuple #[opV ⟨0, ⟨#[]⟩, [], 0, 0, 0⟩ (.slice none 0 0), .bool false]) (by simp [results, Tryd.results43, go_sem, opV, q6]) rfl ?_
        exact ⟨hb6, .inl ⟨HO.out, _, _, _, _, rfl⟩⟩
set_option maxHeartbeats 3200000 in
theorem opOf_any (s : ByteArray) (A : Option Addr) (m c : Nat) (ws : List (List UInt8)) (B : Nat) (w : World) (hB : B ≤ w.heap.size) (hm : m ≤ 1000) (hmc : m ≤ c) (h : Strs w B A m ws) (hl : ∀ x ∈ ws, x.length ≤ 1000000) (hv : ErrV w) :
    Calls Tryd.prog 43 #[.string s, .slice A m c] w (OpPost w (opOfD s.data.toList ws)) := by
  have hml := h.1
  have hn := True.intro
  by_cases hk : s.data.toList = wBegin
  · have bk : (s.toList == [98, 101, 103, 105, 110]) = true := lit_yes hk
    by_cases h0 : m = 0
    · have HO := hide (show opOfD s.data.toList ws = some ⟨6, ⟨#[]⟩, [], 0, 0, 0⟩ by unfold opOfD; rw [ if_pos hk, if_pos (by omega)])
      have b0 := b0_yes h0
      clear h0 h hml hk hn
      go_enter Tryd.func43, Tryd.ntmps43
      go_wp2
      refine bodyPost_ret (v := .tuple #[opV ⟨6, ⟨#[]⟩, [], 0, 0, 0⟩ (.slice none 0 0), .bool true]) (by simp [results, Tryd.results43, go_sem, opV]) rfl ?_
      exact ⟨(Below.refl _ _).alloc (Nat.le_refl _) _, .inr ⟨_, _, _, _, HO.out, rfl, OwnB.nil _ _⟩⟩
    · have HO := hide (show opOfD s.data.toList ws = none by unfold opOfD; rw [ if_pos hk, if_neg (by omega)])
      have b0 := b0_no h0
      clear h0 h hml hk hn
      go_enter Tryd.func43, Tryd.ntmps43
      go_wp2
      refine bodyPost_ret (v := .tuple #[opV ⟨6, ⟨#[]⟩, [], 0, 0, 0⟩ (.slice none 0 0), .bool false]) (by simp [results, Tryd.results43, go_sem, opV]) rfl ?_
      exact ⟨(Below.refl _ _).alloc (Nat.le_refl _) _, .inl ⟨HO.out, _, _, _, _, rfl⟩⟩
  have hn := And.intro hn hk
  clear hk
  have b1 : (s.toList == [98, 101, 103, 105, 110]) = false := lit_no hn.2
  by_cases hk : s.data.toList = wCommit
  · have bk : (s.toList == [99, 111, 109, 109, 105, 116]) = true := lit_yes hk
    by_cases h0 : m = 0
    · have HO := hide (show opOfD s.data.toList ws = some ⟨7, ⟨#[]⟩, [], 0, 0, 0⟩ by unfold opOfD; rw [if_neg hn.2,  if_pos hk, if_pos (by omega)])
      have b0 := b0_yes h0
      clear h0 h hml hk hn
      go_enter Tryd.func43, Tryd.ntmps43
      go_wp2
      refine bodyPost_ret (v := .tuple #[opV ⟨7, ⟨#[]⟩, [], 0, 0, 0⟩ (.slice none 0 0), .bool true]) (by simp [results, Tryd.results43, go_sem, opV]) rfl ?_
      exact ⟨(Below.refl _ _).alloc (Nat.le_refl _) _, .inr ⟨_, _, _, _, HO.out, rfl, OwnB.nil _ _⟩⟩
    · have HO := hide (show opOfD s.data.toList ws = none by unfold opOfD; rw [if_neg hn.2,  if_pos hk, if_neg (by omega)])
      have b0 := b0_no h0
      clear h0 h hml hk hn
      go_enter Tryd.func43, Tryd.ntmps43
      go_wp2
      refine bodyPost_ret (v := .tuple #[opV ⟨7, ⟨#[]⟩, [], 0, 0, 0⟩ (.slice none 0 0), .bool false]) (by simp [results, Tryd.results43, go_sem, opV]) rfl ?_
      exact ⟨(Below.refl _ _).alloc (Nat.le_refl _) _, .inl ⟨HO.out, _, _, _, _, rfl⟩⟩
  have hn := And.intro hn hk
  clear hk
  have b2 : (s.toList == [99, 111, 109, 109, 105, 116]) = false := lit_no hn.2
  by_cases hk : s.data.toList = wAbort
  · have bk : (s.toList == [97, 98, 111, 114, 116]) = true := lit_yes hk
    by_cases h0 : m = 0
    · have HO := hide (show opOfD s.data.toList ws = some ⟨8, ⟨#[]⟩, [], 0, 0, 0⟩ by unfold opOfD; rw [if_neg hn.1.2, if_neg hn.2,  if_pos hk, if_pos (by omega)])
      have b0 := b0_yes h0
      clear h0 h hml hk hn
      go_enter Tryd.func43, Tryd.ntmps43
      go_wp2
      refine bodyPost_ret (v := .tuple #[opV ⟨8, ⟨#[]⟩, [], 0, 0, 0⟩ (.slice none 0 0), .bool true]) (by simp [results, Tryd.results43, go_sem, opV]) rfl ?_
      exact ⟨(Below.refl _ _).alloc (Nat.le_refl _) _, .inr ⟨_, _, _, _, HO.out, rfl, OwnB.nil _ _⟩⟩
    · have HO := hide (show opOfD s.data.toList ws = none by unfold opOfD; rw [if_neg hn.1.2, if_neg hn.2,  if_pos hk, if_neg (by omega)])
      have b0 := b0_no h0
      clear h0 h hml hk hn
      go_enter Tryd.func43, Tryd.ntmps43
      go_wp2
      refine bodyPost_ret (v := .tuple #[opV ⟨8, ⟨#[]⟩, [], 0, 0, 0⟩ (.slice none 0 0), .bool false]) (by simp [results, Tryd.results43, go_sem, opV]) rfl ?_
      exact ⟨(Below.refl _ _).alloc (Nat.le_refl _) _, .inl ⟨HO.out, _, _, _, _, rfl⟩⟩
  have hn := And.intro hn hk
  clear hk
  have b3 : (s.toList == [97, 98, 111, 114, 116]) = false := lit_no hn.2
  cases ws with
  | nil =>
    have HO := hide (show opOfD s.data.toList [] = none by unfold opOfD; rw [if_neg hn.1.1.2, if_neg hn.1.2, if_neg hn.2])
    have b0 := b0_yes (show m = 0 by simpa using hml)
    clear h hml hn
    go_enter Tryd.func43, Tryd.ntmps43
    go_wp2
    refine bodyPost_ret (v := .tuple #[opV ⟨0, ⟨#[]⟩, [], 0, 0, 0⟩ (.slice none 0 0), .bool false]) (by simp [results, Tryd.results43, go_sem, opV]) rfl ?_
    exact ⟨(Below.refl _ _).alloc (Nat.le_refl _) _, .inl ⟨HO.out, _, _, _, _, rfl⟩⟩
  | cons ky r =>
    obtain ⟨m, rfl⟩ : ∃ m', m = m' + 1 := ⟨r.length, by simpa using hml⟩
    have HO := hide (show opOfD s.data.toList (ky :: r) = opKeyD s.data.toList ky r by unfold opOfD; rw [if_neg hn.1.1.2, if_neg hn.1.2, if_neg hn.2])
    rw [HO.out]
    by_cases h4 : s.data.toList = wRead ∨ s.data.toList = wDrop
    · exact opOf_rd s A m c ky r B w hB hm hmc h b1 b2 b3 h4
    by_cases h5 : s.data.toList = wWrite
    · exact opOf_write s A m c ky r B w hB hm hmc h hl b1 b2 b3 (fun e => h4 (.inl e)) (fun e => h4 (.inr e)) h5
    · exact opOf_nums s A m c ky r B w hB hm hmc h hl b1 b2 b3 hv (fun e => h4 (.inl e)) (fun e => h4 (.inr e)) h5
end Go.Proofs.YtgokkbocboonnaaDoor
