/-
  WALK OF THE PROGRAM: act.lines: an iterator over the lines of a text.
-/
import Derived.Test.YtgokkbocboonnaaDoorAP
import Derived.Test.YtgokkbocboonnaaDoorAE
namespace Go.Proofs.YtgokkbocboonnaaDoor
open Go.RowKit Go.Shelf

attribute [local go_sem] Oper.semAt_some

/-- A line of a short text. -/
abbrev LineB := { p : List UInt8 × Bool // p.1.length ≤ 1000000 }
theorem cut_first (l : List UInt8) (c : UInt8) : (Lib.cut l [c]).1.length ≤ l.length := by
  unfold Lib.cut
  split
  · exact (List.length_take ▸ Nat.min_le_right _ _ : (l.take _).length ≤ l.length)
  · exact Nat.le_refl _
def lMeas (s : Value) : Nat := match s with | .string s => s.size | _ => 0
set_option maxRecDepth 100000 in
set_option maxHeartbeats 4000000 in
/-- The iterator's closure. -/
theorem lines1_in (n : Nat) (hn : 1 ≤ n) (l Bs : Nat) (s : ByteArray) (ws : List (List UInt8 × Bool)) (m : Int) (J Jx : List (List UInt8 × Bool) → World → Prop)
    (hws : ws = linesD s.data.toList) (hsz : s.size ≤ 1000000)
    (hJd : ∀ pre W q, J pre W → J pre (W.drewN q)) (hJM : ∀ pre W, J pre W → W.cell? ⟨0, 0, none⟩ = some (.int .i64 m))
    (hY : ∀ pre (x : List UInt8 × Bool) W, J pre W → pre.length < ws.length → x.1.length ≤ 1000000 → YieldAt Fence.wide (n - 1) Tryd.prog l #[.string ⟨x.1.toArray⟩, .bool x.2] W fun e W' =>
      (e = .returned (.bool true) ∧ J (pre ++ [x]) W') ∨ (e = .returned (.bool false) ∧ Jx (pre ++ [x]) W'))
    (W : World) (hBs : Blk W Bs 9 #[.string s]) (h0 : J [] W) :
    CallsIn Fence.wide n Tryd.prog 52 #[.func (.yield l) #[] #[], .pointer (some ⟨Bs, 0, none⟩)] W fun e W' => (∃ v, e = .returned v) ∧
      (J ws W' ∨ (∃ k, k ≤ ws.length ∧ Jx (ws.take k) W')) := by
  refine callsIn_of_wp Tryd.func52 rfl trivial ?_ rfl
  simp only [Tryd.ntmps52, List.size_toArray, List.length_cons, List.length_nil, Nat.reduceAdd, Nat.reduceSub, Array.replicate_succ, Array.replicate_zero, List.push_toArray, List.append_toArray, List.nil_append, List.cons_append]
  have q1 := hBs.cell 0
  gi_wp2
  gi_loopw [3] (fun sv wr => ∃ (k : Nat) (r : ByteArray), k ≤ ws.length ∧ sv = .string r ∧ ws.drop k = linesD r.data.toList ∧ r.size ≤ 1000000 ∧ J (ws.take k) wr)
    (fun sv _ => lMeas sv)
  case atStart => exact ⟨0, s, Nat.zero_le _, rfl, by rw [hws]; rfl, hsz, by simpa using h0⟩
  case round =>
    obtain ⟨k, r, hk, rfl, hdr, hrs, hJk⟩ := hrel
    have hrl : r.data.toList.length = r.size := Array.length_toList (xs := r.data)
    by_cases h0r : r.data.toList = []
    · have b0 : r.toList.isEmpty = true := by rw [ByteArray.toList_eq, h0r]; rfl
      have HT := hide (show ws.take k = ws by
        rw [h0r, linesD_nil] at hdr
        exact List.take_of_length_le (List.drop_eq_nil_iff.1 hdr))
      clear hdr hrl h0r
      gi_wp2
      go_end0
      exact ⟨⟨_, rfl⟩, .inl (by rw [← HT.out]; exact hJk)⟩
    · have b0 : r.toList.isEmpty = false := by
        rw [ByteArray.toList_eq]
        cases hc : r.data.toList with
        | nil => exact absurd hc h0r
        | cons _ _ => rfl
      have hd := hdr
      rw [linesD_step h0r] at hd
      have hcr := cut_rest 10 h0r
      have hlt : k < ws.length := by
        rcases Nat.lt_or_ge k ws.length with h | h
        · exact h
        · rw [List.drop_eq_nil_iff.2 h] at hd
          cases hd
      have HD := hide hd
      have HCR := hide hcr
      have HRL := hide hrl
      have hJM1 := hJM _ _ hJk
      have htl : (ws.take k).length < ws.length := by rw [List.length_take]; omega
      have hl2 : (Lib.cut r.data.toList [10]).2.1.length ≤ 1000000 := by omega
      have HL2 := hide hl2
      have hl1 : (Lib.cut r.data.toList [10]).1.length ≤ 1000000 := Nat.le_trans (cut_first _ _) (by omega)
      have HL1 := hide hl1
      clear hd hdr hcr hrl h0r hl2 hl1
      gi_wp2_with fail
      refine ⟨trivial, ?_⟩
      gi_at_call 41
      refine (callsIn_wide.2 (Tryd.strings_Cut r ⟨#[10]⟩ m _ (by omega) hJM1)).mono ?_
      rintro e w2 ⟨rfl, q, rfl⟩
      rw [show (⟨#[10]⟩ : ByteArray).data.toList = [10] from rfl]
      generalize Lib.cut r.data.toList [10] = ct at *
      obtain ⟨c1, c2, c3⟩ := ct
      dsimp only at *
      obtain ⟨fn, tmps, assign, body, hy, hR⟩ := hY _ (c1, c3) (wr.drewN q) (hJd _ _ q hJk) htl HL1.out
      dsimp only at hy
      have HTK := hide (show ws.take k ++ [(c1, c3)] = ws.take (k + 1) by
        have h1 := HD.out
        have h2 : ws[k]? = some (c1, c3) := by
          have := congrArg (fun z => z[0]?) h1
          simpa using this
        obtain ⟨hk2, e⟩ := List.getElem?_eq_some_iff.1 h2
        rw [List.take_succ_eq_append_getElem hk2, e])
      have HDR := hide (show ws.drop (k + 1) = linesD c2 by
        have h1 := congrArg List.tail HD.out
        rw [List.tail_drop] at h1
        exact h1)
      gi_wp2
      refine hR.mono ?_
      rintro e W3 (⟨rfl, hJ3⟩ | ⟨rfl, hJx3⟩)
      · gi_wp2
        go_roundw
        case rel => exact ⟨k + 1, ⟨c2.toArray⟩, by omega, rfl, HDR.out, by have := HL2.out; simpa [ByteArray.size] using this, by rw [← HTK.out]; exact hJ3⟩
        case measure =>
          have h1 := HCR.out
          have h2 := HRL.out
          show c2.toArray.size < r.size
          rw [List.size_toArray]
          omega
      · gi_wp2
        refine bodyPost_ret (results_none rfl _ _ _) rfl ?_
        exact ⟨⟨_, rfl⟩, .inr ⟨k + 1, by omega, by rw [← HTK.out]; exact hJx3⟩⟩
theorem alines_in (F : Fence) (n : Nat) (hf : F.fn 39) (hro : F.round = none) (s : ByteArray) (w : World) :
    CallsIn F n Tryd.prog 39 #[.string s] w fun e w' => e = .returned (.func (.func 52) #[] #[.pointer (some ⟨w.heap.size, 0, none⟩)]) ∧ w' = w.alloc (.cells #[.string s] 9) := by
  refine callsIn_of_wp Tryd.func39 rfl hf ?_ hro
  simp only [Tryd.ntmps39, List.size_toArray, List.length_cons, List.length_nil, Nat.reduceAdd, Nat.reduceSub, Array.replicate_succ, Array.replicate_zero, List.push_toArray, List.append_toArray, List.nil_append, List.cons_append]
  gi_wp2
  go_ret
  exact ⟨rfl, rfl⟩
theorem lines_stops (n : Nat) (hn : 1 ≤ n) (Bs : Nat) (s : ByteArray) (m : Int) (w : World) (hsz : s.size ≤ 1000000) (h0 : w.cell? ⟨0, 0, none⟩ = some (.int .i64 m)) (hBs : Blk w Bs 9 #[.string s]) :
    SeqStopsK Fence.wide n Tryd.prog 52 #[.pointer (some ⟨Bs, 0, none⟩)] (fun x : LineB => #[.string ⟨x.1.1.toArray⟩, .bool x.1.2]) KeepZ (fun ys => ys.map (·.1) = linesD s.data.toList) (fun pre => ∃ k, k ≤ (linesD s.data.toList).length ∧ pre.map (·.1) = (linesD s.data.toList).take k) (linesD s.data.toList).length w := by
  intro l J Jx W hW hJ hJx hY hJ0
  have hlt0 : 0 < w.heap.size := by
    rcases Nat.lt_or_ge 0 w.heap.size with h | h
    · exact h
    · rw [World.cell?, Array.getElem?_eq_none h] at h0
      cases h0
  have hz : W.cell? ⟨0, 0, none⟩ = some (.int .i64 m) := (hW.cell (p := ⟨0, 0, none⟩) hlt0).trans h0
  refine (lines1_in n hn l Bs s (linesD s.data.toList) m (fun pre W => ∃ pre' : List LineB, pre'.map (·.1) = pre ∧ J pre' W ∧ W.cell? ⟨0, 0, none⟩ = some (.int .i64 m)) (fun pre W => ∃ pre' : List LineB, pre'.map (·.1) = pre ∧ Jx pre' W) rfl hsz
    (fun pre W q ⟨pre', e, h⟩ => ⟨pre', e, hJ pre' W _ none h.1 ⟨rfl, rfl, rfl, Nat.le_refl _, fun _ _ _ => rfl⟩ (fun r e => by cases e), h.2⟩) (fun pre W ⟨_, _, h⟩ => h.2)
    (fun pre x W ⟨pre', e', h⟩ hl hx => (hY pre' ⟨x, hx⟩ W h.1 (by rw [← e', List.length_map] at hl; exact hl)).mono fun e w' hr => ?_) W (Blk.via hW hBs) ⟨[], rfl, hJ0, hz⟩).mono ?_
  · rcases hr with ⟨h1, h2, h3⟩ | ⟨h1, h2⟩
    · exact .inl ⟨h1, pre' ++ [⟨x, hx⟩], by simp [e'], h2, h3.trans h.2⟩
    · exact .inr ⟨h1, pre' ++ [⟨x, hx⟩], by simp [e'], h2⟩
  · rintro e W' ⟨hv, ⟨pre', e', h⟩ | ⟨k, hk, pre', e', h⟩⟩
    · exact ⟨hv, .inl ⟨pre', e', h.1⟩⟩
    · exact ⟨hv, .inr ⟨pre', ⟨k, hk, e'⟩, h⟩⟩
end Go.Proofs.YtgokkbocboonnaaDoor
