/-
  WALK OF THE PROGRAM: act.words: an iterator over the words of a text.
-/
import Derived.Test.YtgokkbocboonnaaDoorShelf
import Derived.Test.YtgokkbocboonnaaDoorAE
import Derived.RangeFuncNested
import Derived.RangeFuncBound
import Derived.RangeFuncCalls
import Derived.RangeFuncLeaves
import Derived.Shelf.Abstract
import Derived.Shelf.RegionOpen
import Derived.WalkKit
import Derived.OwnWalkIn
import Derived.TacticsInMore
import Derived.LoopNIn
import Derived.LoopIn
namespace Go.Proofs.YtgokkbocboonnaaDoor
open Go.RowKit Go.Shelf

attribute [local go_sem] Oper.semAt_some

/-- How many words a text has, its words being wordsT. -/
theorem wordsOf'_step (f : Nat) (l : List UInt8) : wordsOf' (f + 1) l = (Lib.cut l [32]).1 :: (if (Lib.cut l [32]).2.2 = true then wordsOf' f (Lib.cut l [32]).2.1 else []) := by
  show (if (Lib.cut l [32]).2.2 = true then _ else _) = _
  split <;> rfl
def wMeas (s b : Value) : Nat := match s, b with | .string s, .bool b => s.size + (if b then 1 else 0) | _, _ => 0
theorem cut_size (l : List UInt8) : ((Lib.cut l [32]).2.2 = true → (Lib.cut l [32]).2.1.length + 1 ≤ l.length) ∧ ((Lib.cut l [32]).2.2 = false → (Lib.cut l [32]).2.1 = []) := by
  unfold Lib.cut
  split
  · rename_i h
    have := Lib.index_room l [32] h
    simp at this
    refine ⟨fun _ => ?_, fun h => by cases h⟩
    simp
    omega
  · exact ⟨fun h => (by cases h), fun _ => rfl⟩

set_option maxRecDepth 100000 in
set_option maxHeartbeats 4000000 in
/-- The iterator's closure. -/
theorem words1_in (n : Nat) (hn : 1 ≤ n) (l Bs : Nat) (s : ByteArray) (ws : List (List UInt8)) (m : Int) (J Jx : List (List UInt8) → World → Prop)
    (hws : ws = wordsT s.data.toList) (hsz : s.size ≤ 1000000)
    (hJd : ∀ pre W q, J pre W → J pre (W.drewN q)) (hJM : ∀ pre W, J pre W → W.cell? ⟨0, 0, none⟩ = some (.int .i64 m))
    (hY : ∀ pre (x : List UInt8) W, J pre W → pre.length < ws.length → YieldAt Fence.wide (n - 1) Tryd.prog l #[.string ⟨x.toArray⟩] W fun e W' =>
      (e = .returned (.bool true) ∧ J (pre ++ [x]) W') ∨ (e = .returned (.bool false) ∧ Jx (pre ++ [x]) W'))
    (W : World) (hBs : Blk W Bs 9 #[.string s]) (h0 : J [] W) :
    CallsIn Fence.wide n Tryd.prog 40 #[.func (.yield l) #[] #[], .pointer (some ⟨Bs, 0, none⟩)] W fun e W' => (∃ v, e = .returned v) ∧
      (J ws W' ∨ (∃ k, k ≤ ws.length ∧ Jx (ws.take k) W')) := by
  refine callsIn_of_wp Tryd.func40 rfl trivial ?_ rfl
  simp only [Tryd.ntmps40, List.size_toArray, List.length_cons, List.length_nil, Nat.reduceAdd, Nat.reduceSub, Array.replicate_succ, Array.replicate_zero, List.push_toArray, List.append_toArray, List.nil_append, List.cons_append]
  have q1 := hBs.cell 0
  gi_wp2
  gi_loopw [3, 4] (fun sv mv wr => ∃ (k : Nat) (r : ByteArray) (f : Nat), k ≤ ws.length ∧ sv = .string r ∧ mv = .bool (decide (k < ws.length)) ∧ (k < ws.length → ws.drop k = wordsOf' (f + 1) r.data.toList ∧ r.data.toList.length ≤ f) ∧ r.data.toList.length ≤ 1000000 ∧ J (ws.take k) wr)
    (fun sv mv _ => wMeas sv mv)
  case atStart =>
    have hl : 0 < ws.length := by rw [hws]; unfold wordsT; rw [wordsOf'_step]; simp
    have hsl : s.data.toList.length = s.size := Array.length_toList (xs := s.data)
    exact ⟨0, s, s.data.toList.length, Nat.zero_le _, rfl, by rw [decide_eq_true hl], fun _ => ⟨by rw [hws]; rfl, Nat.le_refl _⟩, by omega, by simpa using h0⟩
  case round =>
    obtain ⟨k, r, f, hk, rfl, rfl, hdr, hrs, hJk⟩ := hrel
    by_cases hlt : k < ws.length
    · obtain ⟨hd, hrf⟩ := hdr hlt
      rw [wordsOf'_step] at hd
      have hd1 : decide (k < ws.length) = true := decide_eq_true hlt
      rw [hd1]
      have HD := hide hd
      have hJM1 := hJM _ _ hJk
      have htl : (ws.take k).length < ws.length := by rw [List.length_take]; omega
      have hcs := cut_size r.data.toList
      have HCS := hide hcs
      have hrl : r.data.toList.length = r.size := Array.length_toList (xs := r.data)
      have hrs' : r.size ≤ 1000000 := by omega
      have HRL := hide (And.intro hrl (And.intro hrf hrs))
      clear hd hd1 hdr hcs hrl hrf hrs
      gi_wp2_with fail
      refine ⟨trivial, ?_⟩
      gi_at_call 41
      refine (callsIn_wide.2 (Tryd.strings_Cut r ⟨#[32]⟩ m _ (by omega) hJM1)).mono ?_
      rintro e w2 ⟨rfl, q, rfl⟩
      rw [show (⟨#[32]⟩ : ByteArray).data.toList = [32] from rfl]
      generalize Lib.cut r.data.toList [32] = ct at *
      obtain ⟨c1, c2, c3⟩ := ct
      dsimp only at *
      obtain ⟨fn, tmps, assign, body, hy, hR⟩ := hY _ c1 (wr.drewN q) (hJd _ _ q hJk) htl
      have HTK := hide (show ws.take k ++ [c1] = ws.take (k + 1) by
        have h1 := HD.out
        have h2 : ws[k]? = some c1 := by
          have := congrArg (fun z => z[0]?) h1
          simpa using this
        obtain ⟨hk2, e⟩ := List.getElem?_eq_some_iff.1 h2
        rw [List.take_succ_eq_append_getElem hk2, e])
      have HDR := hide (show ws.drop (k + 1) = if c3 = true then wordsOf' f c2 else [] by
        have h1 := congrArg List.tail HD.out
        rw [List.tail_drop] at h1
        exact h1)
      cases c3
      · gi_wp2
        refine hR.mono ?_
        rintro e W3 (⟨rfl, hJ3⟩ | ⟨rfl, hJx3⟩)
        · gi_wp2
          go_roundw
          case rel =>
            have hlast : k + 1 = ws.length := by
              have h1 := HDR.out
              rw [if_neg (by decide)] at h1
              have := List.drop_eq_nil_iff.1 h1
              omega
            have hc2 := HCS.out.2 trivial
            exact ⟨k + 1, ⟨c2.toArray⟩, 0, by omega, rfl, by rw [decide_eq_false (by omega)], fun h => absurd h (by omega), by subst hc2; exact Nat.zero_le _, by rw [← HTK.out]; exact hJ3⟩
          case measure =>
            have hc2 := HCS.out.2 trivial
            subst hc2
            show 0 + 0 < r.size + 1
            omega
        · gi_wp2
          refine bodyPost_ret (results_none rfl _ _ _) rfl ?_
          exact ⟨⟨_, rfl⟩, .inr ⟨k + 1, by omega, by rw [← HTK.out]; exact hJx3⟩⟩
      · gi_wp2
        refine hR.mono ?_
        rintro e W3 (⟨rfl, hJ3⟩ | ⟨rfl, hJx3⟩)
        · gi_wp2
          go_roundw
          case rel =>
            have hc2 := HCS.out.1 trivial
            obtain ⟨e1, e2, e3⟩ := HRL.out
            have h1 := HDR.out
            rw [if_pos trivial] at h1
            obtain ⟨f', rfl⟩ : ∃ f', f = f' + 1 := ⟨f - 1, by omega⟩
            have hlt2 : k + 1 < ws.length := by
              rcases Nat.lt_or_ge (k + 1) ws.length with h | h
              · exact h
              · rw [List.drop_eq_nil_iff.2 h, wordsOf'_step] at h1
                cases h1
            exact ⟨k + 1, ⟨c2.toArray⟩, f', by omega, rfl, by rw [decide_eq_true hlt2], fun _ => ⟨h1, by show c2.length ≤ f'; omega⟩, by show c2.length ≤ 1000000; omega, by rw [← HTK.out]; exact hJ3⟩
          case measure =>
            have hc2 := HCS.out.1 trivial
            obtain ⟨e1, e2, e3⟩ := HRL.out
            show c2.toArray.size + 1 < r.size + 1
            rw [List.size_toArray]
            omega
        · gi_wp2
          refine bodyPost_ret (results_none rfl _ _ _) rfl ?_
          exact ⟨⟨_, rfl⟩, .inr ⟨k + 1, by omega, by rw [← HTK.out]; exact hJx3⟩⟩
    · have hd1 : decide (k < ws.length) = false := decide_eq_false hlt
      rw [hd1]
      have HT := hide (show ws.take k = ws from List.take_of_length_le (by omega))
      clear hd1
      gi_wp2
      go_end0
      exact ⟨⟨_, rfl⟩, .inl (by rw [← HT.out]; exact hJk)⟩
end Go.Proofs.YtgokkbocboonnaaDoor
