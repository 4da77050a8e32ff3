/-
  WALKS OF THE PROGRAM: wal.Log.All, an iterator over the records with their places.
-/
import Derived.Test.YtnanlaefehaifaaGreatRZk
import Derived.RangeFuncNested
import Derived.RangeFuncBound
import Derived.RangeFuncCalls
import Derived.RangeFuncLeaves
import Derived.Shelf.Abstract
import Derived.Shelf.RegionOpen
import Derived.WalkKit
import Derived.OwnWalkIn
import Derived.TacticsInMore
import Derived.LoopNIn
import Derived.LoopIn
import Derived.RecoverIn
namespace Go.Proofs.YtnanlaefehaifaaGreat
open Go.RowKit Go.Shelf

attribute [local go_sem] Oper.semAt_some

theorem entI_row (es : List EntD) (k : Nat) (e : EntD) (h : es[k]? = some e) : (es.map fun e => Value.int .i64 e.lsn)[k]? = some (.int .i64 e.lsn) := by rw [List.getElem?_map, h]; rfl
set_option maxRecDepth 100000 in
set_option maxHeartbeats 8000000 in
/-- The iterator's closure. -/
theorem all1_in (n : Nat) (hn : 1 ≤ n) (lp Bl N N1 bx l m kk L : Nat) (Fs : Nat → Prop) (cs : Array Value) (pv : Value) (f : Int → Option Value) (es : List EntD) (J Jx : List Hnd → World → Prop)
    (hJ : ∀ pre W W', J pre W → Below W.heap.size W W' → J pre W')
    (hY : ∀ pre (x : Hnd) W, J pre W → pre.length < es.length → YieldAt Fence.wide (n - 1) Tryz.prog lp (hndArg x) W fun e W' =>
      (e = .returned (.bool true) ∧ J (pre ++ [x]) W' ∧ KeepS Fs bx N1 W W') ∨ (e = .returned (.bool false) ∧ Jx (pre ++ [x]) W'))
    (w : World) (hlen : es.length ≤ 1000000) (hN : N ≤ N1) (hN1 : N1 ≤ w.heap.size) (hbx : bx < N1) (hO : ∀ q, OwnS Fs bx w q → N ≤ q ∧ q < w.heap.size) (hBl : Blk w Bl 24 #[.pointer (some ⟨l, 0, none⟩)]) (hBo : ¬ OwnS Fs bx w Bl) (hBN : Bl < N1)
    (hR : LogR w N l m kk L cs pv f es) (h0 : J [] w) :
    CallsIn Fence.wide n Tryz.prog 123 #[.func (.yield lp) #[] #[], .pointer (some ⟨Bl, 0, none⟩)] w fun e W' => (∃ v, e = .returned v) ∧
      ((∃ hs : List Hnd, hs.map Hnd.ent = es ∧ J hs W') ∨ (∃ hs : List Hnd, (∃ k, k ≤ es.length ∧ hs.map Hnd.ent = es.take k) ∧ Jx hs W')) := by
  obtain ⟨nn, hnn⟩ : ∃ nn, nn = es.length := ⟨_, rfl⟩
  have HNN := hide hnn
  have HO := hide hO
  have HR := hide hR
  obtain ⟨A, c, hpv, _, _, hAc, hrd, _⟩ := own_slice hR.op
  have b0 : w.cell? ⟨Bl, 0, none⟩ = some (.pointer (some ⟨l, 0, none⟩)) := hBl.cell 0
  have l5 : w.cell? ⟨l, 5, none⟩ = some (.slice A nn c) := by rw [hnn, ← hpv]; exact (hR.q.kl.cell 5).trans hR.c5
  have HC := hide (show Calls Tryz.prog 124 #[.slice A nn c] w (OwnRow w 3 1 nn (es.map fun e => Value.int .i64 e.lsn)) from by
    rw [hnn]
    exact cloneI_any A _ c _ w.heap.size w (Nat.le_refl _) (by omega) hrd hAc (fun u hu => by obtain ⟨e, _, rfl⟩ := List.mem_map.1 hu; rfl))
  have hnl : nn ≤ 1000000 := by omega
  rw [← hnn] at hY
  clear hpv hAc hrd hR hO hnn hlen
  refine callsIn_of_wp Tryz.func123 rfl trivial ?_ rfl
  simp only [Tryz.ntmps123, List.size_toArray, List.length_cons, List.length_nil, Nat.reduceAdd, Nat.reduceSub, Array.replicate_succ, Array.replicate_zero, List.push_toArray, List.append_toArray, List.nil_append, List.cons_append]
  gi_wp2_with fail
  refine ⟨trivial, ?_⟩
  gi_at_call 124
  refine (callsIn_wide.2 HC.out).mono ?_
  rintro e wc ⟨A2, c2, rfl, ho, hbc⟩
  have HRC := hide (HR.out.q.via hbc (Nat.le_trans hN hN1))
  have HBC := hide (Blk.via hbc hBl)
  have hOc : ∀ q, OwnS Fs bx wc q → OwnS Fs bx w q := fun q hq => hq.same (hbc.block bx (by omega))
  have HOC := hide hOc
  have hJc := hJ _ _ _ h0 hbc
  have hzc := hbc.size
  have HOW := hide ho
  clear b0 l5 hBl hbc h0 ho HC hOc
  gi_wp2
  gi_loopw [15] (fun i wr => ∃ (k : Nat) (hs : List Hnd), k ≤ nn ∧ i = .int .i64 k ∧ hs.map Hnd.ent = es.take k ∧ J hs wr ∧ KeepS Fs bx N1 wc wr)
    (fun i _ => nn - (intOf i).toNat)
  case atStart => exact ⟨0, [], Nat.zero_le _, rfl, rfl, hJc, KeepS.refl _⟩
  case round =>
    obtain ⟨k, hs, hk, rfl, hhs, hJk, hkeep⟩ := hrel
    by_cases hlt : k < nn
    · obtain ⟨en, hen⟩ : ∃ en, es[k]? = some en := ⟨_, List.getElem?_eq_getElem (by have := HNN.out; omega)⟩
      have hzr := hkeep.size
      have hQ := HRC.out.keep (fun q hq => hkeep.block q (by omega) (fun h => by have := (HO.out q (HOC.out q h)).1; omega) (.inl (by omega)))
      have hb1 := (hkeep.block Bl HBC.out.lt (fun h => hBo (HOC.out Bl h)) (.inl hBN)).trans HBC.out
      have hrow := row_keep HOW.out (fun q hq => hkeep.block q (World.ownsRow.lt HOW.out q hq).2 (fun h => by have h1 := (HO.out q (HOC.out q h)).2; have h2 := (World.ownsRow.lt HOW.out q hq).1; omega) (.inr (by obtain ⟨cur, hc⟩ := row_obj HOW.out hq; exact ⟨_, hc, .inl rfl⟩)))
      have hI : Ints wr wr.heap.size A2 nn (es.map EntD.lsn) := ⟨by rw [List.length_map]; exact HNN.out, by rw [List.map_map]; exact Reads.of_own hrow⟩
      obtain ⟨b, o, x0, rfl, hbl, hkx, c0⟩ := hI.at_ (k := k) hlt
      obtain rfl : x0 = en.lsn := by rw [List.getElem?_map, hen] at hkx; injection hkx with hkx; exact hkx.symm
      obtain ⟨g1, g2, y, L', H', g3, g4, g5, g6, g7, g8⟩ := hQ.rc en (List.mem_of_getElem? hen)
      have HREC := hide (walRec_any l m kk cs f en.lsn y H' wr g1 hQ.kl hQ.c4 hQ.mf g3 g6 (by omega) g7.ok)
      have q1 : wr.cell? ⟨Bl, 0, none⟩ = some (.pointer (some ⟨l, 0, none⟩)) := Blk.cell hb1 0
      have HHS := hide hhs
      have HEN := hide hen
      have HKT := hide (And.intro g4 (And.intro g5 g2))
      have hlen : hs.length = k := by
        have := congrArg List.length hhs
        rw [List.length_map, List.length_take] at this
        have := HNN.out
        omega
      have HLEN := hide hlen
      have HB1 := hide hb1
      have HKE := hide hkeep
      have s1 : (k : Int) < nn := by omega
      have s0 : (0 : Int) ≤ k := by omega
      clear hQ hb1 hrow hI hkx g1 g2 g3 g4 g5 g6 g7 g8 hhs hen hlen hkeep
      gi_wp2_with fail
      refine ⟨trivial, ?_⟩
      gi_at_call 125
      refine (callsIn_wide.2 HREC.out).mono ?_
      rintro e2 w2 ⟨x, rfl, hxk, hxt, hx3, hx4, hb2⟩
      have hJ2 := hJ _ _ _ hJk hb2
      have HX34 := hide (And.intro hx3 hx4)
      have hk2 : KeepS Fs bx N1 wc w2 := HKE.out.trans (KeepS.of_below hb2 (by omega))
      have HK2 := hide hk2
      have HENT := hide (show (⟨en.lsn, x.kind, x.txn⟩ : EntD) = en by rw [hxk, hxt, HKT.out.1, HKT.out.2.1])
      have HWF := hide (show (Lit.int .i64 x.txn).wf = true by rw [hxt, HKT.out.2.1]; exact HKT.out.2.2)
      have hz2 := hb2.size
      clear hxk hxt hb2 hk2
      obtain ⟨Ax, n3, cx, ex1⟩ := hx3
      obtain ⟨Ay, ny, cy, ex2⟩ := hx4
      obtain ⟨kdx, txx, prx, nxx, psx, pvx, unx⟩ := x
      obtain ⟨zu1, zu2, zu3, zu4, ⟨e1, e2, e3, e4, e5⟩, zuv, zu7⟩ := unx
      dsimp only at *
      subst ex1 ex2
      have hJ3 : J hs (w2.alloc (.cells #[.int .i64 kdx, .int .i64 txx, .int .i64 prx, .int .i64 nxx, .slice Ax n3 cx, .int .i64 zu1, .string zu2, .int .i64 zu3, .string zu4, .int .i64 e1, .slice Ay ny cy, .int .i64 e3, .int .i64 e4, .int .i64 e5, .int .i64 zu7] 41)) := hJ _ _ _ hJ2 ((Below.refl _ _).alloc (Nat.le_refl _) _)
      obtain ⟨hd, hhd⟩ : ∃ hd : Hnd, hd = ⟨en.lsn, ⟨kdx, txx, prx, nxx, psx, .slice Ax n3 cx, ⟨zu1, zu2, zu3, zu4, ⟨e1, e2, e3, e4, e5⟩, .slice Ay ny cy, zu7⟩⟩, HWF.out, ⟨_, _, _, rfl⟩, ⟨_, _, _, rfl⟩⟩ := ⟨_, rfl⟩
      obtain ⟨fn, tmps, assign, body, hy, hR⟩ := hY hs hd _ hJ3 (by have := HLEN.out; omega)
      rw [show hndArg hd = #[.int .i64 en.lsn, .agg #[.int .i64 kdx, .int .i64 txx, .int .i64 prx, .int .i64 nxx, .slice Ax n3 cx, .int .i64 zu1, .string zu2, .int .i64 zu3, .string zu4, .int .i64 e1, .slice Ay ny cy, .int .i64 e3, .int .i64 e4, .int .i64 e5, .int .i64 zu7]] by rw [hhd]; rfl] at hy
      have HHD := hide (show hd.ent = en by rw [hhd]; exact HENT.out)
      have hkk := HNN.out
      have HHT := hide (show (hs ++ [hd]).map Hnd.ent = es.take (k + 1) by
        obtain ⟨hk1, hk2⟩ := List.getElem?_eq_some_iff.1 HEN.out
        rw [List.take_succ_eq_append_getElem hk1, hk2, List.map_append, HHS.out, List.map_singleton, HHD.out])
      have hk3 : KeepS Fs bx N1 wc (w2.alloc (.cells #[.int .i64 kdx, .int .i64 txx, .int .i64 prx, .int .i64 nxx, .slice Ax n3 cx, .int .i64 zu1, .string zu2, .int .i64 zu3, .string zu4, .int .i64 e1, .slice Ay ny cy, .int .i64 e3, .int .i64 e4, .int .i64 e5, .int .i64 zu7] 41)) := HK2.out.trans (KeepS.of_below ((Below.refl _ _).alloc (Nat.le_refl _) _) (by omega))
      have HK3 := hide hk3
      unfold recV
      dsimp only
      clear hkk hhd hk3 hJ2 hJ3 HENT q1 c0
      gi_wp2
      refine hR.mono ?_
      rintro e W3 (⟨rfl, hJ4, hk4⟩ | ⟨rfl, hJx4⟩)
      · gi_wp2
        go_roundw
        case rel => exact ⟨k + 1, hs ++ [hd], by omega, by go_num, HHT.out, hJ4, HK3.out.trans hk4⟩
        case measure => simp [intOf]; omega
      · gi_wp2
        refine bodyPost_ret (results_none rfl _ _ _) rfl ?_
        exact ⟨⟨_, rfl⟩, .inr ⟨hs ++ [hd], ⟨k + 1, by have := HNN.out; omega, HHT.out⟩, hJx4⟩⟩
    · have HH := hide (show hs.map Hnd.ent = es from by rw [hhs]; exact List.take_of_length_le (by have := HNN.out; omega))
      have hkn : ¬ ((k : Int) < nn) := by omega
      clear hhs
      gi_wp2
      go_end0
      exact ⟨⟨_, rfl⟩, .inl ⟨_, HH.out, hJk⟩⟩
theorem wAll_in (F : Fence) (n : Nat) (hf : F.fn 54) (hro : F.round = none) (l : Value) (hl : ∃ p, l = .pointer p) (w : World) :
    CallsIn F n Tryz.prog 54 #[l] w fun e w' => e = .returned (.func (.func 123) #[] #[.pointer (some ⟨w.heap.size, 0, none⟩)]) ∧ w' = w.alloc (.cells #[l] 24) := by
  obtain ⟨p, rfl⟩ := hl
  refine callsIn_of_wp Tryz.func54 rfl hf ?_ hro
  simp only [Tryz.ntmps54, List.size_toArray, List.length_cons, List.length_nil, Nat.reduceAdd, Nat.reduceSub, Array.replicate_succ, Array.replicate_zero, List.push_toArray, List.append_toArray, List.nil_append, List.cons_append]
  gi_wp2
  go_ret
  exact ⟨rfl, rfl⟩
/-- The iterator's word: all entries, in order; or the first of them. -/
theorem all_stops (n : Nat) (hn : 1 ≤ n) (Bl N N1 bx l m kk L : Nat) (Fs : Nat → Prop) (cs : Array Value) (pv : Value) (f : Int → Option Value) (es : List EntD) (w : World)
    (hlen : es.length ≤ 1000000) (hN : N ≤ N1) (hN1 : N1 ≤ w.heap.size) (hbx : bx < N1) (hO : ∀ q, OwnS Fs bx w q → N ≤ q ∧ q < w.heap.size) (hBl : Blk w Bl 24 #[.pointer (some ⟨l, 0, none⟩)]) (hBo : ¬ OwnS Fs bx w Bl) (hBN : Bl < N1) (hR : LogR w N l m kk L cs pv f es) :
    SeqStopsK Fence.wide n Tryz.prog 123 #[.pointer (some ⟨Bl, 0, none⟩)] hndArg (KeepS Fs bx N1) (fun hs => hs.map Hnd.ent = es) (fun hs => ∃ k, k ≤ es.length ∧ hs.map Hnd.ent = es.take k) es.length w := fun l' J Jx W hW hJ _ hY h0 => by
  have hsz := hW.size
  have hbk := hW.block bx (by omega)
  have hof : ∀ q, OwnS Fs bx W q → OwnS Fs bx w q := fun q hq => hq.same hbk
  exact all1_in n hn l' Bl N N1 bx l m kk L Fs cs pv f es J Jx (fun pre W W' h hb => hJ pre W W' none h ⟨hb.os, hb.tape, hb.output, hb.size, fun q hq _ => hb.block q hq⟩ (fun r e => by cases e)) hY W hlen hN (Nat.le_trans hN1 hsz) hbx (fun q hq => ⟨(hO q (hof q hq)).1, Nat.lt_of_lt_of_le (hO q (hof q hq)).2 hsz⟩) (Blk.via hW hBl) (fun h => hBo (hof Bl h)) hBN (hR.via hW (Nat.le_trans hN hN1)) h0
end Go.Proofs.YtnanlaefehaifaaGreat
