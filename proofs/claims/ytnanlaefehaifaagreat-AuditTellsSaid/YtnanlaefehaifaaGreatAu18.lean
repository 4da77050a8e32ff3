/-
  Texts of this claim, joined: DN.
-/
import Derived.Test.YtnanlaefehaifaaGreatAu16
import Derived.Test.YtnanlaefehaifaaGreatAu17
set_option maxHeartbeats 6400000
set_option maxRecDepth 100000
namespace Go.Proofs.YtnanlaefehaifaaGreat
open Go.RowKit Go.Maps
def itP (s : StN) (n : Nat) : List ItemD := (List.range 7).map fun k => (slotG (slotB (s.pg n) k)).getD item0
theorem itP_len (s : StN) (n : Nat) : (itP s n).length = 7 := by unfold itP; simp
theorem itP_at {s : StN} {n k : Nat} (hk : k < 7) {x : ItemD} (h : slotG (slotB (s.pg n) k) = some x) : (itP s n)[k]? = some x := by
  unfold itP
  rw [List.getElem?_map, List.getElem?_range hk, Option.map_some, h]
  rfl
def MiMk (mi mk q : Nat) : Prop := q = mi ∨ q = mk
def FitP (s : StN) (w : World) (v mi mk : Nat) (u : Int) (t : TalD) (r : Option (List Nat × List ByteArray)) (e : Ending) (w' : World) : Prop :=
  StoreI s w' ∧ Turn (MiMk mi mk) w w' ∧ ((∃ pin keys, r = some (pin, keys) ∧ e = .returned (.bool true) ∧ ViewS s w' v mi mk u pin keys t) ∨ (r = none ∧ e = .returned (.bool false)))
theorem ViewS.lookK {s : StN} {W : World} {v mi mk : Nat} {u : Int} {pin : List Nat} {keys : List ByteArray} {t : TalD} (h : ViewS s W v mi mk u pin keys t) {k : ByteArray} (hn : k.size ≤ maxLen) (b : Bool) (hb : b = hasK keys k) :
    ∃ x, (Instr.lookup 151 (.map (some mk)) (.string k) true).run Tryz.prog W = .ok (.tuple #[x, .bool b]) W := by
  obtain ⟨n, _, hm⟩ := h.hk
  refine hm.look keyStr (Go.WideMaps.keyOf_string_mk Tryz.underlying9 hn) (by simp [WideAt.IsKeyLit]) Tryz.underlying151 zero_intV b ?_
  rw [hb]
  unfold hasK
  rw [List.any_eq_true]
  constructor
  · rintro ⟨q, hq, e⟩
    refine List.mem_map.2 ⟨q, hq, ?_⟩
    unfold litS
    rw [show q.data = k.data by simpa using e]
  · intro h
    obtain ⟨a, ha, e⟩ := List.mem_map.1 h
    exact ⟨a, ha, by simpa using litS_inj e⟩
theorem ViewS.turn {s : StN} {W W' : World} {v mi mk : Nat} {u : Int} {pin pin' : List Nat} {keys keys' : List ByteArray} {t : TalD} (h : ViewS s W v mi mk u pin keys t) (ht : Turn (MiMk mi mk) W W')
    (h1 : ∃ k, k ≤ pin'.length ∧ MapL W' 3 mi k (pin'.map litN)) (h2 : ∃ k, k ≤ keys'.length ∧ MapL W' 9 mk k (keys'.map litS)) : ViewS s W' v mi mk u pin' keys' t := by
  obtain ⟨_, _, m1⟩ := h.hi
  obtain ⟨_, _, m2⟩ := h.hk
  obtain ⟨o1, e1, c1⟩ := m1.obj
  obtain ⟨o2, e2, c2⟩ := m2.obj
  have hne : ∀ {q : Nat} {t : TypeId} {cs : Array Value}, Blk W q t cs → ¬ MiMk mi mk q := by
    rintro q t cs k (rfl | rfl)
    · rw [show W.heap[q]? = _ from k] at e1; injection e1 with e1; subst e1; cases c1
    · rw [show W.heap[q]? = _ from k] at e2; injection e2 with e2; subst e2; cases c2
  refine ⟨h.st.keep ht ?_ ?_, ht.blk h.kv (hne h.kv), h1, h2, h.im, h.ip, h.kp⟩
  · rintro (e | e)
    · exact h.ip e.symm
    · exact h.kp e.symm
  · intro q t' cs hq k
    exact absurd hq (hne k)
theorem MiMk.ne {s : StN} {W : World} {v mi mk : Nat} {u : Int} {pin : List Nat} {keys : List ByteArray} {t : TalD} (h : ViewS s W v mi mk u pin keys t) {q : Nat} {t' : TypeId} {cs : Array Value} (k : Blk W q t' cs) : ¬ MiMk mi mk q := by
  obtain ⟨_, _, m1⟩ := h.hi
  obtain ⟨_, _, m2⟩ := h.hk
  obtain ⟨o1, e1, c1⟩ := m1.obj
  obtain ⟨o2, e2, c2⟩ := m2.obj
  rintro (rfl | rfl)
  · rw [show W.heap[q]? = _ from k] at e1; injection e1 with e1; subst e1; cases c1
  · rw [show W.heap[q]? = _ from k] at e2; injection e2 with e2; subst e2; cases c2
theorem vFits_any (s : StN) (u : Nat) (hK : StK s u) (hxb : s.x.b ≤ 1000000) (vp mi mk : Nat) (pin : List Nat) (keys : List ByteArray) (t : TalD) (n head : Nat) (w : World) (h : ViewS s w vp mi mk u pin keys t) (hn : n < u) (hu : u ≤ 100000) (hr : rightP (s.pg n) n = true) (hpl : pin.length ≤ 100000) (hkl : keys.length ≤ 100000) (hkz : ∀ x ∈ itP s n, x.key.size ≤ 1000) :
    Calls Tryz.prog 146 #[ptrV vp, pgV (s.pg n), .int .i64 (head : Nat)] w (FitP s w vp mi mk u t (fitsD (headI s.x.b) (itP s) head (pin, keys) n)) := by
  have hl : (s.pg n).length = 512 := pgOf_length h.st.dev (by have := hK.b.p; have := hK.ul; omega)
  obtain ⟨hno, hso⟩ := rightP_no hr
  have HNO := hide (fun W => show Calls Tryz.prog 91 #[pgV (s.pg n)] W fun e w' => e = .returned (.int .i64 (n : Nat)) ∧ Below W.heap.size W w' from hno ▸ pNo_any (s.pg n) hl W)
  have HSL := hide (fun i hi W => pSlot_any (s.pg n) hl i hi W)
  have HSO := hide hso
  have HPI := hide (show (Tryz.prog.info? 63).map (·.size) = some ((s.pg n).map byteV).toArray.size by rw [pg_size _ hl]; exact info_pg)
  have HV := hide h
  have HKZ := hide hkz
  obtain ⟨fr, hfr⟩ : ∃ r, r = fitsD (headI s.x.b) (itP s) head (pin, keys) n := ⟨_, rfl⟩
  have HFR := hide hfr
  rw [← hfr]
  clear hno hso hr hl h hkz hfr
  unfold pgV at *
  generalize ((s.pg n).map byteV).toArray = X at *
  unfold ptrV
  go_enter Tryz.func146, Tryz.ntmps146
  go_upto_region 1 with (fail)
  refine gen1 (R := fun W => Code.wp _ _ _ _ W) (fun W1 kp hb1 hz1 => ?_)
  obtain ⟨gp, hgp⟩ : ∃ gp, gp = w.heap.size := ⟨_, rfl⟩
  rw [← hgp] at kp ⊢
  have KP1 := hide kp
  have HB1 := hide hb1
  have HV1 := hide (HV.out.via hb1)
  clear kp hb1 hgp
  by_cases hin : n ∈ pin
  · have HNONE := hide (show fr = none by rw [HFR.out]; unfold fitsD; rw [if_pos hin])
    have HLK := hide (fun W (hb : Below W1.heap.size W1 W) => (HV1.out.via hb).lookP (n := n) (by omega) true (by simp [hin]))
    refine wp_region_invG [fun v _ => v = .pointer (some ⟨vp, 0, none⟩), fun v _ => v = .pointer (some ⟨vp, 0, none⟩), fun v _ => v = .pointer (some ⟨vp, 2, none⟩), fun v _ => v = .map (some mi), fun v _ => v = .agg X, fun v _ => v = .int .i64 (n : Nat), fun v W => ∃ x : Value, v = .tuple #[x, .bool true], fun v W => ∃ x : Value, v = .tuple #[x, .bool true], fun v W => True, fun v _ => v = .bool true, fun v W => True, fun v _ => v = .bool true] (by kernel_rfl) (by kernel_rfl) (by kernel_rfl) ?st ?steps ?fin
    case st =>
      intro i v W W' hWW h
      match i with
      | 0 | 1 | 2 | 3 | 4 | 5 | 9 | 11 => exact h
      | 6 => exact h
      | 7 => exact h
      | 8 => trivial
      | 10 => trivial
      | (i + 12) => exact h
    case steps =>
      simp only [stepsI]
      refine ⟨?_, ?_, ?_, ?_, ?_, ?_, ?_, ?_, ?_, ?_, ?_, ?_, trivial⟩
      · intro f W hbW hdp
        simp only [fS, Nat.reduceAdd]
        go_wp2
        exact ⟨rfl, _, rfl, rfl, Below.refl _ _⟩
      · intro f W hbW hdp
        have e0 : f 0 = .pointer (some ⟨vp, 0, none⟩) := hdp ⟨0, .data⟩ (mfl (by simp) rfl)
        simp only [fS, Nat.reduceAdd, e0]
        go_wp2
        exact ⟨rfl, _, rfl, rfl, Below.refl _ _⟩
      · intro f W hbW hdp
        have e1 : f 1 = .pointer (some ⟨vp, 0, none⟩) := hdp ⟨1, .data⟩ (mfl (by simp) rfl)
        simp only [fS, Nat.reduceAdd, e1]
        go_wp2
        exact ⟨rfl, _, rfl, rfl, Below.refl _ _⟩
      · intro f W hbW hdp
        have e2 : f 2 = .pointer (some ⟨vp, 2, none⟩) := hdp ⟨2, .data⟩ (mfl (by simp) rfl)
        have z1 : W.cell? ⟨vp, 2, none⟩ = some (.map (some mi)) := (Blk.via hbW HV1.out.kv).cell 2
        have z2 := (Blk.via hbW HV1.out.kv).lt
        simp only [fS, Nat.reduceAdd, e2]
        go_wp2
        exact ⟨rfl, _, rfl, rfl, Below.refl _ _⟩
      · intro f W hbW hdp
        have kB := hide (Blk.via hbW KP1.out)
        simp only [fS, Nat.reduceAdd]
        refine wpList_load_rowG (by simp [Region.wanted]) 63 (.tmp 4) rfl gp rfl 63 X (0, 0) _ kB.out Tryz.underlying63 rfl HPI.out ?_
        exact ⟨rfl, _, rfl, rfl, Below.refl _ _⟩
      · intro f W hbW hdp
        have e4 : f 4 = .agg X := hdp ⟨4, .data⟩ (mfl (by simp) rfl)
        simp only [fS, Nat.reduceAdd, e4]
        go_wp2_with (go_at_call 91; refine (HNO.out _).mono ?_; rintro e w' ⟨rfl, hb'⟩)
        exact ⟨rfl, _, rfl, rfl, hb'⟩
      · intro f W hbW hdp
        have e3 : f 3 = .map (some mi) := hdp ⟨3, .data⟩ (mfl (by simp) rfl)
        have e5 : f 5 = .int .i64 (n : Nat) := hdp ⟨5, .data⟩ (mfl (by simp) rfl)
        obtain ⟨x, hx⟩ := HLK.out W hbW
        simp only [fS, Nat.reduceAdd, e3, e5]
        go_wp2
        exact ⟨rfl, _, rfl, ⟨x, rfl⟩, Below.refl _ _⟩
      · intro f W hbW hdp
        have e6 : ∃ x : Value, (f 6) = .tuple #[x, .bool true] := hdp ⟨6, .data⟩ (mfl (by simp) rfl)
        obtain ⟨x, h6⟩ := e6
        simp only [fS, Nat.reduceAdd]
        simp only [h6]
        go_wp2
        exact ⟨rfl, _, rfl, ⟨x, rfl⟩, Below.refl _ _⟩
      · intro f W hbW hdp
        have e7 : ∃ x : Value, (f 7) = .tuple #[x, .bool true] := hdp ⟨7, .data⟩ (mfl (by simp) rfl)
        obtain ⟨x, h7⟩ := e7
        simp only [fS, Nat.reduceAdd]
        simp only [h7]
        go_wp2
        exact ⟨rfl, _, rfl, trivial, Below.refl _ _⟩
      · intro f W hbW hdp
        have e7 : ∃ x : Value, (f 7) = .tuple #[x, .bool true] := hdp ⟨7, .data⟩ (mfl (by simp) rfl)
        obtain ⟨x, h7⟩ := e7
        simp only [fS, Nat.reduceAdd]
        simp only [h7]
        go_wp2
        exact ⟨rfl, _, rfl, rfl, Below.refl _ _⟩
      · intro f W hbW hdp
        have e8 : True := hdp ⟨8, .data⟩ (mfl (by simp) rfl)
        simp only [fS, Nat.reduceAdd]
        go_wp2
        exact ⟨rfl, _, rfl, trivial, Below.refl _ _⟩
      · intro f W hbW hdp
        have e9 : f 9 = .bool true := hdp ⟨9, .data⟩ (mfl (by simp) rfl)
        simp only [fS, Nat.reduceAdd, e9]
        go_wp2
        exact ⟨rfl, _, rfl, rfl, Below.refl _ _⟩
    case fin =>
      intro f W hbW hA
      have e11 : f 11 = .bool true := hA 11 (by simp)
      show wpList Tryz.prog #[] (Exit.then _ _) [] _ _
      simp only [fS, Nat.reduceAdd, e11]
      clear hA e11
      have hst := HV1.out.st.via hbW
      have hT : Turn (MiMk mi mk) w W := (Turn.of_below HB1.out).trans (Turn.of_below hbW)
      go_wp2
      go_ret
      exact ⟨hst, hT, .inr ⟨HNONE.out, rfl⟩⟩
  · have HFK := hide (show fr = (keysD (headI s.x.b) head (itP s n) keys).map fun ks => (pin ++ [n], ks) by rw [HFR.out]; unfold fitsD; rw [if_neg hin])
    have HLK := hide (fun W (hb : Below W1.heap.size W1 W) => (HV1.out.via hb).lookP (n := n) (by omega) false (by simp [hin]))
    clear hin HFR
    refine wp_region_invG [fun v _ => v = .pointer (some ⟨vp, 0, none⟩), fun v _ => v = .pointer (some ⟨vp, 0, none⟩), fun v _ => v = .pointer (some ⟨vp, 2, none⟩), fun v _ => v = .map (some mi), fun v _ => v = .agg X, fun v _ => v = .int .i64 (n : Nat), fun v W => ∃ x : Value, v = .tuple #[x, .bool false], fun v W => ∃ x : Value, v = .tuple #[x, .bool false], fun v W => True, fun v _ => v = .bool false, fun v W => True, fun v _ => v = .bool false] (by kernel_rfl) (by kernel_rfl) (by kernel_rfl) ?st ?steps ?fin
    case st =>
      intro i v W W' hWW h
      match i with
      | 0 | 1 | 2 | 3 | 4 | 5 | 9 | 11 => exact h
      | 6 => exact h
      | 7 => exact h
      | 8 => trivial
      | 10 => trivial
      | (i + 12) => exact h
    case steps =>
      simp only [stepsI]
      refine ⟨?_, ?_, ?_, ?_, ?_, ?_, ?_, ?_, ?_, ?_, ?_, ?_, trivial⟩
      · intro f W hbW hdp
        simp only [fS, Nat.reduceAdd]
        go_wp2
        exact ⟨rfl, _, rfl, rfl, Below.refl _ _⟩
      · intro f W hbW hdp
        have e0 : f 0 = .pointer (some ⟨vp, 0, none⟩) := hdp ⟨0, .data⟩ (mfl (by simp) rfl)
        simp only [fS, Nat.reduceAdd, e0]
        go_wp2
        exact ⟨rfl, _, rfl, rfl, Below.refl _ _⟩
      · intro f W hbW hdp
        have e1 : f 1 = .pointer (some ⟨vp, 0, none⟩) := hdp ⟨1, .data⟩ (mfl (by simp) rfl)
        simp only [fS, Nat.reduceAdd, e1]
        go_wp2
        exact ⟨rfl, _, rfl, rfl, Below.refl _ _⟩
      · intro f W hbW hdp
        have e2 : f 2 = .pointer (some ⟨vp, 2, none⟩) := hdp ⟨2, .data⟩ (mfl (by simp) rfl)
        have z1 : W.cell? ⟨vp, 2, none⟩ = some (.map (some mi)) := (Blk.via hbW HV1.out.kv).cell 2
        have z2 := (Blk.via hbW HV1.out.kv).lt
        simp only [fS, Nat.reduceAdd, e2]
        go_wp2
        exact ⟨rfl, _, rfl, rfl, Below.refl _ _⟩
      · intro f W hbW hdp
        have kB := hide (Blk.via hbW KP1.out)
        simp only [fS, Nat.reduceAdd]
        refine wpList_load_rowG (by simp [Region.wanted]) 63 (.tmp 4) rfl gp rfl 63 X (0, 0) _ kB.out Tryz.underlying63 rfl HPI.out ?_
        exact ⟨rfl, _, rfl, rfl, Below.refl _ _⟩
      · intro f W hbW hdp
        have e4 : f 4 = .agg X := hdp ⟨4, .data⟩ (mfl (by simp) rfl)
        simp only [fS, Nat.reduceAdd, e4]
        go_wp2_with (go_at_call 91; refine (HNO.out _).mono ?_; rintro e w' ⟨rfl, hb'⟩)
        exact ⟨rfl, _, rfl, rfl, hb'⟩
      · intro f W hbW hdp
        have e3 : f 3 = .map (some mi) := hdp ⟨3, .data⟩ (mfl (by simp) rfl)
        have e5 : f 5 = .int .i64 (n : Nat) := hdp ⟨5, .data⟩ (mfl (by simp) rfl)
        obtain ⟨x, hx⟩ := HLK.out W hbW
        simp only [fS, Nat.reduceAdd, e3, e5]
        go_wp2
        exact ⟨rfl, _, rfl, ⟨x, rfl⟩, Below.refl _ _⟩
      · intro f W hbW hdp
        have e6 : ∃ x : Value, (f 6) = .tuple #[x, .bool false] := hdp ⟨6, .data⟩ (mfl (by simp) rfl)
        obtain ⟨x, h6⟩ := e6
        simp only [fS, Nat.reduceAdd]
        simp only [h6]
        go_wp2
        exact ⟨rfl, _, rfl, ⟨x, rfl⟩, Below.refl _ _⟩
      · intro f W hbW hdp
        have e7 : ∃ x : Value, (f 7) = .tuple #[x, .bool false] := hdp ⟨7, .data⟩ (mfl (by simp) rfl)
        obtain ⟨x, h7⟩ := e7
        simp only [fS, Nat.reduceAdd]
        simp only [h7]
        go_wp2
        exact ⟨rfl, _, rfl, trivial, Below.refl _ _⟩
      · intro f W hbW hdp
        have e7 : ∃ x : Value, (f 7) = .tuple #[x, .bool false] := hdp ⟨7, .data⟩ (mfl (by simp) rfl)
        obtain ⟨x, h7⟩ := e7
        simp only [fS, Nat.reduceAdd]
        simp only [h7]
        go_wp2
        exact ⟨rfl, _, rfl, rfl, Below.refl _ _⟩
      · intro f W hbW hdp
        have e8 : True := hdp ⟨8, .data⟩ (mfl (by simp) rfl)
        simp only [fS, Nat.reduceAdd]
        go_wp2
        exact ⟨rfl, _, rfl, trivial, Below.refl _ _⟩
      · intro f W hbW hdp
        have e9 : f 9 = .bool false := hdp ⟨9, .data⟩ (mfl (by simp) rfl)
        simp only [fS, Nat.reduceAdd, e9]
        go_wp2
        exact ⟨rfl, _, rfl, rfl, Below.refl _ _⟩
    case fin =>
      intro f W hbW hA
      have e11 : f 11 = .bool false := hA 11 (by simp)
      show wpList Tryz.prog #[] (Exit.then _ _) [] _ _
      simp only [fS, Nat.reduceAdd, e11]
      clear hA e11
      refine nameW (R := fun W => wpList _ _ _ _ _ W) (fun W2 hW2 => ?_)
      obtain rfl := hW2
      have HB2 := hide (HB1.out.trans (hbW.mono HB1.out.size))
      have HV2 := hide (HV1.out.via hbW)
      have KP2 := hide (Blk.via hbW KP1.out)
      clear hbW HLK
      generalize f 0 = g0
      go_upto_region 4 with (fail)
      refine wp_region_inv_tail 7 [fun v _ => v = .pointer (some ⟨vp, 0, none⟩), fun v _ => v = .pointer (some ⟨vp, 0, none⟩), fun v _ => v = .pointer (some ⟨vp, 2, none⟩), fun v _ => v = .map (some mi), fun v _ => v = .agg X, fun v _ => v = .int .i64 (n : Nat), fun v _ => v = .int .i64 (head : Nat)] (by kernel_rfl) (by kernel_rfl) (by kernel_rfl) (by kernel_rfl) (by kernel_rfl) (by first | simp | decide) (by kernel_rfl) ?st ?steps ?fin
      case st =>
        intro i v W W' hWW h
        match i with
        | 0 | 1 | 2 | 3 | 4 | 5 | 6 => exact h
        | (i + 7) => exact h
      case steps =>
        simp only [stepsT, List.take_succ_cons, List.take_zero]
        refine ⟨?_, ?_, ?_, ?_, ?_, ?_, ?_, trivial⟩
        · intro f W hbW hdp
          simp only [fS, Nat.reduceAdd]
          go_wp2
          exact ⟨rfl, _, rfl, rfl, Below.refl _ _⟩
        · intro f W hbW hdp
          have e0 : f 0 = .pointer (some ⟨vp, 0, none⟩) := hdp ⟨0, .data⟩ (mfl (by simp) rfl)
          simp only [fS, Nat.reduceAdd, e0]
          go_wp2
          exact ⟨rfl, _, rfl, rfl, Below.refl _ _⟩
        · intro f W hbW hdp
          have e1 : f 1 = .pointer (some ⟨vp, 0, none⟩) := hdp ⟨1, .data⟩ (mfl (by simp) rfl)
          simp only [fS, Nat.reduceAdd, e1]
          go_wp2
          exact ⟨rfl, _, rfl, rfl, Below.refl _ _⟩
        · intro f W hbW hdp
          have e2 : f 2 = .pointer (some ⟨vp, 2, none⟩) := hdp ⟨2, .data⟩ (mfl (by simp) rfl)
          have z1 : W.cell? ⟨vp, 2, none⟩ = some (.map (some mi)) := (Blk.via hbW HV2.out.kv).cell 2
          have z2 := (Blk.via hbW HV2.out.kv).lt
          simp only [fS, Nat.reduceAdd, e2]
          go_wp2
          exact ⟨rfl, _, rfl, rfl, Below.refl _ _⟩
        · intro f W hbW hdp
          have kB := hide (Blk.via hbW KP2.out)
          simp only [fS, Nat.reduceAdd]
          refine wpList_load_rowG (by simp [Region.wanted]) 63 (.tmp 4) rfl gp rfl 63 X (0, 0) _ kB.out Tryz.underlying63 rfl HPI.out ?_
          exact ⟨rfl, _, rfl, rfl, Below.refl _ _⟩
        · intro f W hbW hdp
          have e4 : f 4 = .agg X := hdp ⟨4, .data⟩ (mfl (by simp) rfl)
          simp only [fS, Nat.reduceAdd, e4]
          go_wp2_with (go_at_call 91; refine (HNO.out _).mono ?_; rintro e w' ⟨rfl, hb'⟩)
          exact ⟨rfl, _, rfl, rfl, hb'⟩
        · intro f W hbW hdp
          simp only [fS, Nat.reduceAdd]
          go_wp2
          exact ⟨rfl, _, rfl, rfl, Below.refl _ _⟩
      case fin =>
        intro f W hbW hA
        have e3 : f 3 = .map (some mi) := hA 3 (by omega)
        have e5 : f 5 = .int .i64 (n : Nat) := hA 5 (by omega)
        have e6 : f 6 = .int .i64 (head : Nat) := hA 6 (by omega)
        simp only [List.drop_succ_cons, List.drop_zero, List.take_succ_cons, List.take_zero, fillF, Act.put, List.setIfInBounds_toArray, List.set_cons_succ, List.set_cons_zero, Nat.reduceAdd, e3, e5, e6]
        clear hA e3 e5 e6
        have hv3 := HV2.out.via hbW
        obtain ⟨km, hkm, D, hown, hD⟩ := hv3.hi
        refine wpList_mapUpdate_own _ rfl _ _ _ 150 rfl 3 3 keyInt Tryz.underlying150 heldV mi km D rfl hown (by unfold maxLen; omega) _ _ _ rfl rfl (key_of (litN_wf (n := n) (by omega))) _ [] rfl ?_
        intro W3 hown3 hg3
        have hmi := MapL.put hD hown.isMap (q := litN n) (by simp [WideAt.IsKeyLit, litN]) hown3
        have hT3 : Turn (MiMk mi mk) W W3 := Turn.of_grown hg3 (fun q hq => by injection hq with hq; exact .inl hq)
        obtain ⟨k2, hk2, m2⟩ := hv3.hk
        have HV3 := hide (hv3.turn hT3 (pin' := pin ++ [n]) (keys' := keys) ⟨km + 1, by rw [List.length_append]; simp; omega, by rw [List.map_append]; exact hmi⟩ ⟨k2, hk2, m2.kept (hg3.block mk m2.lt (fun e => hv3.im (by injection e with e; exact e.symm)))⟩)
        have HT3 := hide (((Turn.of_below HB2.out).trans (Turn.of_below hbW)).trans hT3)
        have HP3 := hide (hT3.blk (Blk.via hbW KP2.out) (MiMk.ne hv3 (Blk.via hbW KP2.out)))
        generalize f 0 = q0
        generalize f 1 = q1
        generalize f 2 = q2
        clear hD hown hown3 hg3 hmi hT3 m2 hv3 hbW
        have HHD := hide (fun (k : ByteArray) (hk : k.size ≤ 1000) W => head_any s.x k W hk hK.b1 hxb)
        unfold confA at HHD
        have hkl2 : keys.length ≤ 100000 := hkl
        go_wp2
        go_loopw [32] (fun i wr => ∃ (k : Nat) (ks : List ByteArray), k ≤ 7 ∧ i = .int .i64 k ∧ Hid (keysD (headI s.x.b) head ((itP s n).take k) keys = some ks) ∧ ks.length ≤ keys.length + k ∧ Hid (ViewS s wr vp mi mk u (pin ++ [n]) ks t) ∧ Hid (Turn (MiMk mi mk) w wr) ∧ Hid (Blk wr gp 63 X)) (fun i _ => 7 - (intOf i).toNat)
        case atStart => exact ⟨0, keys, by omega, rfl, hide rfl, by omega, HV3, HT3, HP3⟩
        case round =>
          obtain ⟨k, ks, hk, rfl, HKS, hksl, HVr, HTr, HPr⟩ := hrel
          by_cases hlt : k < 7
          · obtain ⟨x, hx⟩ := Option.isSome_iff_exists.1 (HSO.out k hlt)
            have HIT := hide (itP_at hlt hx)
            have hxm := HKZ.out x (List.mem_of_getElem? HIT.out)
            have HS1 := hide (HSL.out k hlt)
            rw [hx] at HS1
            have t1 : (k : Int) < 7 := by omega
            clear hx
            go_wp2_with (refine wpList_load_row rfl 63 (.tmp 4) rfl gp rfl 63 X (0, 0) _ HPr.out Tryz.underlying63 rfl HPI.out ?_)
            refine (HS1.out _).mono ?_
            intro e w4 hP
            obtain ⟨y, A2, n2, c2, er, rfl, hby, hor⟩ := slotGP_one hP
            obtain ⟨rfl, rfl⟩ : y = x ∧ er = 0 := by
              rcases hor with ⟨h1, _⟩ | ⟨h1, h2⟩
              · cases h1
              · injection h1 with h1
                exact ⟨h1.symm, h2⟩
            have HB4 := hide hP.2
            clear hby hor hP
            obtain ⟨xs, xk, d1, d2, d3, d4, d5⟩ := y
            unfold itemC
            dsimp only at *
            go_upto_region 9 with (fail)
            refine gen1 (R := fun W => Code.wp _ _ _ _ W) (fun W5 ki hb5 hz5 => ?_)
            have hbr5 := HB4.out.trans (hb5.mono HB4.out.size)
            have KI5 := hide ki
            have HV5 := hide (HVr.out.via hbr5)
            have HT5 := hide (HTr.out.trans (Turn.of_below hbr5))
            have HP5 := hide (Blk.via hbr5 HPr.out)
            have i0 : W5.cell? ⟨w4.heap.size, 0, none⟩ = some (.int .i64 xs) := ki.cell 0
            have il := ki.lt
            have HTK := hide (show (itP s n).take (k + 1) = (itP s n).take k ++ [⟨xs, xk, ⟨d1, d2, d3, d4, d5⟩⟩] from by
              obtain ⟨q1, q2⟩ := List.getElem?_eq_some_iff.1 HIT.out
              rw [List.take_succ_eq_append_getElem q1, q2])
            clear ki hb5 hbr5
            by_cases hx0 : xs = 0
            · have HKS2 := hide (show keysD (headI s.x.b) head ((itP s n).take (k + 1)) keys = some ks by
                rw [HTK.out, keysD_append, HKS.out]
                show keysD _ _ [_] ks = some ks
                unfold keysD
                rw [if_pos hx0]
                rfl)
              go_wp2
              go_roundw
              case rel => exact ⟨k + 1, ks, by omega, by go_num, HKS2, by omega, HV5, HT5, HP5⟩
              case measure => simp [intOf]; omega
            · have HX0 := hide hx0
              have HSPL := hide (show itP s n = (itP s n).take k ++ (⟨xs, xk, ⟨d1, d2, d3, d4, d5⟩⟩ :: (itP s n).drop (k + 1)) by
                obtain ⟨q1, q2⟩ := List.getElem?_eq_some_iff.1 HIT.out
                rw [← q2, List.getElem_cons_drop, List.take_append_drop])
              have HBAD := hide (show (hasK ks xk || (headI s.x.b xk != head)) = true → fr = none from fun hc => by
                rw [HFK.out, HSPL.out, keysD_append, HKS.out]
                show (keysD _ _ (_ :: _) ks).map _ = none
                unfold keysD
                rw [if_neg HX0.out, if_pos hc]
                rfl)
              have HGOOD := hide (show (hasK ks xk || (headI s.x.b xk != head)) = false → keysD (headI s.x.b) head ((itP s n).take (k + 1)) keys = some (ks ++ [xk]) from fun hc => by
                rw [HTK.out, keysD_append, HKS.out]
                show keysD _ _ [_] ks = _
                unfold keysD
                rw [if_neg HX0.out, if_neg (by rw [hc]; simp)]
                rfl)
              have hxms : xk.size ≤ maxLen := by unfold maxLen; omega
              obtain ⟨hv, hhv⟩ : ∃ h, h = headI s.x.b xk := ⟨_, rfl⟩
              have HHV := hide hhv
              have HH6 := hide (fun W => HHD.out xk hxm W)
              rw [← hhv] at HH6 HBAD HGOOD
              clear hhv
              go_upto_region 12 with (fail)
              have hxb : (xs == 0) = false := beq_eq_false_iff_ne.2 hx0
              simp only [hxb]
              clear i0 il hx0 hxb
              cases hhas : hasK ks xk with
              | true =>
                have HLK := hide (fun W (hb : Below W5.heap.size W5 W) => (HV5.out.via hb).lookK hxms true hhas.symm)
                have HNO2 := hide (show fr = none from HBAD.out (by rw [hhas]; rfl))
                clear hhas
                refine wp_region_invG [fun v _ => v = .pointer (some ⟨vp, 0, none⟩), fun v _ => v = .pointer (some ⟨vp, 0, none⟩), fun v _ => v = .pointer (some ⟨vp, 3, none⟩), fun v _ => v = .map (some mk), fun v _ => v = .pointer (some ⟨w4.heap.size, 1, none⟩), fun v _ => v = .string xk, fun v W => ∃ x : Value, v = .tuple #[x, .bool true], fun v W => ∃ x : Value, v = .tuple #[x, .bool true], fun v W => True, fun v _ => v = .bool true, fun v W => True, fun v _ => v = .bool true] (by kernel_rfl) (by kernel_rfl) (by kernel_rfl) ?st ?steps ?fin
                case st =>
                  intro i v W W' hWW h
                  match i with
                  | 0 | 1 | 2 | 3 | 4 | 5 | 9 | 11 => exact h
                  | 6 => exact h
                  | 7 => exact h
                  | 8 => trivial
                  | 10 => trivial
                  | (i + 12) => exact h
                case steps =>
                  simp only [stepsI]
                  refine ⟨?_, ?_, ?_, ?_, ?_, ?_, ?_, ?_, ?_, ?_, ?_, ?_, trivial⟩
                  · intro f W hbW hdp
                    simp only [fS, Nat.reduceAdd]
                    go_wp2
                    exact ⟨rfl, _, rfl, rfl, Below.refl _ _⟩
                  · intro f W hbW hdp
                    have e0 : f 0 = .pointer (some ⟨vp, 0, none⟩) := hdp ⟨0, .data⟩ (mfl (by simp) rfl)
                    simp only [fS, Nat.reduceAdd, e0]
                    go_wp2
                    exact ⟨rfl, _, rfl, rfl, Below.refl _ _⟩
                  · intro f W hbW hdp
                    have e1 : f 1 = .pointer (some ⟨vp, 0, none⟩) := hdp ⟨1, .data⟩ (mfl (by simp) rfl)
                    simp only [fS, Nat.reduceAdd, e1]
                    go_wp2
                    exact ⟨rfl, _, rfl, rfl, Below.refl _ _⟩
                  · intro f W hbW hdp
                    have e2 : f 2 = .pointer (some ⟨vp, 3, none⟩) := hdp ⟨2, .data⟩ (mfl (by simp) rfl)
                    have z1 : W.cell? ⟨vp, 3, none⟩ = some (.map (some mk)) := (Blk.via hbW HV5.out.kv).cell 3
                    have z2 := (Blk.via hbW HV5.out.kv).lt
                    simp only [fS, Nat.reduceAdd, e2]
                    go_wp2
                    exact ⟨rfl, _, rfl, rfl, Below.refl _ _⟩
                  · intro f W hbW hdp
                    simp only [fS, Nat.reduceAdd]
                    go_wp2
                    exact ⟨rfl, _, rfl, rfl, Below.refl _ _⟩
                  · intro f W hbW hdp
                    have e4 : f 4 = .pointer (some ⟨w4.heap.size, 1, none⟩) := hdp ⟨4, .data⟩ (mfl (by simp) rfl)
                    have z1 : W.cell? ⟨w4.heap.size, 1, none⟩ = some (.string xk) := (Blk.via hbW KI5.out).cell 1
                    have z2 := (Blk.via hbW KI5.out).lt
                    simp only [fS, Nat.reduceAdd, e4]
                    go_wp2
                    exact ⟨rfl, _, rfl, rfl, Below.refl _ _⟩
                  · intro f W hbW hdp
                    have e3 : f 3 = .map (some mk) := hdp ⟨3, .data⟩ (mfl (by simp) rfl)
                    have e5 : f 5 = .string xk := hdp ⟨5, .data⟩ (mfl (by simp) rfl)
                    obtain ⟨x, hx⟩ := HLK.out W hbW
                    simp only [fS, Nat.reduceAdd, e3, e5]
                    go_wp2
                    exact ⟨rfl, _, rfl, ⟨x, rfl⟩, Below.refl _ _⟩
                  · intro f W hbW hdp
                    have e6 : ∃ x : Value, (f 6) = .tuple #[x, .bool true] := hdp ⟨6, .data⟩ (mfl (by simp) rfl)
                    obtain ⟨x, h6⟩ := e6
                    simp only [fS, Nat.reduceAdd]
                    simp only [h6]
                    go_wp2
                    exact ⟨rfl, _, rfl, ⟨x, rfl⟩, Below.refl _ _⟩
                  · intro f W hbW hdp
                    have e7 : ∃ x : Value, (f 7) = .tuple #[x, .bool true] := hdp ⟨7, .data⟩ (mfl (by simp) rfl)
                    obtain ⟨x, h7⟩ := e7
                    simp only [fS, Nat.reduceAdd]
                    simp only [h7]
                    go_wp2
                    exact ⟨rfl, _, rfl, trivial, Below.refl _ _⟩
                  · intro f W hbW hdp
                    have e7 : ∃ x : Value, (f 7) = .tuple #[x, .bool true] := hdp ⟨7, .data⟩ (mfl (by simp) rfl)
                    obtain ⟨x, h7⟩ := e7
                    simp only [fS, Nat.reduceAdd]
                    simp only [h7]
                    go_wp2
                    exact ⟨rfl, _, rfl, rfl, Below.refl _ _⟩
                  · intro f W hbW hdp
                    have e8 : True := hdp ⟨8, .data⟩ (mfl (by simp) rfl)
                    simp only [fS, Nat.reduceAdd]
                    go_wp2
                    exact ⟨rfl, _, rfl, trivial, Below.refl _ _⟩
                  · intro f W hbW hdp
                    have e9 : f 9 = .bool true := hdp ⟨9, .data⟩ (mfl (by simp) rfl)
                    simp only [fS, Nat.reduceAdd, e9]
                    go_wp2
                    exact ⟨rfl, _, rfl, rfl, Below.refl _ _⟩
                case fin =>
                  intro f W hbW hA
                  have e11 : f 11 = .bool true := hA 11 (by simp)
                  show wpList Tryz.prog #[] (Exit.then _ _) [] _ _
                  simp only [fS, Nat.reduceAdd, e11]
                  clear hA e11
                  have HS6 := hide (HV5.out.st.via hbW)
                  have HT6 := hide (HT5.out.trans (Turn.of_below hbW))
                  go_upto_region 13 with (fail)
                  generalize f 0 = y_0
                  generalize f 1 = y_1
                  generalize f 2 = y_2
                  generalize f 3 = y_3
                  generalize f 4 = y_4
                  generalize f 5 = y_5
                  generalize f 6 = y_6
                  generalize f 7 = y_7
                  generalize f 8 = y_8
                  generalize f 9 = y_9
                  generalize f 10 = y_10
                  clear hbW
                  refine wp_region_invG [fun v _ => v = .bool true, fun v _ => v = .bool true, fun v _ => v = undef, fun v _ => v = undef, fun v _ => v = undef, fun v _ => v = undef, fun v _ => v = undef, fun v _ => v = undef, fun v _ => v = undef, fun v _ => v = undef, fun v _ => v = undef, fun v _ => v = undef, fun v _ => v = undef, fun v _ => v = undef, fun v _ => v = .bool true] (by kernel_rfl) (by kernel_rfl) (by kernel_rfl) ?st ?steps ?fin
                  case st =>
                    intro i v W W' hWW h
                    match i with
                    | 0 | 1 | 2 | 3 | 4 | 5 | 6 | 7 | 8 | 9 | 10 | 11 | 12 | 13 | 14 => exact h
                    | (i + 15) => exact h
                  case steps =>
                    simp only [stepsI]
                    refine ⟨?_, ?_, ?_, ?_, ?_, ?_, ?_, ?_, ?_, ?_, ?_, ?_, ?_, ?_, ?_, trivial⟩
                    · intro f W hbW hdp
                      simp only [fS, Nat.reduceAdd]
                      go_wp2
                      exact ⟨rfl, _, rfl, rfl, Below.refl _ _⟩
                    · intro f W hbW hdp
                      have e0 : f 0 = .bool true := hdp ⟨0, .data⟩ (mfl (by simp) rfl)
                      simp only [fS, Nat.reduceAdd, e0]
                      go_wp2
                      exact ⟨rfl, _, rfl, rfl, Below.refl _ _⟩
                    · intro f W hbW hdp
                      have e1 : f 1 = .bool true := hdp ⟨1, .guard⟩ (mfl (by simp) rfl)
                      simp only [fS, Nat.reduceAdd, e1]
                      go_wp2
                      exact ⟨rfl, _, rfl, rfl, Below.refl _ _⟩
                    · intro f W hbW hdp
                      have e1 : f 1 = .bool true := hdp ⟨1, .guard⟩ (mfl (by simp) rfl)
                      simp only [fS, Nat.reduceAdd, e1]
                      go_wp2
                      exact ⟨rfl, _, rfl, rfl, Below.refl _ _⟩
                    · intro f W hbW hdp
                      have e1 : f 1 = .bool true := hdp ⟨1, .guard⟩ (mfl (by simp) rfl)
                      simp only [fS, Nat.reduceAdd, e1]
                      go_wp2
                      exact ⟨rfl, _, rfl, rfl, Below.refl _ _⟩
                    · intro f W hbW hdp
                      have e1 : f 1 = .bool true := hdp ⟨1, .guard⟩ (mfl (by simp) rfl)
                      simp only [fS, Nat.reduceAdd, e1]
                      go_wp2
                      exact ⟨rfl, _, rfl, rfl, Below.refl _ _⟩
                    · intro f W hbW hdp
                      have e1 : f 1 = .bool true := hdp ⟨1, .guard⟩ (mfl (by simp) rfl)
                      simp only [fS, Nat.reduceAdd, e1]
                      go_wp2
                      exact ⟨rfl, _, rfl, rfl, Below.refl _ _⟩
                    · intro f W hbW hdp
                      have e1 : f 1 = .bool true := hdp ⟨1, .guard⟩ (mfl (by simp) rfl)
                      simp only [fS, Nat.reduceAdd, e1]
                      go_wp2
                      exact ⟨rfl, _, rfl, rfl, Below.refl _ _⟩
                    · intro f W hbW hdp
                      have e1 : f 1 = .bool true := hdp ⟨1, .guard⟩ (mfl (by simp) rfl)
                      simp only [fS, Nat.reduceAdd, e1]
                      go_wp2
                      exact ⟨rfl, _, rfl, rfl, Below.refl _ _⟩
                    · intro f W hbW hdp
                      have e1 : f 1 = .bool true := hdp ⟨1, .guard⟩ (mfl (by simp) rfl)
                      simp only [fS, Nat.reduceAdd, e1]
                      go_wp2
                      exact ⟨rfl, _, rfl, rfl, Below.refl _ _⟩
                    · intro f W hbW hdp
                      have e1 : f 1 = .bool true := hdp ⟨1, .guard⟩ (mfl (by simp) rfl)
                      simp only [fS, Nat.reduceAdd, e1]
                      go_wp2
                      exact ⟨rfl, _, rfl, rfl, Below.refl _ _⟩
                    · intro f W hbW hdp
                      have e1 : f 1 = .bool true := hdp ⟨1, .guard⟩ (mfl (by simp) rfl)
                      simp only [fS, Nat.reduceAdd, e1]
                      go_wp2
                      exact ⟨rfl, _, rfl, rfl, Below.refl _ _⟩
                    · intro f W hbW hdp
                      have e1 : f 1 = .bool true := hdp ⟨1, .guard⟩ (mfl (by simp) rfl)
                      simp only [fS, Nat.reduceAdd, e1]
                      go_wp2
                      exact ⟨rfl, _, rfl, rfl, Below.refl _ _⟩
                    · intro f W hbW hdp
                      have e1 : f 1 = .bool true := hdp ⟨1, .guard⟩ (mfl (by simp) rfl)
                      simp only [fS, Nat.reduceAdd, e1]
                      go_wp2
                      exact ⟨rfl, _, rfl, rfl, Below.refl _ _⟩
                    · intro f W hbW hdp
                      have e1 : f 1 = .bool true := hdp ⟨1, .data⟩ (mfl (by simp) rfl)
                      simp only [fS, Nat.reduceAdd, e1]
                      go_wp2
                      exact ⟨rfl, _, rfl, rfl, Below.refl _ _⟩
                  case fin =>
                    intro f W hbW hA
                    have e14 : f 14 = .bool true := hA 14 (by simp)
                    show wpList Tryz.prog #[] (Exit.then _ _) [] _ _
                    simp only [fS, Nat.reduceAdd, e14]
                    clear hA e14
                    have hs := HS6.out.via hbW
                    have hT := HT6.out.trans (Turn.of_below hbW)
                    go_wp2
                    go_ret
                    exact ⟨hs, hT, .inr ⟨HNO2.out, rfl⟩⟩
              | false =>
                have HLK := hide (fun W (hb : Below W5.heap.size W5 W) => (HV5.out.via hb).lookK hxms false hhas.symm)
                obtain ⟨q1, q2, q3, q4, kbase⟩ := HV5.out.st.base
                have KB5 := hide kbase
                have HB' := hide (show (hv != (head : Int)) = true → fr = none from fun hc => HBAD.out (by rw [hhas, hc]; rfl))
                have HG' := hide (show (hv != (head : Int)) = false → keysD (headI s.x.b) head ((itP s n).take (k + 1)) keys = some (ks ++ [xk]) from fun hc => HGOOD.out (by rw [hhas, hc]; rfl))
                clear hhas kbase
                refine wp_region_invG [fun v _ => v = .pointer (some ⟨vp, 0, none⟩), fun v _ => v = .pointer (some ⟨vp, 0, none⟩), fun v _ => v = .pointer (some ⟨vp, 3, none⟩), fun v _ => v = .map (some mk), fun v _ => v = .pointer (some ⟨w4.heap.size, 1, none⟩), fun v _ => v = .string xk, fun v W => ∃ x : Value, v = .tuple #[x, .bool false], fun v W => ∃ x : Value, v = .tuple #[x, .bool false], fun v W => True, fun v _ => v = .bool false, fun v W => True, fun v _ => v = .bool false] (by kernel_rfl) (by kernel_rfl) (by kernel_rfl) ?st ?steps ?fin
                case st =>
                  intro i v W W' hWW h
                  match i with
                  | 0 | 1 | 2 | 3 | 4 | 5 | 9 | 11 => exact h
                  | 6 => exact h
                  | 7 => exact h
                  | 8 => trivial
                  | 10 => trivial
                  | (i + 12) => exact h
                case steps =>
                  simp only [stepsI]
                  refine ⟨?_, ?_, ?_, ?_, ?_, ?_, ?_, ?_, ?_, ?_, ?_, ?_, trivial⟩
                  · intro f W hbW hdp
                    simp only [fS, Nat.reduceAdd]
                    go_wp2
                    exact ⟨rfl, _, rfl, rfl, Below.refl _ _⟩
                  · intro f W hbW hdp
                    have e0 : f 0 = .pointer (some ⟨vp, 0, none⟩) := hdp ⟨0, .data⟩ (mfl (by simp) rfl)
                    simp only [fS, Nat.reduceAdd, e0]
                    go_wp2
                    exact ⟨rfl, _, rfl, rfl, Below.refl _ _⟩
                  · intro f W hbW hdp
                    have e1 : f 1 = .pointer (some ⟨vp, 0, none⟩) := hdp ⟨1, .data⟩ (mfl (by simp) rfl)
                    simp only [fS, Nat.reduceAdd, e1]
                    go_wp2
                    exact ⟨rfl, _, rfl, rfl, Below.refl _ _⟩
                  · intro f W hbW hdp
                    have e2 : f 2 = .pointer (some ⟨vp, 3, none⟩) := hdp ⟨2, .data⟩ (mfl (by simp) rfl)
                    have z1 : W.cell? ⟨vp, 3, none⟩ = some (.map (some mk)) := (Blk.via hbW HV5.out.kv).cell 3
                    have z2 := (Blk.via hbW HV5.out.kv).lt
                    simp only [fS, Nat.reduceAdd, e2]
                    go_wp2
                    exact ⟨rfl, _, rfl, rfl, Below.refl _ _⟩
                  · intro f W hbW hdp
                    simp only [fS, Nat.reduceAdd]
                    go_wp2
                    exact ⟨rfl, _, rfl, rfl, Below.refl _ _⟩
                  · intro f W hbW hdp
                    have e4 : f 4 = .pointer (some ⟨w4.heap.size, 1, none⟩) := hdp ⟨4, .data⟩ (mfl (by simp) rfl)
                    have z1 : W.cell? ⟨w4.heap.size, 1, none⟩ = some (.string xk) := (Blk.via hbW KI5.out).cell 1
                    have z2 := (Blk.via hbW KI5.out).lt
                    simp only [fS, Nat.reduceAdd, e4]
                    go_wp2
                    exact ⟨rfl, _, rfl, rfl, Below.refl _ _⟩
                  · intro f W hbW hdp
                    have e3 : f 3 = .map (some mk) := hdp ⟨3, .data⟩ (mfl (by simp) rfl)
                    have e5 : f 5 = .string xk := hdp ⟨5, .data⟩ (mfl (by simp) rfl)
                    obtain ⟨x, hx⟩ := HLK.out W hbW
                    simp only [fS, Nat.reduceAdd, e3, e5]
                    go_wp2
                    exact ⟨rfl, _, rfl, ⟨x, rfl⟩, Below.refl _ _⟩
                  · intro f W hbW hdp
                    have e6 : ∃ x : Value, (f 6) = .tuple #[x, .bool false] := hdp ⟨6, .data⟩ (mfl (by simp) rfl)
                    obtain ⟨x, h6⟩ := e6
                    simp only [fS, Nat.reduceAdd]
                    simp only [h6]
                    go_wp2
                    exact ⟨rfl, _, rfl, ⟨x, rfl⟩, Below.refl _ _⟩
                  · intro f W hbW hdp
                    have e7 : ∃ x : Value, (f 7) = .tuple #[x, .bool false] := hdp ⟨7, .data⟩ (mfl (by simp) rfl)
                    obtain ⟨x, h7⟩ := e7
                    simp only [fS, Nat.reduceAdd]
                    simp only [h7]
                    go_wp2
                    exact ⟨rfl, _, rfl, trivial, Below.refl _ _⟩
                  · intro f W hbW hdp
                    have e7 : ∃ x : Value, (f 7) = .tuple #[x, .bool false] := hdp ⟨7, .data⟩ (mfl (by simp) rfl)
                    obtain ⟨x, h7⟩ := e7
                    simp only [fS, Nat.reduceAdd]
                    simp only [h7]
                    go_wp2
                    exact ⟨rfl, _, rfl, rfl, Below.refl _ _⟩
                  · intro f W hbW hdp
                    have e8 : True := hdp ⟨8, .data⟩ (mfl (by simp) rfl)
                    simp only [fS, Nat.reduceAdd]
                    go_wp2
                    exact ⟨rfl, _, rfl, trivial, Below.refl _ _⟩
                  · intro f W hbW hdp
                    have e9 : f 9 = .bool false := hdp ⟨9, .data⟩ (mfl (by simp) rfl)
                    simp only [fS, Nat.reduceAdd, e9]
                    go_wp2
                    exact ⟨rfl, _, rfl, rfl, Below.refl _ _⟩
                case fin =>
                  intro f W hbW hA
                  have e11 : f 11 = .bool false := hA 11 (by simp)
                  show wpList Tryz.prog #[] (Exit.then _ _) [] _ _
                  simp only [fS, Nat.reduceAdd, e11]
                  clear hA e11
                  have HV6 := hide (HV5.out.via hbW)
                  have HT6 := hide (HT5.out.trans (Turn.of_below hbW))
                  have HP6 := hide (Blk.via hbW HP5.out)
                  have KI6 := hide (Blk.via hbW KI5.out)
                  have KB6 := hide (Blk.via hbW KB5.out)
                  go_upto_region 13 with (fail)
                  generalize f 0 = y_0
                  generalize f 1 = y_1
                  generalize f 2 = y_2
                  generalize f 3 = y_3
                  generalize f 4 = y_4
                  generalize f 5 = y_5
                  generalize f 6 = y_6
                  generalize f 7 = y_7
                  generalize f 8 = y_8
                  generalize f 9 = y_9
                  generalize f 10 = y_10
                  clear hbW HLK
                  by_cases hvh : hv = (head : Int)
                  · have HKN := hide (HG'.out (by simp [hvh]))
                    have HVH := hide hvh
                    have HH7 := HH6
                    rw [hvh] at HH7
                    clear hvh HH6
                    have HH6 := HH7
                    clear HH7
                    refine wp_region_invG [fun v _ => v = .bool false, fun v _ => v = .bool false, fun v _ => v = .pointer (some ⟨vp, 0, none⟩), fun v _ => v = .pointer (some ⟨vp, 0, none⟩), fun v _ => v = .pointer (some ⟨vp, 0, none⟩), fun v _ => v = .pointer (some ⟨s.b, 0, none⟩), fun v _ => v = .pointer (some ⟨s.b, 0, none⟩), fun v _ => v = .pointer (some ⟨s.b, 1, none⟩), fun v _ => v = .agg #[.int .i64 s.x.b, .int .i64 s.x.p, .int .i64 s.x.f, .int .i64 s.x.c, .int .i64 s.x.l], fun v _ => v = .pointer (some ⟨w4.heap.size, 1, none⟩), fun v _ => v = .string xk, fun v _ => v = .int .i64 (head : Nat), fun v _ => v = .int .i64 (head : Nat), fun v _ => v = .bool false, fun v _ => v = .bool false] (by kernel_rfl) (by kernel_rfl) (by kernel_rfl) ?st ?steps ?fin
                    case st =>
                      intro i v W W' hWW h
                      match i with
                      | 0 | 1 | 2 | 3 | 4 | 5 | 6 | 7 | 8 | 9 | 10 | 11 | 12 | 13 | 14 => exact h
                      | (i + 15) => exact h
                    case steps =>
                      simp only [stepsI]
                      refine ⟨?_, ?_, ?_, ?_, ?_, ?_, ?_, ?_, ?_, ?_, ?_, ?_, ?_, ?_, ?_, trivial⟩
                      · intro f W hbW hdp
                        simp only [fS, Nat.reduceAdd]
                        go_wp2
                        exact ⟨rfl, _, rfl, rfl, Below.refl _ _⟩
                      · intro f W hbW hdp
                        have e0 : f 0 = .bool false := hdp ⟨0, .data⟩ (mfl (by simp) rfl)
                        simp only [fS, Nat.reduceAdd, e0]
                        go_wp2
                        exact ⟨rfl, _, rfl, rfl, Below.refl _ _⟩
                      · intro f W hbW hdp
                        have e1 : f 1 = .bool false := hdp ⟨1, .guard⟩ (mfl (by simp) rfl)
                        simp only [fS, Nat.reduceAdd, e1]
                        go_wp2
                        exact ⟨rfl, _, rfl, rfl, Below.refl _ _⟩
                      · intro f W hbW hdp
                        have e1 : f 1 = .bool false := hdp ⟨1, .guard⟩ (mfl (by simp) rfl)
                        have e2 : f 2 = .pointer (some ⟨vp, 0, none⟩) := hdp ⟨2, .data⟩ (mfl (by simp) rfl)
                        simp only [fS, Nat.reduceAdd, e1, e2]
                        go_wp2
                        exact ⟨rfl, _, rfl, rfl, Below.refl _ _⟩
                      · intro f W hbW hdp
                        have e1 : f 1 = .bool false := hdp ⟨1, .guard⟩ (mfl (by simp) rfl)
                        have e3 : f 3 = .pointer (some ⟨vp, 0, none⟩) := hdp ⟨3, .data⟩ (mfl (by simp) rfl)
                        simp only [fS, Nat.reduceAdd, e1, e3]
                        go_wp2
                        exact ⟨rfl, _, rfl, rfl, Below.refl _ _⟩
                      · intro f W hbW hdp
                        have e1 : f 1 = .bool false := hdp ⟨1, .guard⟩ (mfl (by simp) rfl)
                        have e4 : f 4 = .pointer (some ⟨vp, 0, none⟩) := hdp ⟨4, .data⟩ (mfl (by simp) rfl)
                        have z1 : W.cell? ⟨vp, 0, none⟩ = some (.pointer (some ⟨s.b, 0, none⟩)) := (Blk.via hbW HV6.out.kv).cell 0
                        have z2 := (Blk.via hbW HV6.out.kv).lt
                        simp only [fS, Nat.reduceAdd, e1, e4]
                        go_wp2
                        exact ⟨rfl, _, rfl, rfl, Below.refl _ _⟩
                      · intro f W hbW hdp
                        have e1 : f 1 = .bool false := hdp ⟨1, .guard⟩ (mfl (by simp) rfl)
                        have e5 : f 5 = .pointer (some ⟨s.b, 0, none⟩) := hdp ⟨5, .data⟩ (mfl (by simp) rfl)
                        simp only [fS, Nat.reduceAdd, e1, e5]
                        go_wp2
                        exact ⟨rfl, _, rfl, rfl, Below.refl _ _⟩
                      · intro f W hbW hdp
                        have e1 : f 1 = .bool false := hdp ⟨1, .guard⟩ (mfl (by simp) rfl)
                        have e6 : f 6 = .pointer (some ⟨s.b, 0, none⟩) := hdp ⟨6, .data⟩ (mfl (by simp) rfl)
                        simp only [fS, Nat.reduceAdd, e1, e6]
                        go_wp2
                        exact ⟨rfl, _, rfl, rfl, Below.refl _ _⟩
                      · intro f W hbW hdp
                        have e1 : f 1 = .bool false := hdp ⟨1, .guard⟩ (mfl (by simp) rfl)
                        have e7 : f 7 = .pointer (some ⟨s.b, 1, none⟩) := hdp ⟨7, .data⟩ (mfl (by simp) rfl)
                        have kb := Blk.via hbW KB6.out
                        have z1 : W.cell? ⟨s.b, 1, none⟩ = some (.int .i64 s.x.b) := kb.cell 1
                        have z2 : W.cell? ⟨s.b, 2, none⟩ = some (.int .i64 s.x.p) := kb.cell 2
                        have z3 : W.cell? ⟨s.b, 3, none⟩ = some (.int .i64 s.x.f) := kb.cell 3
                        have z4 : W.cell? ⟨s.b, 4, none⟩ = some (.int .i64 s.x.c) := kb.cell 4
                        have z5 : W.cell? ⟨s.b, 5, none⟩ = some (.int .i64 s.x.l) := kb.cell 5
                        have zl := kb.lt
                        simp only [fS, Nat.reduceAdd, e1, e7]
                        go_wp2
                        exact ⟨rfl, _, rfl, rfl, Below.refl _ _⟩
                      · intro f W hbW hdp
                        have e1 : f 1 = .bool false := hdp ⟨1, .guard⟩ (mfl (by simp) rfl)
                        simp only [fS, Nat.reduceAdd, e1]
                        go_wp2
                        exact ⟨rfl, _, rfl, rfl, Below.refl _ _⟩
                      · intro f W hbW hdp
                        have e1 : f 1 = .bool false := hdp ⟨1, .guard⟩ (mfl (by simp) rfl)
                        have e9 : f 9 = .pointer (some ⟨w4.heap.size, 1, none⟩) := hdp ⟨9, .data⟩ (mfl (by simp) rfl)
                        have z1 : W.cell? ⟨w4.heap.size, 1, none⟩ = some (.string xk) := (Blk.via hbW KI6.out).cell 1
                        have z2 := (Blk.via hbW KI6.out).lt
                        simp only [fS, Nat.reduceAdd, e1, e9]
                        go_wp2
                        exact ⟨rfl, _, rfl, rfl, Below.refl _ _⟩
                      · intro f W hbW hdp
                        have e1 : f 1 = .bool false := hdp ⟨1, .guard⟩ (mfl (by simp) rfl)
                        have e8 : f 8 = .agg #[.int .i64 s.x.b, .int .i64 s.x.p, .int .i64 s.x.f, .int .i64 s.x.c, .int .i64 s.x.l] := hdp ⟨8, .data⟩ (mfl (by simp) rfl)
                        have e10 : f 10 = .string xk := hdp ⟨10, .data⟩ (mfl (by simp) rfl)
                        simp only [fS, Nat.reduceAdd, e1, e8, e10]
                        go_wp2_with (go_at_call 201; refine (HH6.out _).mono ?_; rintro e w' ⟨rfl, hb'⟩)
                        exact ⟨rfl, _, rfl, rfl, hb'⟩
                      · intro f W hbW hdp
                        have e1 : f 1 = .bool false := hdp ⟨1, .guard⟩ (mfl (by simp) rfl)
                        simp only [fS, Nat.reduceAdd, e1]
                        go_wp2
                        exact ⟨rfl, _, rfl, rfl, Below.refl _ _⟩
                      · intro f W hbW hdp
                        have e1 : f 1 = .bool false := hdp ⟨1, .guard⟩ (mfl (by simp) rfl)
                        have e11 : f 11 = .int .i64 (head : Nat) := hdp ⟨11, .data⟩ (mfl (by simp) rfl)
                        have e12 : f 12 = .int .i64 (head : Nat) := hdp ⟨12, .data⟩ (mfl (by simp) rfl)
                        simp only [fS, Nat.reduceAdd, e1, e11, e12]
                        go_wp2
                        exact ⟨rfl, _, rfl, rfl, Below.refl _ _⟩
                      · intro f W hbW hdp
                        have e1 : f 1 = .bool false := hdp ⟨1, .data⟩ (mfl (by simp) rfl)
                        have e13 : f 13 = .bool false := hdp ⟨13, .data⟩ (mfl (by simp) rfl)
                        simp only [fS, Nat.reduceAdd, e1, e13]
                        go_wp2
                        exact ⟨rfl, _, rfl, rfl, Below.refl _ _⟩
                    case fin =>
                      intro f W hbW hA
                      have e14 : f 14 = .bool false := hA 14 (by simp)
                      show wpList Tryz.prog #[] (Exit.then _ _) [] _ _
                      simp only [fS, Nat.reduceAdd, e14]
                      clear hA e14
                      have HV7 := hide (HV6.out.via hbW)
                      have HT7 := hide (HT6.out.trans (Turn.of_below hbW))
                      have HP7 := hide (Blk.via hbW HP6.out)
                      have KI7 := hide (Blk.via hbW KI6.out)
                      go_upto_region 15 with (fail)
                      generalize f 0 = x_0
                      generalize f 1 = x_1
                      generalize f 2 = x_2
                      generalize f 3 = x_3
                      generalize f 4 = x_4
                      generalize f 5 = x_5
                      generalize f 6 = x_6
                      generalize f 7 = x_7
                      generalize f 8 = x_8
                      generalize f 9 = x_9
                      generalize f 10 = x_10
                      generalize f 11 = x_11
                      generalize f 12 = x_12
                      generalize f 13 = x_13
                      clear hbW
                      refine wp_region_inv_tail 7 [fun v _ => v = .pointer (some ⟨vp, 0, none⟩), fun v _ => v = .pointer (some ⟨vp, 0, none⟩), fun v _ => v = .pointer (some ⟨vp, 3, none⟩), fun v _ => v = .map (some mk), fun v _ => v = .pointer (some ⟨w4.heap.size, 1, none⟩), fun v _ => v = .string xk, fun v _ => v = .int .i64 (head : Nat)] (by kernel_rfl) (by kernel_rfl) (by kernel_rfl) (by kernel_rfl) (by kernel_rfl) (by first | simp | decide) (by kernel_rfl) ?st ?steps ?fin
                      case st =>
                        intro i v W W' hWW h
                        match i with
                        | 0 | 1 | 2 | 3 | 4 | 5 | 6 => exact h
                        | (i + 7) => exact h
                      case steps =>
                        simp only [stepsT, List.take_succ_cons, List.take_zero]
                        refine ⟨?_, ?_, ?_, ?_, ?_, ?_, ?_, trivial⟩
                        · intro f W hbW hdp
                          simp only [fS, Nat.reduceAdd]
                          go_wp2
                          exact ⟨rfl, _, rfl, rfl, Below.refl _ _⟩
                        · intro f W hbW hdp
                          have e0 : f 0 = .pointer (some ⟨vp, 0, none⟩) := hdp ⟨0, .data⟩ (mfl (by simp) rfl)
                          simp only [fS, Nat.reduceAdd, e0]
                          go_wp2
                          exact ⟨rfl, _, rfl, rfl, Below.refl _ _⟩
                        · intro f W hbW hdp
                          have e1 : f 1 = .pointer (some ⟨vp, 0, none⟩) := hdp ⟨1, .data⟩ (mfl (by simp) rfl)
                          simp only [fS, Nat.reduceAdd, e1]
                          go_wp2
                          exact ⟨rfl, _, rfl, rfl, Below.refl _ _⟩
                        · intro f W hbW hdp
                          have e2 : f 2 = .pointer (some ⟨vp, 3, none⟩) := hdp ⟨2, .data⟩ (mfl (by simp) rfl)
                          have z1 : W.cell? ⟨vp, 3, none⟩ = some (.map (some mk)) := (Blk.via hbW HV7.out.kv).cell 3
                          have z2 := (Blk.via hbW HV7.out.kv).lt
                          simp only [fS, Nat.reduceAdd, e2]
                          go_wp2
                          exact ⟨rfl, _, rfl, rfl, Below.refl _ _⟩
                        · intro f W hbW hdp
                          simp only [fS, Nat.reduceAdd]
                          go_wp2
                          exact ⟨rfl, _, rfl, rfl, Below.refl _ _⟩
                        · intro f W hbW hdp
                          have e4 : f 4 = .pointer (some ⟨w4.heap.size, 1, none⟩) := hdp ⟨4, .data⟩ (mfl (by simp) rfl)
                          have z1 : W.cell? ⟨w4.heap.size, 1, none⟩ = some (.string xk) := (Blk.via hbW KI7.out).cell 1
                          have z2 := (Blk.via hbW KI7.out).lt
                          simp only [fS, Nat.reduceAdd, e4]
                          go_wp2
                          exact ⟨rfl, _, rfl, rfl, Below.refl _ _⟩
                        · intro f W hbW hdp
                          simp only [fS, Nat.reduceAdd]
                          go_wp2
                          exact ⟨rfl, _, rfl, rfl, Below.refl _ _⟩
                      case fin =>
                        intro f W hbW hA
                        have e3 : f 3 = .map (some mk) := hA 3 (by omega)
                        have e5 : f 5 = .string xk := hA 5 (by omega)
                        have e6 : f 6 = .int .i64 (head : Nat) := hA 6 (by omega)
                        simp only [List.drop_succ_cons, List.drop_zero, List.take_succ_cons, List.take_zero, fillF, Act.put, List.setIfInBounds_toArray, List.set_cons_succ, List.set_cons_zero, Nat.reduceAdd, e3, e5, e6]
                        clear hA e3 e5 e6
                        have hv8 := HV7.out.via hbW
                        obtain ⟨km, hkm, D, hown, hD⟩ := hv8.hk
                        refine wpList_mapUpdate_own _ rfl _ _ _ 151 rfl 9 3 keyStr Tryz.underlying151 heldV mk km D rfl hown (by unfold maxLen; omega) _ _ _ rfl rfl (Go.WideMaps.keyOf_string_mk Tryz.underlying9 hxms) _ [] rfl ?_
                        intro W8 hown8 hg8
                        have hmk := MapL.put hD hown.isMap (q := litS xk) (by simp [WideAt.IsKeyLit, litS]) hown8
                        have hT8 : Turn (MiMk mi mk) W W8 := Turn.of_grown hg8 (fun q hq => by injection hq with hq; exact .inr hq)
                        obtain ⟨k2, hk2, m2⟩ := hv8.hi
                        have HV8 := hide (hv8.turn hT8 (pin' := pin ++ [n]) (keys' := ks ++ [xk]) ⟨k2, hk2, m2.kept (hg8.block mi m2.lt (fun e => hv8.im (by injection e with e)))⟩ ⟨km + 1, by rw [List.length_append]; simp; omega, by rw [List.map_append]; exact hmk⟩)
                        have HT8 := hide ((HT7.out.trans (Turn.of_below hbW)).trans hT8)
                        have HP8 := hide (hT8.blk (Blk.via hbW HP7.out) (MiMk.ne hv8 (Blk.via hbW HP7.out)))
                        generalize f 0 = z_0
                        generalize f 1 = z_1
                        generalize f 2 = z_2
                        generalize f 4 = z_4
                        clear hD hown hown8 hg8 hmk hT8 m2 hv8 hbW
                        go_wp2
                        go_roundw
                        case rel => exact ⟨k + 1, ks ++ [xk], by omega, by go_num, HKN, by rw [List.length_append]; simp; omega, HV8, HT8, HP8⟩
                        case measure => simp [intOf]; omega
                  · have HNO2 := hide (HB'.out (by simp [hvh]))
                    have HNB := hide (show (hv != (head : Int)) = true by simp [hvh])
                    clear hvh
                    refine wp_region_invG [fun v _ => v = .bool false, fun v _ => v = .bool false, fun v _ => v = .pointer (some ⟨vp, 0, none⟩), fun v _ => v = .pointer (some ⟨vp, 0, none⟩), fun v _ => v = .pointer (some ⟨vp, 0, none⟩), fun v _ => v = .pointer (some ⟨s.b, 0, none⟩), fun v _ => v = .pointer (some ⟨s.b, 0, none⟩), fun v _ => v = .pointer (some ⟨s.b, 1, none⟩), fun v _ => v = .agg #[.int .i64 s.x.b, .int .i64 s.x.p, .int .i64 s.x.f, .int .i64 s.x.c, .int .i64 s.x.l], fun v _ => v = .pointer (some ⟨w4.heap.size, 1, none⟩), fun v _ => v = .string xk, fun v _ => v = .int .i64 hv, fun v _ => v = .int .i64 (head : Nat), fun v _ => v = .bool true, fun v _ => v = .bool true] (by kernel_rfl) (by kernel_rfl) (by kernel_rfl) ?st ?steps ?fin
                    case st =>
                      intro i v W W' hWW h
                      match i with
                      | 0 | 1 | 2 | 3 | 4 | 5 | 6 | 7 | 8 | 9 | 10 | 11 | 12 | 13 | 14 => exact h
                      | (i + 15) => exact h
                    case steps =>
                      simp only [stepsI]
                      refine ⟨?_, ?_, ?_, ?_, ?_, ?_, ?_, ?_, ?_, ?_, ?_, ?_, ?_, ?_, ?_, trivial⟩
                      · intro f W hbW hdp
                        simp only [fS, Nat.reduceAdd]
                        go_wp2
                        exact ⟨rfl, _, rfl, rfl, Below.refl _ _⟩
                      · intro f W hbW hdp
                        have e0 : f 0 = .bool false := hdp ⟨0, .data⟩ (mfl (by simp) rfl)
                        simp only [fS, Nat.reduceAdd, e0]
                        go_wp2
                        exact ⟨rfl, _, rfl, rfl, Below.refl _ _⟩
                      · intro f W hbW hdp
                        have e1 : f 1 = .bool false := hdp ⟨1, .guard⟩ (mfl (by simp) rfl)
                        simp only [fS, Nat.reduceAdd, e1]
                        go_wp2
                        exact ⟨rfl, _, rfl, rfl, Below.refl _ _⟩
                      · intro f W hbW hdp
                        have e1 : f 1 = .bool false := hdp ⟨1, .guard⟩ (mfl (by simp) rfl)
                        have e2 : f 2 = .pointer (some ⟨vp, 0, none⟩) := hdp ⟨2, .data⟩ (mfl (by simp) rfl)
                        simp only [fS, Nat.reduceAdd, e1, e2]
                        go_wp2
                        exact ⟨rfl, _, rfl, rfl, Below.refl _ _⟩
                      · intro f W hbW hdp
                        have e1 : f 1 = .bool false := hdp ⟨1, .guard⟩ (mfl (by simp) rfl)
                        have e3 : f 3 = .pointer (some ⟨vp, 0, none⟩) := hdp ⟨3, .data⟩ (mfl (by simp) rfl)
                        simp only [fS, Nat.reduceAdd, e1, e3]
                        go_wp2
                        exact ⟨rfl, _, rfl, rfl, Below.refl _ _⟩
                      · intro f W hbW hdp
                        have e1 : f 1 = .bool false := hdp ⟨1, .guard⟩ (mfl (by simp) rfl)
                        have e4 : f 4 = .pointer (some ⟨vp, 0, none⟩) := hdp ⟨4, .data⟩ (mfl (by simp) rfl)
                        have z1 : W.cell? ⟨vp, 0, none⟩ = some (.pointer (some ⟨s.b, 0, none⟩)) := (Blk.via hbW HV6.out.kv).cell 0
                        have z2 := (Blk.via hbW HV6.out.kv).lt
                        simp only [fS, Nat.reduceAdd, e1, e4]
                        go_wp2
                        exact ⟨rfl, _, rfl, rfl, Below.refl _ _⟩
                      · intro f W hbW hdp
                        have e1 : f 1 = .bool false := hdp ⟨1, .guard⟩ (mfl (by simp) rfl)
                        have e5 : f 5 = .pointer (some ⟨s.b, 0, none⟩) := hdp ⟨5, .data⟩ (mfl (by simp) rfl)
                        simp only [fS, Nat.reduceAdd, e1, e5]
                        go_wp2
                        exact ⟨rfl, _, rfl, rfl, Below.refl _ _⟩
                      · intro f W hbW hdp
                        have e1 : f 1 = .bool false := hdp ⟨1, .guard⟩ (mfl (by simp) rfl)
                        have e6 : f 6 = .pointer (some ⟨s.b, 0, none⟩) := hdp ⟨6, .data⟩ (mfl (by simp) rfl)
                        simp only [fS, Nat.reduceAdd, e1, e6]
                        go_wp2
                        exact ⟨rfl, _, rfl, rfl, Below.refl _ _⟩
                      · intro f W hbW hdp
                        have e1 : f 1 = .bool false := hdp ⟨1, .guard⟩ (mfl (by simp) rfl)
                        have e7 : f 7 = .pointer (some ⟨s.b, 1, none⟩) := hdp ⟨7, .data⟩ (mfl (by simp) rfl)
                        have kb := Blk.via hbW KB6.out
                        have z1 : W.cell? ⟨s.b, 1, none⟩ = some (.int .i64 s.x.b) := kb.cell 1
                        have z2 : W.cell? ⟨s.b, 2, none⟩ = some (.int .i64 s.x.p) := kb.cell 2
                        have z3 : W.cell? ⟨s.b, 3, none⟩ = some (.int .i64 s.x.f) := kb.cell 3
                        have z4 : W.cell? ⟨s.b, 4, none⟩ = some (.int .i64 s.x.c) := kb.cell 4
                        have z5 : W.cell? ⟨s.b, 5, none⟩ = some (.int .i64 s.x.l) := kb.cell 5
                        have zl := kb.lt
                        simp only [fS, Nat.reduceAdd, e1, e7]
                        go_wp2
                        exact ⟨rfl, _, rfl, rfl, Below.refl _ _⟩
                      · intro f W hbW hdp
                        have e1 : f 1 = .bool false := hdp ⟨1, .guard⟩ (mfl (by simp) rfl)
                        simp only [fS, Nat.reduceAdd, e1]
                        go_wp2
                        exact ⟨rfl, _, rfl, rfl, Below.refl _ _⟩
                      · intro f W hbW hdp
                        have e1 : f 1 = .bool false := hdp ⟨1, .guard⟩ (mfl (by simp) rfl)
                        have e9 : f 9 = .pointer (some ⟨w4.heap.size, 1, none⟩) := hdp ⟨9, .data⟩ (mfl (by simp) rfl)
                        have z1 : W.cell? ⟨w4.heap.size, 1, none⟩ = some (.string xk) := (Blk.via hbW KI6.out).cell 1
                        have z2 := (Blk.via hbW KI6.out).lt
                        simp only [fS, Nat.reduceAdd, e1, e9]
                        go_wp2
                        exact ⟨rfl, _, rfl, rfl, Below.refl _ _⟩
                      · intro f W hbW hdp
                        have e1 : f 1 = .bool false := hdp ⟨1, .guard⟩ (mfl (by simp) rfl)
                        have e8 : f 8 = .agg #[.int .i64 s.x.b, .int .i64 s.x.p, .int .i64 s.x.f, .int .i64 s.x.c, .int .i64 s.x.l] := hdp ⟨8, .data⟩ (mfl (by simp) rfl)
                        have e10 : f 10 = .string xk := hdp ⟨10, .data⟩ (mfl (by simp) rfl)
                        simp only [fS, Nat.reduceAdd, e1, e8, e10]
                        go_wp2_with (go_at_call 201; refine (HH6.out _).mono ?_; rintro e w' ⟨rfl, hb'⟩)
                        exact ⟨rfl, _, rfl, rfl, hb'⟩
                      · intro f W hbW hdp
                        have e1 : f 1 = .bool false := hdp ⟨1, .guard⟩ (mfl (by simp) rfl)
                        simp only [fS, Nat.reduceAdd, e1]
                        go_wp2
                        exact ⟨rfl, _, rfl, rfl, Below.refl _ _⟩
                      · intro f W hbW hdp
                        have e1 : f 1 = .bool false := hdp ⟨1, .guard⟩ (mfl (by simp) rfl)
                        have e11 : f 11 = .int .i64 hv := hdp ⟨11, .data⟩ (mfl (by simp) rfl)
                        have e12 : f 12 = .int .i64 (head : Nat) := hdp ⟨12, .data⟩ (mfl (by simp) rfl)
                        simp only [fS, Nat.reduceAdd, e1, e11, e12]
                        go_wp2
                        exact ⟨rfl, _, rfl, congrArg Value.bool HNB.out, Below.refl _ _⟩
                      · intro f W hbW hdp
                        have e1 : f 1 = .bool false := hdp ⟨1, .data⟩ (mfl (by simp) rfl)
                        have e13 : f 13 = .bool true := hdp ⟨13, .data⟩ (mfl (by simp) rfl)
                        simp only [fS, Nat.reduceAdd, e1, e13]
                        go_wp2
                        exact ⟨rfl, _, rfl, rfl, Below.refl _ _⟩
                    case fin =>
                      intro f W hbW hA
                      have e14 : f 14 = .bool true := hA 14 (by simp)
                      show wpList Tryz.prog #[] (Exit.then _ _) [] _ _
                      simp only [fS, Nat.reduceAdd, e14]
                      clear hA e14
                      have hs := HV6.out.st.via hbW
                      have hT := HT6.out.trans (Turn.of_below hbW)
                      go_wp2
                      go_ret
                      exact ⟨hs, hT, .inr ⟨HNO2.out, rfl⟩⟩
          · obtain rfl : k = 7 := by omega
            have HFE := hide (show fr = some (pin ++ [n], ks) by
              rw [HFK.out]
              have h1 := HKS.out
              rw [List.take_of_length_le (Nat.le_of_eq (itP_len s n))] at h1
              rw [h1]
              rfl)
            go_wp2
            go_ret
            exact ⟨HVr.out.st, HTr.out, .inl ⟨_, _, HFE.out, rfl, HVr.out⟩⟩
end Go.Proofs.YtnanlaefehaifaaGreat
