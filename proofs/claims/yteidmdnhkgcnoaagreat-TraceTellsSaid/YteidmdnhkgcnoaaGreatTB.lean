/-
  STORIES, plainly (P33.1), and how []api.Story lies in memory.
  WALKS OF THE PROGRAM: hist.storyTxn, hist.places and hist.unique over stories.
-/
import Derived.Test.YteidmdnhkgcnoaaGreatMem
import Derived.Test.YteidmdnhkgcnoaaGreatHC
import Derived.Test.YteidmdnhkgcnoaaGreatWF
import Derived.Maps.OwnSet
import Derived.Deep.DeepCutAuto
namespace Go.Proofs.YteidmdnhkgcnoaaGreat
open Go.RowKit

theorem snocRec {α : Type} {motive : List α → Prop} (nil : motive []) (snoc : ∀ (l : List α) (a : α), motive l → motive (l ++ [a])) (l : List α) : motive l := by
  have h : ∀ r : List α, motive r.reverse := fun r => by
    induction r with
    | nil => exact nil
    | cons a t ih => rw [List.reverse_cons]; exact snoc _ _ ih
  have := h l.reverse
  rwa [List.reverse_reverse] at this
structure StoD where
  txn : Int
  client : Int
  fate : Int
  wrote : Bool
def StoD.cells (s : StoD) : List Value := [.int .i64 s.txn, .int .i64 s.client, .int .i64 s.fate, .bool s.wrote]
theorem StoD.cells_length (s : StoD) : s.cells.length = 4 := rfl
theorem stos_one (l : List StoD) : ∀ u ∈ l.flatMap StoD.cells, u.oneCell' = true := by
  intro u hu
  obtain ⟨x, _, hu⟩ := List.mem_flatMap.1 hu
  simp only [StoD.cells, List.mem_cons, List.not_mem_nil, or_false] at hu
  rcases hu with rfl | rfl | rfl | rfl <;> rfl
/-- The slice '.slice A n c' holds the stories l. -/
def Stos (w : World) (B : Nat) (A : Option Addr) (n : Nat) (l : List StoD) : Prop := n = l.length ∧ Reads w B 4 A n (l.flatMap StoD.cells)
section
variable {w w' : World} {B B' C n : Nat} {A : Option Addr} {l : List StoD}
theorem Stos.below (h : Stos w B A n l) (hb : Below C w w') (hC : B ≤ C) : Stos w' B A n l := ⟨h.1, h.2.below hb hC⟩
theorem Stos.more (h : Stos w B A n l) (hB : B ≤ B') : Stos w B' A n l := ⟨h.1, h.2.more hB⟩
theorem Stos.at_ {k : Nat} (h : Stos w B A n l) (hk : k < n) : ∃ b o s, A = some ⟨b, o, none⟩ ∧ b < B ∧ l[k]? = some s ∧
    w.cell? ⟨b, o + k * 4, none⟩ = some (.int .i64 s.txn) ∧ w.cell? ⟨b, o + k * 4 + 1, none⟩ = some (.int .i64 s.client) ∧ w.cell? ⟨b, o + k * 4 + 2, none⟩ = some (.int .i64 s.fate) ∧ w.cell? ⟨b, o + k * 4 + 3, none⟩ = some (.bool s.wrote) := by
  obtain ⟨rfl, hr⟩ := h
  obtain ⟨b, o, e, hb, hc⟩ := hr.plain (by omega) (by omega)
  have hat : ∀ j u, j < 4 → (l[k]).cells[j]? = some u → w.cell? ⟨b, o + k * 4 + j, none⟩ = some u := fun j u hj hu => by
    rw [Nat.add_assoc]
    refine hc _ u ?_
    rw [flat_at _ 4 StoD.cells_length _ _ _ hj, List.getElem?_eq_getElem hk]
    exact hu
  exact ⟨b, o, l[k], e, hb, List.getElem?_eq_getElem hk, hat 0 _ (by omega) rfl, hat 1 _ (by omega) rfl, hat 2 _ (by omega) rfl, hat 3 _ (by omega) rfl⟩
end

/-- The first of each number. -/
def uniq (l : List StoD) : List StoD := l.foldl (fun acc s => if s.txn ∈ acc.map StoD.txn then acc else acc ++ [s]) []
theorem uniq_snoc (l : List StoD) (s : StoD) : uniq (l ++ [s]) = if s.txn ∈ (uniq l).map StoD.txn then uniq l else uniq l ++ [s] := by
  unfold uniq
  rw [List.foldl_append]
  rfl
theorem uniq_mem (l : List StoD) (t : Int) : t ∈ (uniq l).map StoD.txn ↔ t ∈ l.map StoD.txn := by
  induction l using snocRec with
  | nil => exact Iff.rfl
  | snoc l s ih =>
    rw [uniq_snoc]
    split
    · rename_i h
      rw [ih, List.map_append, List.mem_append]
      refine ⟨.inl, ?_⟩
      rintro (h1 | h1)
      · exact h1
      · simp only [List.map_cons, List.map_nil, List.mem_singleton] at h1
        subst h1
        exact ih.1 h
    · rw [List.map_append, List.map_append, List.mem_append, List.mem_append, ih]
theorem uniq_nodup (l : List StoD) : ((uniq l).map StoD.txn).Nodup := by
  induction l using snocRec with
  | nil => exact List.nodup_nil
  | snoc l s ih =>
    rw [uniq_snoc]
    split
    · exact ih
    · rename_i h
      rw [List.map_append, List.nodup_append]
      refine ⟨ih, by simp, fun a ha b hb => ?_⟩
      simp only [List.map_cons, List.map_nil, List.mem_singleton] at hb
      rintro rfl
      subst hb
      exact h ha
theorem uniq_len (l : List StoD) : (uniq l).length ≤ l.length := by
  induction l using snocRec with
  | nil => exact Nat.le_refl _
  | snoc l s ih =>
    rw [uniq_snoc]
    split
    · rw [List.length_append]; omega
    · rw [List.length_append, List.length_append]; omega

/-- What an event does to the story of its transaction. -/
def rupd (s : StoD) (d : EvD) : StoD := ⟨s.txn, s.client, if 2 ≤ d.act ∧ d.act ≤ 4 then d.act - 1 else s.fate, s.wrote || (d.act == 1 && d.op.act != 0 && d.err == 0)⟩
theorem rupd_out {s : StoD} {d : EvD} (h : d.act ∉ [(1 : Int), 2, 3, 4]) : rupd s d = s := by
  simp only [List.mem_cons, List.not_mem_nil, or_false, not_or] at h
  obtain ⟨h1, h2, h3, h4⟩ := h
  unfold rupd
  have e1 : (d.act == 1) = false := by simpa using h1
  rw [if_neg (by omega), e1]
  simp
/-- What becomes of a story by events. -/
def fold (s : StoD) (l : List EvD) : StoD := (l.filter (fun d => d.txn == s.txn)).foldl rupd s
theorem foldl_txn (l : List EvD) : ∀ s, (l.foldl rupd s).txn = s.txn ∧ (l.foldl rupd s).client = s.client := by
  induction l with
  | nil => exact fun s => ⟨rfl, rfl⟩
  | cons d t ih => exact fun s => ⟨(ih _).1, (ih _).2⟩
theorem fold_txn (s : StoD) (l : List EvD) : (fold s l).txn = s.txn := (foldl_txn _ _).1
theorem fold_snoc (s : StoD) (l : List EvD) (d : EvD) : fold s (l ++ [d]) = if d.txn == s.txn then rupd (fold s l) d else fold s l := by
  unfold fold
  rw [List.filter_append, List.foldl_append]
  cases h : d.txn == s.txn <;> simp [h]
theorem fold_filter (s : StoD) (l : List EvD) : fold s (l.filter (fun d => decide (d.act ∈ [(1 : Int), 2, 3, 4]))) = fold s l := by
  induction l using snocRec with
  | nil => rfl
  | snoc l d ih =>
    rw [List.filter_append]
    by_cases h : d.act ∈ [(1 : Int), 2, 3, 4]
    · rw [show [d].filter (fun d => decide (d.act ∈ [(1 : Int), 2, 3, 4])) = [d] by simp only [List.filter_cons, h, decide_true, if_true, List.filter_nil], fold_snoc, fold_snoc, ih]
    · rw [show [d].filter (fun d => decide (d.act ∈ [(1 : Int), 2, 3, 4])) = [] by simp only [List.filter_cons, h, decide_false, List.filter_nil, Bool.false_eq_true, if_false], List.append_nil, fold_snoc, ih, rupd_out h]
      split <;> rfl
/-- The stories that begin. -/
def begsD (l : List EvD) : List StoD := (l.filter (fun d => d.act == 0)).map (fun d => ⟨d.txn, d.client, 0, false⟩)
theorem begsD_len (l : List EvD) : (begsD l).length ≤ l.length := by
  unfold begsD
  rw [List.length_map]
  exact List.length_filter_le _ _
/-- P33.1. -/
def storiesD (l : List EvD) : List StoD := (uniq (begsD l)).map (fun s => fold s l)
theorem storiesD_len (l : List EvD) : (storiesD l).length ≤ l.length := by
  unfold storiesD
  rw [List.length_map]
  exact Nat.le_trans (uniq_len _) (begsD_len _)
/-- The stories us behind the events l. -/
def stAt (us : List StoD) (l : List EvD) : List StoD := us.map (fun s => fold s l)
theorem stAt_nil (us : List StoD) : stAt us [] = us := by
  unfold stAt
  conv => rhs; rw [← List.map_id us]
  rfl
theorem stAt_txn (us : List StoD) (l : List EvD) : (stAt us l).map StoD.txn = us.map StoD.txn := by
  unfold stAt
  rw [List.map_map]
  congr 1
  funext s
  exact fold_txn s l
theorem stAt_far {us : List StoD} {l : List EvD} {d : EvD} (h : d.txn ∉ us.map StoD.txn) : stAt us (l ++ [d]) = stAt us l := by
  unfold stAt
  apply List.map_congr_left
  intro s hs
  rw [fold_snoc, if_neg]
  intro e
  have : d.txn = s.txn := by simpa using e
  exact h (this ▸ List.mem_map.2 ⟨s, hs, rfl⟩)
theorem stAt_at {us : List StoD} {l : List EvD} {d : EvD} {i : Nat} {s : StoD} (hn : (us.map StoD.txn).Nodup) (hi : us[i]? = some s) (h : d.txn = s.txn) : stAt us (l ++ [d]) = (stAt us l).set i (rupd (fold s l) d) := by
  apply List.ext_getElem?
  intro j
  unfold stAt
  rw [List.getElem?_set]
  simp only [List.getElem?_map, List.length_map]
  obtain ⟨hil, hie⟩ := List.getElem?_eq_some_iff.1 hi
  by_cases hij : i = j
  · subst hij
    rw [if_pos rfl, if_pos hil, hi]
    simp only [Option.map_some]
    rw [fold_snoc, if_pos (by simpa using h)]
  · rw [if_neg hij]
    cases hj : us[j]? with
    | none => rfl
    | some s2 =>
      simp only [Option.map_some]
      rw [fold_snoc, if_neg]
      intro e
      have e2 : d.txn = s2.txn := by simpa using e
      obtain ⟨hjl, hje⟩ := List.getElem?_eq_some_iff.1 hj
      have hp := List.pairwise_iff_getElem.1 hn
      have ei : (us.map StoD.txn)[i]'(by simpa using hil) = s.txn := by simp [hie]
      have ej : (us.map StoD.txn)[j]'(by simpa using hjl) = s2.txn := by simp [hje]
      rcases Nat.lt_or_gt_of_ne hij with hlt | hlt
      · exact hp i j (by simpa using hil) (by simpa using hjl) hlt (by rw [ei, ej, ← h, ← e2])
      · exact hp j i (by simpa using hjl) (by simpa using hil) hlt (by rw [ei, ej, ← h, ← e2])
end Go.Proofs.YteidmdnhkgcnoaaGreat
namespace Go.Proofs.YteidmdnhkgcnoaaGreat
open Go.RowKit Go.Maps

def stoA (s : StoD) : Value := .agg #[.int .i64 s.txn, .int .i64 s.client, .int .i64 s.fate, .bool s.wrote]
theorem storyTxn_any (t c f : Int) (b : Bool) (w : World) : Calls Tryz.prog 48 #[.agg #[.int .i64 t, .int .i64 c, .int .i64 f, .bool b]] w fun e w' => e = .returned (.int .i64 t) ∧ Below w.heap.size w w' := by
  go_enter Tryz.func48, Tryz.ntmps48
  go_wp2
  go_ret
  exact ⟨rfl, (Below.refl _ _).alloc (Nat.le_refl _) _⟩

theorem ownsMap_viaB {P : Program} {k : TypeId} {R : Value → Option (DataW Unit × List MemPlace)} {W W' : World} {b n : Nat} {D : DataW Unit} (h : W.ownsMap P k R b n D) (hb : Below W.heap.size W W') : W'.ownsMap P k R b n D := by
  have hl := h.lt
  obtain ⟨es, clock, he, r⟩ := h
  exact ⟨es, clock, (hb.block b hl).trans he, r⟩

/-- The places of the numbers of l, in a map. -/
def PlcPost (w : World) (l : List Int) (e : Ending) (w' : World) : Prop :=
  ∃ (mp n : Nat) (D : DataW Unit), e = .returned (.map (some mp)) ∧ n ≤ l.length ∧ w'.ownsMap Tryz.prog 3 (plainElem Tryz.prog 3) mp n D ∧ RankMap D l ∧ Below w.heap.size w w' ∧ w.heap.size ≤ mp

set_option maxHeartbeats 1600000 in
theorem places_any (A : Option Addr) (n c : Nat) (l : List StoD) (B : Nat) (w : World) (hB : B ≤ w.heap.size) (hn : n ≤ 1000000) (h : Stos w B A n l) (hwf : ∀ s ∈ l, wfI s.txn) :
    Calls Tryz.prog 49 #[.slice A n c, .func (.func 48) #[] #[]] w (PlcPost w (l.map StoD.txn)) := by
  have HL := hide h.1
  have HWF := hide hwf
  clear hwf
  have hmm := run_makeMap_hint (P := Tryz.prog) 82 3 3 .i64 (n : Int) Tryz.underlying82
  go_enter Tryz.func49, Tryz.ntmps49
  go_wp2
  go_loopw [15] (fun i wr => ∃ (k : Nat) (D : DataW Unit), k ≤ n ∧ i = .int .i64 k ∧ wr.ownsMap Tryz.prog 3 (plainElem Tryz.prog 3) w.heap.size k D ∧ RankMap D ((l.map StoD.txn).take k) ∧ Below w.heap.size w wr) (fun i _ => n - (intOf i).toNat)
  case atStart => exact ⟨0, .map [], Nat.zero_le _, rfl, World.ownsMap_made _ _ _ _, by simpa using RankMap.start, (Below.refl _ _).alloc (Nat.le_refl _) _⟩
  case round =>
    obtain ⟨k, D, hk, rfl, hown, hrm, hbw⟩ := hrel
    have HRM := hide hrm
    clear hrm
    have hz := hbw.size
    by_cases hlt : k < n
    · obtain ⟨b, o, s, rfl, hb, hs, c0, c1, c2, c3⟩ := (h.below hbw hB).at_ hlt
      have hwy : wfI s.txn := HWF.out s (List.mem_of_getElem? hs)
      have hst : (l.map StoD.txn)[k]? = some s.txn := by rw [List.getElem?_map, hs]; rfl
      have HY := hide hst
      have HWY := hide hwy
      clear hs hst hwy
      obtain ⟨t, cl, fa, wro⟩ := s
      dsimp only at *
      have s1 : (k : Int) < n := by omega
      have s2 : (0 : Int) ≤ k := by omega
      have hbz : b < wr.heap.size := by omega
      go_upto_region 5 with fail
      refine gen1 (fun W k0 hbW hzW => ?_)
      have hownW := ownsMap_viaB hown hbW
      have hbw1 := below_via hbw hbW hz
      have q0 := k0.cell
      have l0 := k0.lt
      clear c0 c1 c2 c3
      cases hin : Maps.has D (.int .i64 t)
      · go_wp2_with fail
        refine (storyTxn_any _ _ _ _ _).mono ?_
        rintro e W2 ⟨rfl, hb2⟩
        have k2 := Blk.via hb2 k0
        have hown2 := ownsMap_viaB hownW hb2
        have hbw2 := below_via hbw1 hb2 hbw1.size
        have q2 := k2.cell
        have l2 := k2.lt
        clear q0
        go_wp2_with (at_lookup; refine wpList_lookup_own_ok_int _ rfl _ _ 82 rfl 3 3 .i64 law_int Tryz.underlying82 Tryz.underlying3 (zero_int _) w.heap.size k D rfl hown2 _ _ rfl (keyOf_int_mk Tryz.underlying3 HWY.out) ?_; intro cc hat hwc; rw [hin]; clear hat hwc)
        refine (storyTxn_any _ _ _ _ _).mono ?_
        rintro e W3 ⟨rfl, hb3⟩
        have hown3 := ownsMap_viaB hown2 hb3
        have hbw3 := below_via hbw2 hb3 hbw2.size
        clear q2
        go_wp2_with (at_mapUpdate; refine wpList_mapUpdate_own _ rfl _ _ _ 82 rfl 3 3 law_int Tryz.underlying82 _ w.heap.size k _ rfl hown3 (by unfold maxLen; omega) _ _ _ rfl rfl (keyOf_int_mk Tryz.underlying3 HWY.out) _ [] (plainElem_int Tryz.underlying3 (WalkArith.wf_i64 (by omega))) ?_; intro w1 hown1 hgrow1)
        go_roundw
        case rel =>
          have hnot : t ∉ (l.map StoD.txn).take k := by have := (HRM.out t).1; rw [hin] at this; simpa using this
          have hlk : ((l.map StoD.txn).take k).length = k := by rw [List.length_take, List.length_map]; have := HL.out; omega
          have hnew := HRM.out.new hown3.isMap hnot
          rw [hlk, ← take_snoc' HY.out] at hnew
          exact ⟨k + 1, _, by omega, by go_num, hown1, hnew, hbw3.grown hgrow1 hbw3.size (fun j hj => by cases hj; exact Nat.le_refl _)⟩
        case measure => simp [intOf]; omega
      · go_wp2_with fail
        refine (storyTxn_any _ _ _ _ _).mono ?_
        rintro e W2 ⟨rfl, hb2⟩
        have hown2 := ownsMap_viaB hownW hb2
        have hbw2 := below_via hbw1 hb2 hbw1.size
        clear q0
        go_wp2_with (at_lookup; refine wpList_lookup_own_ok_int _ rfl _ _ 82 rfl 3 3 .i64 law_int Tryz.underlying82 Tryz.underlying3 (zero_int _) w.heap.size k D rfl hown2 _ _ rfl (keyOf_int_mk Tryz.underlying3 HWY.out) ?_; intro cc hat hwc; rw [hin]; clear hat hwc)
        go_roundw
        case rel =>
          have hmem : t ∈ (l.map StoD.txn).take k := by have := (HRM.out t).1; rw [hin] at this; simpa using this
          have hnew := HRM.out.old hmem
          rw [← take_snoc' HY.out] at hnew
          exact ⟨k + 1, D, by omega, by go_num, hown2.mono (by omega), hnew, hbw2⟩
        case measure => simp [intOf]; omega
    · obtain rfl : k = n := by omega
      have hrm : RankMap D (l.map StoD.txn) := by have := HRM.out; rwa [List.take_of_length_le (by rw [List.length_map]; have := HL.out; omega)] at this
      go_wp2
      go_ret
      exact ⟨_, _, D, rfl, by rw [List.length_map]; have := HL.out; omega, hown, hrm, hbw, Nat.le_refl _⟩

def stoZ : Array Value := #[.int .i64 0, .int .i64 0, .int .i64 0, .bool false]
theorem info_sto : (Tryz.prog.info? 64).map (fun i => (i.zero, i.size, i.bytes)) = some (some (.agg stoZ), 4, 32) := by kernel_rfl
/-- Stories in a row of the call's own. -/
def StoRow (w : World) (l : List StoD) (e : Ending) (w' : World) : Prop :=
  ∃ v, e = .returned v ∧ w'.ownsRow w.heap.size 64 4 v l.length (l.flatMap StoD.cells) ∧ Below w.heap.size w w'
theorem plc_at {l : List Int} {k : Nat} {t : Int} (h : l[k]? = some t) : (t ∈ l.take k → (plc l t == (k : Int)) = false) ∧ (t ∉ l.take k → (plc l t == (k : Int)) = true) := by
  constructor
  · intro hm
    obtain ⟨hk, _⟩ := List.getElem?_eq_some_iff.1 h
    have h1 := plc_le (l.take k) t
    have h2 : plc l t = plc (l.take k) t := by
      have : ∀ r : List Int, plc (l.take k ++ r) t = plc (l.take k) t := fun r => by
        induction r using snocRec with
        | nil => rw [List.append_nil]
        | snoc r y ih => rw [← List.append_assoc, plc_snoc_mem y (List.mem_append_left _ hm), ih]
      conv => lhs; rw [← List.take_append_drop k l]
      exact this _
    obtain ⟨j, hj, e⟩ := List.getElem_of_mem hm
    have hjk : j < k := by rw [List.length_take] at hj; omega
    have h3 : plc l t ≤ j := by
      rw [h2]
      unfold plc
      split
      · rename_i i hi
        unfold List.idxOf? at hi
        rw [List.findIdx?_eq_some_iff_getElem] at hi
        obtain ⟨h4, h5, h6⟩ := hi
        apply Classical.byContradiction
        intro hn
        have := h6 j (by omega)
        simp [e] at this
      · omega
    rw [beq_eq_false_iff_ne]
    omega
  · intro hm
    rw [plc_some h (fun j hj e => hm (by
      rw [List.mem_iff_getElem?]
      exact ⟨j, by rw [List.getElem?_take, if_pos hj, e]⟩))]
    simp

set_option maxRecDepth 100000 in
set_option maxHeartbeats 1600000 in
theorem unique_any (A : Option Addr) (n c : Nat) (l : List StoD) (B : Nat) (w : World) (hB : B ≤ w.heap.size) (hn : n ≤ 1000000) (h : Stos w B A n l) (hwf : ∀ s ∈ l, wfI s.txn) :
    Calls Tryz.prog 47 #[.slice A n c, .func (.func 48) #[] #[]] w (StoRow w (uniq l)) := by
  have HL := hide h.1
  have HWF := hide hwf
  have HPL := hide (places_any A n c l B w hB hn h hwf)
  obtain ⟨i0, hi, hz0, hz1, hz2⟩ := info_parts info_sto
  clear hwf
  go_enter Tryz.func47, Tryz.ntmps47
  go_wp2_with fail
  refine HPL.out.mono ?_
  rintro e w1 ⟨mp, N, D, rfl, hNl, hown0, hrm, hb1, hmp⟩
  have HRM := hide hrm
  clear hrm HPL
  go_wp2
  go_loopw [6, 14] (fun v i wr => ∃ k : Nat, k ≤ n ∧ i = .int .i64 k ∧ wr.ownsRow w1.heap.size 64 4 v (uniq (l.take k)).length ((uniq (l.take k)).flatMap StoD.cells) ∧ Below w1.heap.size w1 wr) (fun _ i _ => n - (intOf i).toNat)
  case atStart => exact ⟨0, Nat.zero_le _, rfl, World.ownsRow_nil _ _ _ _, Below.refl _ _⟩
  case round =>
    obtain ⟨k, hk, rfl, hrow, hbw⟩ := hrel
    have hz := hbw.size
    have hz1 := hb1.size
    by_cases hlt : k < n
    · obtain ⟨b, o, s, rfl, hb, hs, c0, c1, c2, c3⟩ := (h.below (below_via hb1 hbw hz1) hB).at_ hlt
      have hwy : wfI s.txn := HWF.out s (List.mem_of_getElem? hs)
      have hst : (l.map StoD.txn)[k]? = some s.txn := by rw [List.getElem?_map, hs]; rfl
      have HY := hide hs
      have HWY := hide hwy
      have hpa := plc_at hst
      rw [← List.map_take] at hpa
      have hsn : uniq (l.take (k + 1)) = if s.txn ∈ (l.take k).map StoD.txn then uniq (l.take k) else uniq (l.take k) ++ [s] := by
        rw [take_snoc' hs, uniq_snoc]
        simp only [uniq_mem]
      have HSN := hide hsn
      have HCC := hide (fun (c : Int) (hc : D.atKey (.int .i64 s.txn) (.lit (.int .i64 0)) = .lit (.int .i64 c)) => show c = plc (l.map StoD.txn) s.txn by
        have h1 := (HRM.out s.txn).2 (List.mem_of_getElem? hst)
        rw [hc] at h1
        injection h1 with h1
        injection h1)
      have HPA := hide hpa
      clear hs hst hwy hpa hsn
      generalize plc (l.map StoD.txn) s.txn = P1 at *
      obtain ⟨t, cl, fa, wro⟩ := s
      dsimp only at *
      have s1 : (k : Int) < n := by omega
      have s2 : (0 : Int) ≤ k := by omega
      have hbz : b < wr.heap.size := by omega
      have hul : (uniq (l.take k)).length ≤ k := Nat.le_trans (uniq_len _) (List.length_take_le _ _)
      go_upto_region 6 with fail
      refine gen1 (fun W k0 hbW hzW => ?_)
      have hownW := ownsMap_viaB hown0 (hbw.trans (hbW.mono hz))
      have hbw1 := below_via hbw hbW hz
      have hrow1 := row_keep hrow (fun q hq => hbW.block q (World.ownsRow.lt hrow q hq).2)
      have q0 := k0.cell
      have l0 := k0.lt
      clear c0 c1 c2 c3
      by_cases hin : t ∈ (l.take k).map StoD.txn
      · have t1 : (P1 == (k : Int)) = false := HPA.out.1 hin
        have HIN := hide hin
        clear hin
        go_wp2_with fail
        refine (storyTxn_any _ _ _ _ _).mono ?_
        rintro e W2 ⟨rfl, hb2⟩
        have hown2 := ownsMap_viaB hownW hb2
        have hbw2 := below_via hbw1 hb2 hbw1.size
        clear q0
        go_wp2_with (at_lookup; refine wpList_lookup_own_int _ rfl _ _ 82 rfl 3 3 .i64 law_int Tryz.underlying82 Tryz.underlying3 (zero_int _) mp N D rfl hown2 _ _ rfl (keyOf_int_mk Tryz.underlying3 HWY.out) ?_; intro cc hat hwc; (obtain rfl := HCC.out cc hat); clear hat hwc)
        go_roundw
        case rel => exact ⟨k + 1, by omega, by go_num, by rw [HSN.out, if_pos HIN.out]; exact row_keep hrow1 (fun q hq => hb2.block q (World.ownsRow.lt hrow1 q hq).2), hbw2⟩
        case measure => simp [intOf]; omega
      · have t1 : (P1 == (k : Int)) = true := HPA.out.2 hin
        have HIN := hide hin
        clear hin
        obtain ⟨A3, c3', rfl, hcap3, _⟩ := own_slice hrow
        clear hcap3
        go_wp2_with fail
        refine (storyTxn_any _ _ _ _ _).mono ?_
        rintro e W2 ⟨rfl, hb2⟩
        have hown2 := ownsMap_viaB hownW hb2
        have hbw2 := below_via hbw1 hb2 hbw1.size
        have hz2' := hbw2.size
        have k2 := Blk.via hb2 k0
        have q2 := k2.cell
        have l2 := k2.lt
        have hrow2 := row_keep hrow1 (fun q hq => hb2.block q (World.ownsRow.lt hrow1 q hq).2)
        clear q0
        go_wp2_with (first
          | (at_lookup; refine wpList_lookup_own_int _ rfl _ _ 82 rfl 3 3 .i64 law_int Tryz.underlying82 Tryz.underlying3 (zero_int _) mp N D rfl hown2 _ _ rfl (keyOf_int_mk Tryz.underlying3 HWY.out) ?_; intro cc hat hwc; (obtain rfl := HCC.out cc hat); clear hat hwc)
          | (at_builtin; refine wpList_append_any _ rfl (.tmp 26) (.tmp 28) _ rfl w1.heap.size 64 i0 _ 4 32 Tryz.underlying61 hi hz0 ‹i0.size = 4› hz2 rfl (by omega) _ _ _ rfl (hrow2.alloc _) (W2.heap.size + 1) (some ⟨W2.heap.size, 0, none⟩) 1 1 (StoD.cells ⟨t, cl, fa, wro⟩) rfl (Reads.of_blk (n := 1) (size := 4) (Blk.new _ _ _) rfl) (by simpa using stos_one [⟨t, cl, fa, wro⟩]) (by unfold maxLen; omega) (by omega) (by simp; omega) ?_))
        intro v' w4 hown4 hg hat
        have hr0 := (World.ownsRow.lt hrow2)
        go_wp2
        go_roundw
        case rel =>
          refine ⟨k + 1, by omega, by go_num, ?_, ?_⟩
          · rw [HSN.out, if_neg HIN.out]
            simpa using hown4
          · exact (hbw2.alloc hz2' _).grown hg (by simp; omega) (fun q hq => (hr0 q hq).1)
        case measure => simp [intOf]; omega
    · obtain rfl : k = n := by omega
      rw [List.take_of_length_le (by have := HL.out; omega)] at hrow
      go_wp2
      go_ret
      exact ⟨_, rfl, row_low hrow hz1, below_via hb1 hbw hz1⟩
end Go.Proofs.YteidmdnhkgcnoaaGreat
