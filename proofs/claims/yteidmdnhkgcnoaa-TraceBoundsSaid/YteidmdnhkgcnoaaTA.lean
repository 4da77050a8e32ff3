/-
  STORIES, plainly (P33.1), and how []api.Story lies in memory.
-/
import Derived.Test.YteidmdnhkgcnoaaMem
namespace Go.Proofs.Yteidmdnhkgcnoaa
open Go.RowKit

theorem snocRec {α : Type} {motive : List α → Prop} (nil : motive []) (snoc : ∀ (l : List α) (a : α), motive l → motive (l ++ [a])) (l : List α) : motive l := by
  have h : ∀ r : List α, motive r.reverse := fun r => by
    induction r with
    | nil => exact nil
    | cons a t ih => rw [List.reverse_cons]; exact snoc _ _ ih
  have := h l.reverse
  rwa [List.reverse_reverse] at this
structure StoD where
  txn : Int
  client : Int
  fate : Int
  wrote : Bool
def StoD.cells (s : StoD) : List Value := [.int .i64 s.txn, .int .i64 s.client, .int .i64 s.fate, .bool s.wrote]
theorem StoD.cells_length (s : StoD) : s.cells.length = 4 := rfl
theorem stos_one (l : List StoD) : ∀ u ∈ l.flatMap StoD.cells, u.oneCell' = true := by
  intro u hu
  obtain ⟨x, _, hu⟩ := List.mem_flatMap.1 hu
  simp only [StoD.cells, List.mem_cons, List.not_mem_nil, or_false] at hu
  rcases hu with rfl | rfl | rfl | rfl <;> rfl
/-- The slice '.slice A n c' holds the stories l. -/
def Stos (w : World) (B : Nat) (A : Option Addr) (n : Nat) (l : List StoD) : Prop := n = l.length ∧ Reads w B 4 A n (l.flatMap StoD.cells)
section
variable {w w' : World} {B B' C n : Nat} {A : Option Addr} {l : List StoD}
theorem Stos.below (h : Stos w B A n l) (hb : Below C w w') (hC : B ≤ C) : Stos w' B A n l := ⟨h.1, h.2.below hb hC⟩
theorem Stos.more (h : Stos w B A n l) (hB : B ≤ B') : Stos w B' A n l := ⟨h.1, h.2.more hB⟩
theorem Stos.at_ {k : Nat} (h : Stos w B A n l) (hk : k < n) : ∃ b o s, A = some ⟨b, o, none⟩ ∧ b < B ∧ l[k]? = some s ∧
    w.cell? ⟨b, o + k * 4, none⟩ = some (.int .i64 s.txn) ∧ w.cell? ⟨b, o + k * 4 + 1, none⟩ = some (.int .i64 s.client) ∧ w.cell? ⟨b, o + k * 4 + 2, none⟩ = some (.int .i64 s.fate) ∧ w.cell? ⟨b, o + k * 4 + 3, none⟩ = some (.bool s.wrote) := by
  obtain ⟨rfl, hr⟩ := h
  obtain ⟨b, o, e, hb, hc⟩ := hr.plain (by omega) (by omega)
  have hat : ∀ j u, j < 4 → (l[k]).cells[j]? = some u → w.cell? ⟨b, o + k * 4 + j, none⟩ = some u := fun j u hj hu => by
    rw [Nat.add_assoc]
    refine hc _ u ?_
    rw [flat_at _ 4 StoD.cells_length _ _ _ hj, List.getElem?_eq_getElem hk]
    exact hu
  exact ⟨b, o, l[k], e, hb, List.getElem?_eq_getElem hk, hat 0 _ (by omega) rfl, hat 1 _ (by omega) rfl, hat 2 _ (by omega) rfl, hat 3 _ (by omega) rfl⟩
end

/-- The first of each number. -/
def uniq (l : List StoD) : List StoD := l.foldl (fun acc s => if s.txn ∈ acc.map StoD.txn then acc else acc ++ [s]) []
theorem uniq_snoc (l : List StoD) (s : StoD) : uniq (l ++ [s]) = if s.txn ∈ (uniq l).map StoD.txn then uniq l else uniq l ++ [s] := by
  unfold uniq
  rw [List.foldl_append]
  rfl
theorem uniq_mem (l : List StoD) (t : Int) : t ∈ (uniq l).map StoD.txn ↔ t ∈ l.map StoD.txn := by
  induction l using snocRec with
  | nil => exact Iff.rfl
  | snoc l s ih =>
    rw [uniq_snoc]
    split
    · rename_i h
      rw [ih, List.map_append, List.mem_append]
      refine ⟨.inl, ?_⟩
      rintro (h1 | h1)
      · exact h1
      · simp only [List.map_cons, List.map_nil, List.mem_singleton] at h1
        subst h1
        exact ih.1 h
    · rw [List.map_append, List.map_append, List.mem_append, List.mem_append, ih]
theorem uniq_nodup (l : List StoD) : ((uniq l).map StoD.txn).Nodup := by
  induction l using snocRec with
  | nil => exact List.nodup_nil
  | snoc l s ih =>
    rw [uniq_snoc]
    split
    · exact ih
    · rename_i h
      rw [List.map_append, List.nodup_append]
      refine ⟨ih, by simp, fun a ha b hb => ?_⟩
      simp only [List.map_cons, List.map_nil, List.mem_singleton] at hb
      rintro rfl
      subst hb
      exact h ha
theorem uniq_len (l : List StoD) : (uniq l).length ≤ l.length := by
  induction l using snocRec with
  | nil => exact Nat.le_refl _
  | snoc l s ih =>
    rw [uniq_snoc]
    split
    · rw [List.length_append]; omega
    · rw [List.length_append, List.length_append]; omega

/-- What an event does to the story of its transaction. -/
def rupd (s : StoD) (d : EvD) : StoD := ⟨s.txn, s.client, if 2 ≤ d.act ∧ d.act ≤ 4 then d.act - 1 else s.fate, s.wrote || (d.act == 1 && d.op.act != 0 && d.err == 0)⟩
theorem rupd_out {s : StoD} {d : EvD} (h : d.act ∉ [(1 : Int), 2, 3, 4]) : rupd s d = s := by
  simp only [List.mem_cons, List.not_mem_nil, or_false, not_or] at h
  obtain ⟨h1, h2, h3, h4⟩ := h
  unfold rupd
  have e1 : (d.act == 1) = false := by simpa using h1
  rw [if_neg (by omega), e1]
  simp
/-- What becomes of a story by events. -/
def fold (s : StoD) (l : List EvD) : StoD := (l.filter (fun d => d.txn == s.txn)).foldl rupd s
theorem foldl_txn (l : List EvD) : ∀ s, (l.foldl rupd s).txn = s.txn ∧ (l.foldl rupd s).client = s.client := by
  induction l with
  | nil => exact fun s => ⟨rfl, rfl⟩
  | cons d t ih => exact fun s => ⟨(ih _).1, (ih _).2⟩
theorem fold_txn (s : StoD) (l : List EvD) : (fold s l).txn = s.txn := (foldl_txn _ _).1
theorem fold_snoc (s : StoD) (l : List EvD) (d : EvD) : fold s (l ++ [d]) = if d.txn == s.txn then rupd (fold s l) d else fold s l := by
  unfold fold
  rw [List.filter_append, List.foldl_append]
  cases h : d.txn == s.txn <;> simp [h]
theorem fold_filter (s : StoD) (l : List EvD) : fold s (l.filter (fun d => decide (d.act ∈ [(1 : Int), 2, 3, 4]))) = fold s l := by
  induction l using snocRec with
  | nil => rfl
  | snoc l d ih =>
    rw [List.filter_append]
    by_cases h : d.act ∈ [(1 : Int), 2, 3, 4]
    · rw [show [d].filter (fun d => decide (d.act ∈ [(1 : Int), 2, 3, 4])) = [d] by simp only [List.filter_cons, h, decide_true, if_true, List.filter_nil], fold_snoc, fold_snoc, ih]
    · rw [show [d].filter (fun d => decide (d.act ∈ [(1 : Int), 2, 3, 4])) = [] by simp only [List.filter_cons, h, decide_false, List.filter_nil, Bool.false_eq_true, if_false], List.append_nil, fold_snoc, ih, rupd_out h]
      split <;> rfl
/-- The stories that begin. -/
def begsD (l : List EvD) : List StoD := (l.filter (fun d => d.act == 0)).map (fun d => ⟨d.txn, d.client, 0, false⟩)
theorem begsD_len (l : List EvD) : (begsD l).length ≤ l.length := by
  unfold begsD
  rw [List.length_map]
  exact List.length_filter_le _ _
/-- P33.1. -/
def storiesD (l : List EvD) : List StoD := (uniq (begsD l)).map (fun s => fold s l)
theorem storiesD_len (l : List EvD) : (storiesD l).length ≤ l.length := by
  unfold storiesD
  rw [List.length_map]
  exact Nat.le_trans (uniq_len _) (begsD_len _)
/-- The stories us behind the events l. -/
def stAt (us : List StoD) (l : List EvD) : List StoD := us.map (fun s => fold s l)
theorem stAt_nil (us : List StoD) : stAt us [] = us := by
  unfold stAt
  conv => rhs; rw [← List.map_id us]
  rfl
theorem stAt_txn (us : List StoD) (l : List EvD) : (stAt us l).map StoD.txn = us.map StoD.txn := by
  unfold stAt
  rw [List.map_map]
  congr 1
  funext s
  exact fold_txn s l
theorem stAt_far {us : List StoD} {l : List EvD} {d : EvD} (h : d.txn ∉ us.map StoD.txn) : stAt us (l ++ [d]) = stAt us l := by
  unfold stAt
  apply List.map_congr_left
  intro s hs
  rw [fold_snoc, if_neg]
  intro e
  have : d.txn = s.txn := by simpa using e
  exact h (this ▸ List.mem_map.2 ⟨s, hs, rfl⟩)
theorem stAt_at {us : List StoD} {l : List EvD} {d : EvD} {i : Nat} {s : StoD} (hn : (us.map StoD.txn).Nodup) (hi : us[i]? = some s) (h : d.txn = s.txn) : stAt us (l ++ [d]) = (stAt us l).set i (rupd (fold s l) d) := by
  apply List.ext_getElem?
  intro j
  unfold stAt
  rw [List.getElem?_set]
  simp only [List.getElem?_map, List.length_map]
  obtain ⟨hil, hie⟩ := List.getElem?_eq_some_iff.1 hi
  by_cases hij : i = j
  · subst hij
    rw [if_pos rfl, if_pos hil, hi]
    simp only [Option.map_some]
    rw [fold_snoc, if_pos (by simpa using h)]
  · rw [if_neg hij]
    cases hj : us[j]? with
    | none => rfl
    | some s2 =>
      simp only [Option.map_some]
      rw [fold_snoc, if_neg]
      intro e
      have e2 : d.txn = s2.txn := by simpa using e
      obtain ⟨hjl, hje⟩ := List.getElem?_eq_some_iff.1 hj
      have hp := List.pairwise_iff_getElem.1 hn
      have ei : (us.map StoD.txn)[i]'(by simpa using hil) = s.txn := by simp [hie]
      have ej : (us.map StoD.txn)[j]'(by simpa using hjl) = s2.txn := by simp [hje]
      rcases Nat.lt_or_gt_of_ne hij with hlt | hlt
      · exact hp i j (by simpa using hil) (by simpa using hjl) hlt (by rw [ei, ej, ← h, ← e2])
      · exact hp j i (by simpa using hjl) (by simpa using hil) hlt (by rw [ei, ej, ← h, ← e2])
end Go.Proofs.Yteidmdnhkgcnoaa
