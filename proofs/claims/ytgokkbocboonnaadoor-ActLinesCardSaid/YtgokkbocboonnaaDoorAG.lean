/-
  SCRIPTS AS TEXTS AND BACK, plainly (P31.3, P31.4, P31.5). No program.
-/
import Derived.Test.YtgokkbocboonnaaDoorAF
namespace Go.Proofs.YtgokkbocboonnaaDoor
open Go.RowKit Go.Lib

theorem cut_len10 (l : List UInt8) (c : UInt8) : ((Lib.cut l [c]).2.2 = true → (Lib.cut l [c]).2.1.length + 1 ≤ l.length) ∧ ((Lib.cut l [c]).2.2 = false → (Lib.cut l [c]).2.1 = []) := by
  unfold Lib.cut
  split
  · rename_i h
    have := Lib.index_room l [c] h
    simp at this
    refine ⟨fun _ => ?_, fun h => by cases h⟩
    simp
    omega
  · exact ⟨fun h => (by cases h), fun _ => rfl⟩
theorem cut_rest {l : List UInt8} (c : UInt8) (h : l ≠ []) : (Lib.cut l [c]).2.1.length < l.length := by
  have h1 := cut_len10 l c
  have h2 := List.length_pos_iff.2 h
  cases hb : (Lib.cut l [c]).2.2
  · rw [h1.2 hb]
    exact h2
  · have := h1.1 hb
    omega
/-- The lines of a text, and whether each is whole. -/
def lines' : Nat → List UInt8 → List (List UInt8 × Bool)
  | 0, _ => []
  | f + 1, l => if l = [] then [] else ((Lib.cut l [10]).1, (Lib.cut l [10]).2.2) :: lines' f (Lib.cut l [10]).2.1
theorem lines'_fuel : ∀ (f g : Nat) (l : List UInt8), l.length < f → l.length < g → lines' f l = lines' g l
  | 0, _, _, h, _ => absurd h (by omega)
  | _, 0, _, _, h => absurd h (by omega)
  | f + 1, g + 1, l, h, h' => by
    unfold lines'
    by_cases hl : l = []
    · rw [if_pos hl, if_pos hl]
    · have := cut_rest 10 hl
      rw [if_neg hl, if_neg hl, lines'_fuel f g _ (by omega) (by omega)]
def linesD (l : List UInt8) : List (List UInt8 × Bool) := lines' (l.length + 1) l
theorem linesD_nil : linesD [] = [] := rfl
theorem linesD_step {l : List UInt8} (h : l ≠ []) : linesD l = ((Lib.cut l [10]).1, (Lib.cut l [10]).2.2) :: linesD (Lib.cut l [10]).2.1 := by
  have := cut_rest 10 h
  unfold linesD
  rw [lines', if_neg h, lines'_fuel l.length ((Lib.cut l [10]).2.1.length + 1) _ (by omega) (by omega)]
theorem linesD_hit {t r : List UInt8} (h : (10 : UInt8) ∉ t) : linesD (t ++ 10 :: r) = (t, true) :: linesD r := by
  rw [linesD_step (by simp), cut_hit h]
theorem linesD_miss {t : List UInt8} (h : (10 : UInt8) ∉ t) (h0 : t ≠ []) : linesD t = [(t, false)] := by
  rw [linesD_step h0, cut_miss h]
  rfl
theorem linesD_len (l : List UInt8) : (linesD l).length ≤ l.length := by
  have : ∀ (n : Nat) (l : List UInt8), l.length = n → (linesD l).length ≤ l.length := by
    intro n
    induction n using Nat.strongRecOn with
    | ind n ih =>
      intro l hl
      by_cases h : l = []
      · subst h; simp [linesD_nil]
      · have hr := cut_rest 10 h
        have := ih _ (by omega) (Lib.cut l [10]).2.1 rfl
        rw [linesD_step h, List.length_cons]
        omega
  exact this _ l rfl
/-- What act.Read reads of lines. -/
def readL : List (List UInt8 × Bool) → Option (List ActD)
  | [] => some []
  | (x, b) :: r => if b = false then none else match parseD x with | none => none | some a => (readL r).map (a :: ·)
def readD (s : List UInt8) : Option (List ActD) := readL (linesD s)
/-- What act.Print tells. -/
def scriptT (l : List ActD) : List UInt8 := l.flatMap fun a => actT a ++ [10]
def printD (l : List ActD) : Option (List UInt8) := if l.all isActB = true then some (scriptT l) else none
theorem scriptT_append (l m : List ActD) : scriptT (l ++ m) = scriptT l ++ scriptT m := by simp [scriptT]
theorem scriptT_cons (a : ActD) (l : List ActD) : scriptT (a :: l) = actT a ++ 10 :: scriptT l := by simp [scriptT]
theorem actT_line {a : ActD} (h : isActB a = true) : (10 : UInt8) ∉ actT a := by
  rw [← actW_join]
  have hc := actW_clear h
  generalize actW a = ws at hc
  intro hm
  have : ∀ (ws : List (List UInt8)), (∀ w ∈ ws, Clear w) → (10 : UInt8) ∉ joinW ws := by
    intro ws
    induction ws with
    | nil => intro _ h; cases h
    | cons w r ih =>
      intro hc h
      cases r with
      | nil => have := hc w (by simp) 10 h; simp at this
      | cons v r =>
        rw [joinW_cons w (by simp), List.mem_append, List.mem_cons] at h
        rcases h with h | h | h
        · have := hc w (by simp) 10 h; simp at this
        · cases h
        · exact ih (fun x hx => hc x (List.mem_cons_of_mem _ hx)) h
  exact this ws hc hm
theorem actT_ne {a : ActD} : actT a ≠ [] := by
  unfold actT
  repeat' split
  all_goals simp
theorem readD_print : ∀ {l : List ActD}, (∀ a ∈ l, isActB a = true ∧ ActIn a) → readD (scriptT l) = some (l.map plainAct)
  | [], _ => rfl
  | a :: l, h => by
    have ha := h a List.mem_cons_self
    have ih := readD_print (l := l) (fun x hx => h x (List.mem_cons_of_mem _ hx))
    unfold readD at ih ⊢
    rw [scriptT_cons, linesD_hit (actT_line ha.1)]
    simp only [readL, parseD_act ha.1 ha.2, ih]
    rfl
theorem cut_whole {l : List UInt8} (h : (Lib.cut l [10]).2.2 = true) : l = (Lib.cut l [10]).1 ++ 10 :: (Lib.cut l [10]).2.1 := by
  by_cases hm : (10 : UInt8) ∈ l
  · obtain ⟨a, r, rfl, hn⟩ : ∃ a r, l = a ++ 10 :: r ∧ (10 : UInt8) ∉ a := by
      clear h
      induction l with
      | nil => cases hm
      | cons x t ih =>
        by_cases hx : x = 10
        · subst hx; exact ⟨[], t, rfl, by simp⟩
        · have ht : (10 : UInt8) ∈ t := by
            rcases List.mem_cons.1 hm with e | e
            · exact absurd e.symm hx
            · exact e
          obtain ⟨a, r, e, hn⟩ := ih ht
          exact ⟨x :: a, r, by rw [e]; rfl, by simp [hn]; exact fun e => hx e.symm⟩
    rw [cut_hit hn]
  · rw [cut_miss hm] at h
    cases h
theorem readD_some {s : List UInt8} {l : List ActD} (h : readD s = some l) : scriptT l = s ∧ ∀ a ∈ l, isActB a = true ∧ plainAct a = a := by
  have : ∀ (n : Nat) (s : List UInt8) (l : List ActD), s.length = n → readD s = some l → scriptT l = s ∧ ∀ a ∈ l, isActB a = true ∧ plainAct a = a := by
    intro n
    induction n using Nat.strongRecOn with
    | ind n ih =>
      intro s l hs h
      by_cases h0 : s = []
      · subst h0
        simp only [readD, linesD_nil, readL, Option.some.injEq] at h
        subst h
        exact ⟨rfl, fun a ha => by cases ha⟩
      · have hr := cut_rest 10 h0
        unfold readD at h
        rw [linesD_step h0] at h
        simp only [readL] at h
        cases hb : (Lib.cut s [10]).2.2
        · rw [hb] at h; cases h
        · rw [hb] at h
          simp only [Bool.true_eq_false, if_false] at h
          cases hp : parseD (Lib.cut s [10]).1 with
          | none => rw [hp] at h; cases h
          | some a =>
            rw [hp] at h
            cases hq : readL (linesD (Lib.cut s [10]).2.1) with
            | none => simp only [hq] at h; cases h
            | some t =>
              simp only [hq, Option.map_some, Option.some.injEq] at h
              subst h
              obtain ⟨e1, e2⟩ := ih _ (by omega) (Lib.cut s [10]).2.1 t rfl hq
              obtain ⟨_, nm, w, hw, hof, hB, hT⟩ := parseD_some hp
              have hpl := actOfD_plain hof
              refine ⟨?_, fun x hx => ?_⟩
              · rw [scriptT_cons, hT, e1]
                exact (cut_whole hb).symm
              · rcases List.mem_cons.1 hx with rfl | hx
                · exact ⟨hB, hpl⟩
                · exact e2 x hx
  exact this _ s l rfl h
/-- A text that was cut is a script just if it was cut behind a line. -/
theorem readD_cut : ∀ {l : List ActD} (c : Nat), (∀ a ∈ l, isActB a = true ∧ ActIn a) → 1 ≤ c → (hc : c ≤ (scriptT l).length) → (readD ((scriptT l).take c)).isSome = decide ((scriptT l)[c - 1]? = some 10)
  | [], c, _, h1, h2 => by simp [scriptT] at h2; omega
  | a :: l, c, h, h1, h2 => by
    have ha := h a List.mem_cons_self
    have hn := actT_line ha.1
    have h2' := h2
    rw [scriptT_cons] at h2' ⊢
    simp only [List.length_append, List.length_cons] at h2'
    rcases Nat.lt_or_ge (actT a).length c with hlt | hge
    · obtain ⟨d, rfl⟩ : ∃ d, c = (actT a).length + 1 + d := ⟨c - (actT a).length - 1, by omega⟩
      have e1 : (actT a ++ 10 :: scriptT l).take ((actT a).length + 1 + d) = actT a ++ 10 :: (scriptT l).take d := by
        rw [List.take_append, List.take_of_length_le (by omega), show (actT a).length + 1 + d - (actT a).length = d + 1 by omega, List.take_succ_cons]
      rw [e1]
      unfold readD
      rw [linesD_hit hn]
      simp only [readL, parseD_act ha.1 ha.2]
      rw [List.getElem?_append_right (by omega), show (actT a).length + 1 + d - 1 - (actT a).length = d by omega]
      cases d with
      | zero => rfl
      | succ d =>
        have ih := readD_cut (l := l) (d + 1) (fun x hx => h x (List.mem_cons_of_mem _ hx)) (by omega) (by omega)
        unfold readD at ih
        rw [List.getElem?_cons_succ]
        simp only [Nat.add_sub_cancel] at ih
        rw [← ih]
        cases readL (linesD ((scriptT l).take (d + 1))) <;> rfl
    · have e1 : (actT a ++ 10 :: scriptT l).take c = (actT a).take c := by
        rw [List.take_append, show c - (actT a).length = 0 by omega]
        simp
      have hn' : (10 : UInt8) ∉ (actT a).take c := fun hm => hn (List.mem_of_mem_take hm)
      have hne : (actT a).take c ≠ [] := fun e => by
        have := congrArg List.length e
        have hp := List.length_pos_iff.2 (actT_ne (a := a))
        rw [List.length_take, List.length_nil] at this
        omega
      rw [e1]
      unfold readD
      rw [linesD_miss hn' hne]
      have hlt : c - 1 < (actT a).length := by omega
      rw [List.getElem?_append_left hlt, List.getElem?_eq_getElem hlt]
      have : (actT a)[c - 1] ≠ 10 := fun e => hn (e ▸ List.getElem_mem hlt)
      simp [readL, this]
end Go.Proofs.YtgokkbocboonnaaDoor
