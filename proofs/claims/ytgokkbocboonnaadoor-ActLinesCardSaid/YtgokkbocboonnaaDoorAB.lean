/-
  TEXTS READ AGAIN, plainly: the words of joined words; a number's numeral; bytes by hexadecimal digits. No program.
-/
import Derived.Lib.AtoiAllCases
import Derived.Lib.ItoaMem
import Derived.Lib.IndexMore
namespace Go.Proofs.YtgokkbocboonnaaDoor
open Go.Lib

/-! ### words -/
/-- strings.Cut at one byte. -/
theorem index_one (l : List UInt8) (c : UInt8) : (c ∉ l → index l [c] = -1) ∧ (∀ a r, l = a ++ c :: r → c ∉ a → index l [c] = (a.length : Int)) := by
  induction l with
  | nil => exact ⟨fun _ => rfl, fun a r h => by cases a <;> cases h⟩
  | cons b t ih =>
    constructor
    · intro h
      have hb : c ≠ b := fun e => h (by simp [e])
      have ht : c ∉ t := fun e => h (by simp [e])
      unfold index
      rw [if_neg (by simp [List.isPrefixOf, hb]), ih.1 ht]
      rfl
    · intro a r h hc
      cases a with
      | nil =>
        simp only [List.nil_append, List.cons.injEq] at h
        obtain ⟨rfl, rfl⟩ := h
        unfold index
        rw [if_pos (by simp [List.isPrefixOf])]
        rfl
      | cons x a =>
        simp only [List.cons_append, List.cons.injEq] at h
        obtain ⟨rfl, h⟩ := h
        have hb : c ≠ b := fun e => hc (by simp [e])
        have ha : c ∉ a := fun e => hc (by simp [e])
        have hi := ih.2 a r h ha
        unfold index
        rw [if_neg (by simp [List.isPrefixOf, hb]), hi]
        have : ((a.length : Int) == -1) = false := by rw [beq_eq_false_iff_ne]; omega
        rw [this]
        simp
theorem cut_miss {l : List UInt8} {c : UInt8} (h : c ∉ l) : cut l [c] = (l, [], false) := by
  unfold cut
  rw [(index_one l c).1 h]
  simp
theorem cut_hit {a r : List UInt8} {c : UInt8} (h : c ∉ a) : cut (a ++ c :: r) [c] = (a, r, true) := by
  have hi := (index_one (a ++ c :: r) c).2 a r rfl h
  unfold cut
  rw [hi, if_pos (by omega)]
  simp
/-- The words of a text, one at least. -/
def wordsOf' : Nat → List UInt8 → List (List UInt8)
  | 0, _ => []
  | f + 1, l => if (cut l [32]).2.2 = true then (cut l [32]).1 :: wordsOf' f (cut l [32]).2.1 else [(cut l [32]).1]
def wordsT (l : List UInt8) : List (List UInt8) := wordsOf' (l.length + 1) l
/-- Words with one blank between any two. -/
def joinW : List (List UInt8) → List UInt8
  | [] => []
  | [w] => w
  | w :: v :: r => w ++ 32 :: joinW (v :: r)
theorem words_join : ∀ (ws : List (List UInt8)) (f : Nat), ws ≠ [] → (∀ w ∈ ws, (32 : UInt8) ∉ w) → ws.length ≤ f → wordsOf' f (joinW ws) = ws
  | [], _, h, _, _ => absurd rfl h
  | [w], f, _, hw, hf => by
    obtain ⟨f, rfl⟩ : ∃ g, f = g + 1 := ⟨f - 1, by simp at hf; omega⟩
    have h := cut_miss (hw w (by simp))
    simp only [joinW, wordsOf', h]
    rfl
  | w :: v :: r, f, _, hw, hf => by
    obtain ⟨f, rfl⟩ : ∃ g, f = g + 1 := ⟨f - 1, by simp at hf; omega⟩
    have h := cut_hit (a := w) (r := joinW (v :: r)) (hw w (by simp))
    simp only [joinW, wordsOf', h, if_true]
    rw [words_join (v :: r) f (by simp) (fun x hx => hw x (by simp [hx])) (by simpa using hf)]

/-! ### numbers -/
theorem parse_app (l r : List UInt8) : ∀ (acc : Nat) (v : Nat), parseUint10 acc l = .ok v → parseUint10 acc (l ++ r) = parseUint10 v r := by
  induction l with
  | nil =>
    intro acc v h
    simp only [parseUint10] at h
    injection h with h
    subst h
    rfl
  | cons c t ih =>
    intro acc v h
    simp only [List.cons_append, parseUint10] at h ⊢
    split at h
    · rename_i h1
      rw [if_pos h1]
      split at h
      · cases h
      · rename_i h2
        rw [if_neg h2]
        split at h
        · cases h
        · rename_i h3
          rw [if_neg h3]
          exact ih _ _ h
    · cases h
theorem parse_digit {acc k : Nat} (hk : k < 10) (hb : acc * 10 + k < 18446744073709551616) : parseUint10 acc [UInt8.ofNat (48 + k)] = .ok (acc * 10 + k) := by
  have h1 : (UInt8.ofNat (48 + k)).toNat = 48 + k := by simp; omega
  simp only [parseUint10, h1]
  rw [if_pos (by omega), if_neg (by omega), if_neg (by omega)]
  congr 1
  omega
theorem parse_dec (m : Nat) (h : m < 18446744073709551616) : parseUint10 0 (decDigits m) = .ok m := by
  induction m using Nat.strongRecOn with
  | ind m ih =>
    by_cases hm : m < 10
    · rw [decDigits_one hm]
      have := parse_digit (acc := 0) hm (by omega)
      simpa using this
    · rw [decDigits, dif_neg hm, parse_app _ _ 0 (m / 10) (ih (m / 10) (by omega) (by omega)), parse_digit (Nat.mod_lt _ (by omega)) (by omega)]
      congr 1
      omega
theorem decDigits_ne (m : Nat) : decDigits m ≠ [] := by
  rw [decDigits]
  split <;> simp
theorem decDigits_dig (m : Nat) : ∀ c ∈ decDigits m, 48 ≤ c.toNat ∧ c.toNat ≤ 57 := by
  induction m using Nat.strongRecOn with
  | ind m ih =>
    intro c hc
    by_cases hm : m < 10
    · rw [decDigits_one hm, List.mem_singleton] at hc
      subst hc
      simp
      omega
    · rw [decDigits, dif_neg hm, List.mem_append, List.mem_singleton] at hc
      rcases hc with hc | rfl
      · exact ih (m / 10) (by omega) c hc
      · simp
        omega
theorem atoi_itoa (n : Int) (h0 : -9223372036854775808 ≤ n) (h1 : n ≤ 9223372036854775807) : atoiAll (itoa n) = .ok n := by
  unfold itoa
  by_cases hn : n < 0
  · rw [if_pos hn]
    have hp := parse_dec n.natAbs (by omega)
    have hm : parseMag (decDigits n.natAbs) = .ok n.natAbs := by unfold parseMag; rw [if_neg (decDigits_ne _), hp]
    unfold atoiAll
    simp only [show (45 : UInt8).toNat = 45 from rfl, or_true, if_true, hm, not_true_eq_false, false_and, if_false, true_and]
    rw [if_neg (by omega)]
    congr 1
    omega
  · rw [if_neg hn]
    have hp := parse_dec n.toNat (by omega)
    have hd := decDigits_dig n.toNat
    obtain ⟨c, r, e⟩ : ∃ c r, decDigits n.toNat = c :: r := by
      cases hc : decDigits n.toNat with
      | nil => exact absurd hc (decDigits_ne _)
      | cons c r => exact ⟨c, r, rfl⟩
    rw [e] at hp hd ⊢
    have hc := hd c (by simp)
    have hm : parseMag (c :: r) = .ok n.toNat := by unfold parseMag; rw [if_neg (by simp), hp]
    rw [atoiAll_plain c r (by omega) (by omega), hm]
    unfold signless
    simp only []
    rw [if_neg (by omega)]
    congr 1
    omega
theorem itoa_blank (n : Int) : (32 : UInt8) ∉ itoa n := by
  intro h
  unfold itoa at h
  have hd := fun m => decDigits_dig m 32
  split at h
  · rcases List.mem_cons.1 h with h | h
    · cases h
    · have := hd _ h
      simp at this
  · have := hd _ h
    simp at this
end Go.Proofs.YtgokkbocboonnaaDoor
