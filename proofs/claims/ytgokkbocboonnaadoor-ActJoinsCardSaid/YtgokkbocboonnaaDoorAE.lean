/-
  ACTS AS DATA AND AS TEXT (P31.1, P31.2): plain; how api.Act lies in memory.
  TEXTS READ AGAIN, plainly: the words of joined words; a number's numeral; bytes by hexadecimal digits. No program.
  TEXTS READ AS ACTS, plainly (P31.2, P31.4): what act.Parse reads; an act's text is read as what counts of it. No program.
  AN ACT'S TEXT IS READ AS WHAT COUNTS OF IT, plainly (P31.2, P31.4). No program.
  SCRIPTS AS TEXTS AND BACK, plainly (P31.3, P31.4, P31.5). No program.
-/
import Derived.Test.YtgokkbocboonnaaDoorST
import Derived.Lib.AtoiAllCases
import Derived.Lib.ItoaMem
import Derived.Lib.IndexMore
namespace Go.Proofs.YtgokkbocboonnaaDoor
open Go.RowKit

structure ActD where
  act : Int
  client : Int
  op : OpD
  n : Int
  pages : List Int
  log : Int
/-- An Act with the values of its two slices. -/
structure ActV where
  d : ActD
  dv : Value
  pv : Value
def ActV.cells (x : ActV) : List Value := .int .i64 x.d.act :: .int .i64 x.d.client :: (opCells x.d.op x.dv ++ [.int .i64 x.d.n, x.pv, .int .i64 x.d.log])
theorem ActV.cells_length (x : ActV) : x.cells.length = 11 := rfl
/-- The value v is a slice of the numbers ns, below block B. -/
def IntsAt (w : World) (B : Nat) (v : Value) (ns : List Int) : Prop := ∃ A c, v = .slice A ns.length c ∧ ns.length ≤ c ∧ Ints w B A ns.length ns
def ActOk (w : World) (B : Nat) (x : ActV) : Prop := BytesAt w B x.dv x.d.op.data ∧ IntsAt w B x.pv x.d.pages
section
variable {w w' : World} {B B' C : Nat} {x : ActV} {v : Value} {ns : List Int}
theorem IntsAt.below (h : IntsAt w B v ns) (hb : Below C w w') (hC : B ≤ C) : IntsAt w' B v ns := by
  obtain ⟨A, c, h1, h2, h3⟩ := h
  exact ⟨A, c, h1, h2, h3.below hb hC⟩
theorem IntsAt.more (h : IntsAt w B v ns) (hB : B ≤ B') : IntsAt w B' v ns := by
  obtain ⟨A, c, h1, h2, h3⟩ := h
  exact ⟨A, c, h1, h2, h3.more hB⟩
theorem ActOk.below (h : ActOk w B x) (hb : Below C w w') (hC : B ≤ C) : ActOk w' B x := ⟨h.1.below hb hC, h.2.below hb hC⟩
theorem ActOk.more (h : ActOk w B x) (hB : B ≤ B') : ActOk w B' x := ⟨h.1.more hB, h.2.more hB⟩
end
/-- P31.1: may an act be? -/
def isActB (a : ActD) : Bool :=
  decide (0 ≤ a.act ∧ a.act ≤ 5) && (!decide (a.act < 2) || decide (0 ≤ a.client ∧ a.client < 16)) && (!decide (a.act = 0) || isCallB a.op) && (!decide (a.act = 4) || decide (a.pages.length ≤ 60))
/-- The numbers behind a word, a blank ahead of each. -/
def numsT (ns : List Int) : List UInt8 := ns.flatMap fun n => 32 :: num n
/-- P31.2: an act that may be, as text. -/
def actT (a : ActD) : List UInt8 :=
  if a.act = 0 then ([99, 97, 108, 108] ++ 32 :: num a.client) ++ 32 :: callT a.op
  else if a.act = 1 then [115, 116, 101, 112] ++ 32 :: num a.client
  else if a.act = 2 then [99, 104, 101, 99, 107]
  else if a.act = 3 then [102, 117, 115, 101] ++ 32 :: num a.n
  else if a.act = 4 then [99, 114, 97, 115, 104] ++ numsT (a.log :: a.pages)
  else [111, 112, 101, 110]
/-- P31.4: what counts of an operation, of an act. -/
def plainOp (x : OpD) : OpD :=
  if 5 < x.act then ⟨x.act, ⟨#[]⟩, [], 0, 0, 0⟩
  else if x.act = 1 then ⟨x.act, x.key, x.data, 0, 0, 0⟩
  else if x.act = 2 then ⟨x.act, x.key, [], x.lo, x.hi, x.n⟩
  else if 3 < x.act then ⟨x.act, x.key, [], 0, 0, x.n⟩
  else ⟨x.act, x.key, [], 0, 0, 0⟩
def op00 : OpD := ⟨0, ⟨#[]⟩, [], 0, 0, 0⟩
def plainAct (a : ActD) : ActD :=
  ⟨a.act, if a.act < 2 then a.client else 0, if a.act = 0 then plainOp a.op else op00, if a.act = 3 then a.n else 0, if a.act = 4 then a.pages else [], if a.act = 4 then a.log else 0⟩
end Go.Proofs.YtgokkbocboonnaaDoor
namespace Go.Proofs.YtgokkbocboonnaaDoor
open Go.Lib

/-! ### words -/
/-- strings.Cut at one byte. -/
theorem index_one (l : List UInt8) (c : UInt8) : (c ∉ l → index l [c] = -1) ∧ (∀ a r, l = a ++ c :: r → c ∉ a → index l [c] = (a.length : Int)) := by
  induction l with
  | nil => exact ⟨fun _ => rfl, fun a r h => by cases a <;> cases h⟩
  | cons b t ih =>
    constructor
    · intro h
      have hb : c ≠ b := fun e => h (by simp [e])
      have ht : c ∉ t := fun e => h (by simp [e])
      unfold index
      rw [if_neg (by simp [List.isPrefixOf, hb]), ih.1 ht]
      rfl
    · intro a r h hc
      cases a with
      | nil =>
        simp only [List.nil_append, List.cons.injEq] at h
        obtain ⟨rfl, rfl⟩ := h
        unfold index
        rw [if_pos (by simp [List.isPrefixOf])]
        rfl
      | cons x a =>
        simp only [List.cons_append, List.cons.injEq] at h
        obtain ⟨rfl, h⟩ := h
        have hb : c ≠ b := fun e => hc (by simp [e])
        have ha : c ∉ a := fun e => hc (by simp [e])
        have hi := ih.2 a r h ha
        unfold index
        rw [if_neg (by simp [List.isPrefixOf, hb]), hi]
        have : ((a.length : Int) == -1) = false := by rw [beq_eq_false_iff_ne]; omega
        rw [this]
        simp
theorem cut_miss {l : List UInt8} {c : UInt8} (h : c ∉ l) : cut l [c] = (l, [], false) := by
  unfold cut
  rw [(index_one l c).1 h]
  simp
theorem cut_hit {a r : List UInt8} {c : UInt8} (h : c ∉ a) : cut (a ++ c :: r) [c] = (a, r, true) := by
  have hi := (index_one (a ++ c :: r) c).2 a r rfl h
  unfold cut
  rw [hi, if_pos (by omega)]
  simp
/-- The words of a text, one at least. -/
def wordsOf' : Nat → List UInt8 → List (List UInt8)
  | 0, _ => []
  | f + 1, l => if (cut l [32]).2.2 = true then (cut l [32]).1 :: wordsOf' f (cut l [32]).2.1 else [(cut l [32]).1]
def wordsT (l : List UInt8) : List (List UInt8) := wordsOf' (l.length + 1) l
/-- Words with one blank between any two. -/
def joinW : List (List UInt8) → List UInt8
  | [] => []
  | [w] => w
  | w :: v :: r => w ++ 32 :: joinW (v :: r)
theorem words_join : ∀ (ws : List (List UInt8)) (f : Nat), ws ≠ [] → (∀ w ∈ ws, (32 : UInt8) ∉ w) → ws.length ≤ f → wordsOf' f (joinW ws) = ws
  | [], _, h, _, _ => absurd rfl h
  | [w], f, _, hw, hf => by
    obtain ⟨f, rfl⟩ : ∃ g, f = g + 1 := ⟨f - 1, by simp at hf; omega⟩
    have h := cut_miss (hw w (by simp))
    simp only [joinW, wordsOf', h]
    rfl
  | w :: v :: r, f, _, hw, hf => by
    obtain ⟨f, rfl⟩ : ∃ g, f = g + 1 := ⟨f - 1, by simp at hf; omega⟩
    have h := cut_hit (a := w) (r := joinW (v :: r)) (hw w (by simp))
    simp only [joinW, wordsOf', h, if_true]
    rw [words_join (v :: r) f (by simp) (fun x hx => hw x (by simp [hx])) (by simpa using hf)]

/-! ### numbers -/
theorem parse_app (l r : List UInt8) : ∀ (acc : Nat) (v : Nat), parseUint10 acc l = .ok v → parseUint10 acc (l ++ r) = parseUint10 v r := by
  induction l with
  | nil =>
    intro acc v h
    simp only [parseUint10] at h
    injection h with h
    subst h
    rfl
  | cons c t ih =>
    intro acc v h
    simp only [List.cons_append, parseUint10] at h ⊢
    split at h
    · rename_i h1
      rw [if_pos h1]
      split at h
      · cases h
      · rename_i h2
        rw [if_neg h2]
        split at h
        · cases h
        · rename_i h3
          rw [if_neg h3]
          exact ih _ _ h
    · cases h
theorem parse_digit {acc k : Nat} (hk : k < 10) (hb : acc * 10 + k < 18446744073709551616) : parseUint10 acc [UInt8.ofNat (48 + k)] = .ok (acc * 10 + k) := by
  have h1 : (UInt8.ofNat (48 + k)).toNat = 48 + k := by simp; omega
  simp only [parseUint10, h1]
  rw [if_pos (by omega), if_neg (by omega), if_neg (by omega)]
  congr 1
  omega
theorem parse_dec (m : Nat) (h : m < 18446744073709551616) : parseUint10 0 (decDigits m) = .ok m := by
  induction m using Nat.strongRecOn with
  | ind m ih =>
    by_cases hm : m < 10
    · rw [decDigits_one hm]
      have := parse_digit (acc := 0) hm (by omega)
      simpa using this
    · rw [decDigits, dif_neg hm, parse_app _ _ 0 (m / 10) (ih (m / 10) (by omega) (by omega)), parse_digit (Nat.mod_lt _ (by omega)) (by omega)]
      congr 1
      omega
theorem decDigits_ne (m : Nat) : decDigits m ≠ [] := by
  rw [decDigits]
  split <;> simp
theorem decDigits_dig (m : Nat) : ∀ c ∈ decDigits m, 48 ≤ c.toNat ∧ c.toNat ≤ 57 := by
  induction m using Nat.strongRecOn with
  | ind m ih =>
    intro c hc
    by_cases hm : m < 10
    · rw [decDigits_one hm, List.mem_singleton] at hc
      subst hc
      simp
      omega
    · rw [decDigits, dif_neg hm, List.mem_append, List.mem_singleton] at hc
      rcases hc with hc | rfl
      · exact ih (m / 10) (by omega) c hc
      · simp
        omega
theorem atoi_itoa (n : Int) (h0 : -9223372036854775808 ≤ n) (h1 : n ≤ 9223372036854775807) : atoiAll (itoa n) = .ok n := by
  unfold itoa
  by_cases hn : n < 0
  · rw [if_pos hn]
    have hp := parse_dec n.natAbs (by omega)
    have hm : parseMag (decDigits n.natAbs) = .ok n.natAbs := by unfold parseMag; rw [if_neg (decDigits_ne _), hp]
    unfold atoiAll
    simp only [show (45 : UInt8).toNat = 45 from rfl, or_true, if_true, hm, not_true_eq_false, false_and, if_false, true_and]
    rw [if_neg (by omega)]
    congr 1
    omega
  · rw [if_neg hn]
    have hp := parse_dec n.toNat (by omega)
    have hd := decDigits_dig n.toNat
    obtain ⟨c, r, e⟩ : ∃ c r, decDigits n.toNat = c :: r := by
      cases hc : decDigits n.toNat with
      | nil => exact absurd hc (decDigits_ne _)
      | cons c r => exact ⟨c, r, rfl⟩
    rw [e] at hp hd ⊢
    have hc := hd c (by simp)
    have hm : parseMag (c :: r) = .ok n.toNat := by unfold parseMag; rw [if_neg (by simp), hp]
    rw [atoiAll_plain c r (by omega) (by omega), hm]
    unfold signless
    simp only []
    rw [if_neg (by omega)]
    congr 1
    omega
theorem itoa_blank (n : Int) : (32 : UInt8) ∉ itoa n := by
  intro h
  unfold itoa at h
  have hd := fun m => decDigits_dig m 32
  split at h
  · rcases List.mem_cons.1 h with h | h
    · cases h
    · have := hd _ h
      simp at this
  · have := hd _ h
    simp at this
end Go.Proofs.YtgokkbocboonnaaDoor
namespace Go.Proofs.YtgokkbocboonnaaDoor
open Go.RowKit Go.Lib

/-! ### numbers -/
def okA (x : List UInt8) : Option Int := match Lib.atoiAll x with | .ok v => some v | _ => none
/-- Words as numbers, if they are. -/
def numsD : List (List UInt8) → Option (List Int)
  | [] => some []
  | x :: r => match okA x with | some v => (numsD r).map (v :: ·) | none => none
def numsN (ws : List (List UInt8)) (n : Nat) : Option (List Int) := if n ≤ ws.length then numsD (ws.take n) else none
theorem numsD_length : ∀ {ws : List (List UInt8)} {ns : List Int}, numsD ws = some ns → ns.length = ws.length
  | [], ns, h => by simp only [numsD, Option.some.injEq] at h; subst h; rfl
  | x :: r, ns, h => by
    simp only [numsD] at h
    split at h
    · cases hr : numsD r with
      | none => rw [hr] at h; cases h
      | some t =>
        rw [hr] at h
        simp only [Option.map_some, Option.some.injEq] at h
        subst h
        simp [numsD_length hr]
    · cases h
theorem numsD_snoc {a : List (List UInt8)} {x : List UInt8} {ns : List Int} : numsD a = some ns → (∀ v, okA x = some v → numsD (a ++ [x]) = some (ns ++ [v])) ∧ (∀ b, okA x = none → numsD (a ++ x :: b) = none) := by
  induction a generalizing ns with
  | nil =>
    intro h
    simp only [numsD, Option.some.injEq] at h
    subst h
    exact ⟨fun v hv => by simp [numsD, hv], fun b hv => by simp [numsD, hv]⟩
  | cons y r ih =>
    intro h
    simp only [numsD] at h
    split at h
    · rename_i v hv
      cases hr : numsD r with
      | none => rw [hr] at h; cases h
      | some t =>
        rw [hr] at h
        simp only [Option.map_some, Option.some.injEq] at h
        subst h
        have hi := ih hr
        refine ⟨fun u hu => ?_, fun b hu => ?_⟩
        · simp only [List.cons_append, numsD, hv, hi.1 u hu, Option.map_some]
        · simp only [List.cons_append, numsD, hv, hi.2 b hu, Option.map_none]
    · cases h
theorem okA_in {x : List UInt8} {v : Int} (h : okA x = some v) : inI v := by
  unfold okA at h
  split at h
  · rename_i v' hv
    injection h with h
    subst h
    exact Lib.atoiAll_bounds hv
  · cases h
theorem numsD_in : ∀ {ws : List (List UInt8)} {ns : List Int}, numsD ws = some ns → ∀ n ∈ ns, inI n
  | [], ns, h => by simp only [numsD, Option.some.injEq] at h; subst h; simp
  | x :: r, ns, h => by
    simp only [numsD] at h
    split at h
    · rename_i v hv
      cases hr : numsD r with
      | none => rw [hr] at h; cases h
      | some t =>
        rw [hr] at h
        simp only [Option.map_some, Option.some.injEq] at h
        subst h
        intro n hn
        rcases List.mem_cons.1 hn with rfl | hn
        · exact okA_in hv
        · exact numsD_in hr n hn
    · cases h
theorem okA_num {n : Int} (h : inI n) : okA (num n) = some n := by unfold okA num; rw [atoi_itoa n h.1 h.2]
theorem numsD_nums : ∀ {ns : List Int}, (∀ n ∈ ns, inI n) → numsD (ns.map num) = some ns
  | [], _ => rfl
  | n :: r, h => by
    have ih := numsD_nums (ns := r) (fun x hx => h x (List.mem_cons_of_mem _ hx))
    simp only [List.map_cons, numsD, okA_num (h n List.mem_cons_self), ih, Option.map_some]

/-! ### bytes -/
def hexI (c : UInt8) : Int := Lib.indexByte [48, 49, 50, 51, 52, 53, 54, 55, 56, 57, 97, 98, 99, 100, 101, 102] c
def hexStep (bs : List Nat) (i d : Nat) : List Nat := bs.set (i / 2) ((bs.getD (i / 2) 0 * 16 + d) % 256)
def hexGo : List UInt8 → Nat → List Nat → Option (List Nat)
  | [], _, bs => some bs
  | c :: r, i, bs => if hexI c < 0 then none else hexGo r (i + 1) (hexStep bs i (hexI c).toNat)
/-- What act.bytesOf reads. -/
def bytesD (s : List UInt8) : Option (List UInt8) :=
  if s = [45] then some [] else if s.length % 2 ≠ 0 ∨ 64 < s.length then none else (hexGo s 0 (List.replicate (s.length / 2) 0)).map (·.map UInt8.ofNat)
theorem indexByte_lt' : ∀ (l : List UInt8) (c : UInt8), l ≠ [] → Lib.indexByte l c < l.length
  | [], _, h => absurd rfl h
  | [b], c, _ => by
    simp only [Lib.indexByte]
    split
    · simp
    · simp
  | b :: d :: l, c, _ => by
    have ih := indexByte_lt' (d :: l) c (by simp)
    unfold Lib.indexByte
    simp only [List.length_cons] at ih ⊢
    split
    · omega
    · split
      · omega
      · omega
theorem hexI_range (c : UInt8) : -1 ≤ hexI c ∧ hexI c < 16 := by
  have hg := Lib.indexByte_ge [48, 49, 50, 51, 52, 53, 54, 55, 56, 57, 97, 98, 99, 100, 101, 102] c
  have hl := indexByte_lt' [48, 49, 50, 51, 52, 53, 54, 55, 56, 57, 97, 98, 99, 100, 101, 102] c (by simp)
  exact ⟨hg, hl⟩
theorem hexI_hexC (k : Nat) (h : k < 16) : hexI (hexC k) = (k : Int) := by
  rcases (show k = 0 ∨ k = 1 ∨ k = 2 ∨ k = 3 ∨ k = 4 ∨ k = 5 ∨ k = 6 ∨ k = 7 ∨ k = 8 ∨ k = 9 ∨ k = 10 ∨ k = 11 ∨ k = 12 ∨ k = 13 ∨ k = 14 ∨ k = 15 by omega) with rfl | rfl | rfl | rfl | rfl | rfl | rfl | rfl | rfl | rfl | rfl | rfl | rfl | rfl | rfl | rfl <;> rfl
theorem hexGo_hexB : ∀ (bs : List UInt8) (pre : List Nat), hexGo (bs.flatMap hexB) (2 * pre.length) (pre ++ List.replicate bs.length 0) = some (pre ++ bs.map UInt8.toNat)
  | [], pre => by simp [hexGo]
  | b :: r, pre => by
    have hb : b.toNat < 256 := b.toNat_lt
    have h1 := hexI_hexC (b.toNat / 16) (by omega)
    have h2 := hexI_hexC (b.toNat % 16) (by omega)
    have e1 : hexStep (pre ++ List.replicate (b :: r).length 0) (2 * pre.length) (b.toNat / 16) = pre ++ (b.toNat / 16) :: List.replicate r.length 0 := by
      unfold hexStep
      rw [show 2 * pre.length / 2 = pre.length by omega, List.length_cons, List.replicate_succ]
      rw [List.set_append_right _ _ (Nat.le_refl _)]
      simp
      omega
    have e2 : hexStep (pre ++ (b.toNat / 16) :: List.replicate r.length 0) (2 * pre.length + 1) (b.toNat % 16) = (pre ++ [b.toNat]) ++ List.replicate r.length 0 := by
      unfold hexStep
      rw [show (2 * pre.length + 1) / 2 = pre.length by omega]
      rw [List.set_append_right _ _ (Nat.le_refl _)]
      simp
      omega
    have ih := hexGo_hexB r (pre ++ [b.toNat])
    simp only [List.length_append, List.length_singleton] at ih
    show hexGo (hexC (b.toNat / 16) :: hexC (b.toNat % 16) :: r.flatMap hexB) _ _ = _
    simp only [hexGo, h1, h2]
    rw [if_neg (by omega), if_neg (by omega), Int.toNat_natCast, Int.toNat_natCast, e1, e2, show 2 * pre.length + 1 + 1 = 2 * (pre.length + 1) by omega, ih]
    simp
theorem hexB_len (bs : List UInt8) : (bs.flatMap hexB).length = 2 * bs.length := by
  induction bs with
  | nil => rfl
  | cons a t ih => simp only [List.flatMap_cons, List.length_append, ih, hexB, List.length_cons, List.length_nil]; omega
theorem bytesD_hex {bs : List UInt8} (h : bs.length ≤ 32) : bytesD (hexT bs) = some bs := by
  unfold hexT
  by_cases h0 : bs = []
  · subst h0
    rfl
  · rw [if_neg h0]
    have hl := hexB_len bs
    have hne : bs.flatMap hexB ≠ [45] := fun e => by
      rw [e] at hl
      simp at hl
      omega
    unfold bytesD
    rw [if_neg hne, if_neg (by omega), hl, show 2 * bs.length / 2 = bs.length by omega]
    have := hexGo_hexB bs []
    simp only [List.length_nil, Nat.mul_zero, List.nil_append] at this
    rw [this]
    simp only [Option.map_some, List.map_map, Option.some.injEq]
    conv => rhs; rw [← List.map_id bs]
    apply List.map_congr_left
    intro x _
    simp
theorem hexGo_len : ∀ {s : List UInt8} {i : Nat} {bs r : List Nat}, hexGo s i bs = some r → r.length = bs.length
  | [], i, bs, r, h => by simp only [hexGo, Option.some.injEq] at h; rw [h]
  | c :: t, i, bs, r, h => by
    simp only [hexGo] at h
    split at h
    · cases h
    · rw [hexGo_len h]
      simp [hexStep]
theorem bytesD_len {s bs : List UInt8} (h : bytesD s = some bs) : bs.length ≤ 32 := by
  unfold bytesD at h
  split at h
  · injection h with h
    subst h
    simp
  · split at h
    · cases h
    · rename_i h1 h2
      cases hg : hexGo s 0 (List.replicate (s.length / 2) 0) with
      | none => rw [hg] at h; cases h
      | some r =>
        rw [hg] at h
        have := hexGo_len hg
        simp only [Option.map_some, Option.some.injEq] at h
        subst h
        simp at this ⊢
        omega

/-! ### calls, acts -/
def wBegin : List UInt8 := [98, 101, 103, 105, 110]
def wCommit : List UInt8 := [99, 111, 109, 109, 105, 116]
def wAbort : List UInt8 := [97, 98, 111, 114, 116]
def wRead : List UInt8 := [114, 101, 97, 100]
def wWrite : List UInt8 := [119, 114, 105, 116, 101]
def wCreate : List UInt8 := [99, 114, 101, 97, 116, 101]
def wDrop : List UInt8 := [100, 114, 111, 112]
def wInc : List UInt8 := [105, 110, 99]
def wDec : List UInt8 := [100, 101, 99]
def wCall : List UInt8 := [99, 97, 108, 108]
def wStep : List UInt8 := [115, 116, 101, 112]
def wCheck : List UInt8 := [99, 104, 101, 99, 107]
def wFuse : List UInt8 := [102, 117, 115, 101]
def wCrash : List UInt8 := [99, 114, 97, 115, 104]
def wOpen : List UInt8 := [111, 112, 101, 110]
/-- An operation with numbers. -/
def opNumsD (name : List UInt8) (key : ByteArray) : Option (List Int) → Option OpD
  | some [a, b, c] => if name = wCreate then some ⟨2, key, [], a, b, c⟩ else none
  | some [a] => if name = wInc then some ⟨4, key, [], 0, 0, a⟩ else if name = wDec then some ⟨5, key, [], 0, 0, a⟩ else none
  | _ => none
/-- One with a key. -/
def opKeyD (name key : List UInt8) (w : List (List UInt8)) : Option OpD :=
  if name = wRead then (if w.length = 0 then some ⟨0, tx key, [], 0, 0, 0⟩ else none)
  else if name = wDrop then (if w.length = 0 then some ⟨3, tx key, [], 0, 0, 0⟩ else none)
  else if name = wWrite then (match w with | [x] => (bytesD x).map fun b => ⟨1, tx key, b, 0, 0, 0⟩ | _ => none)
  else opNumsD name (tx key) (numsD w)
/-- What act.opOf reads. -/
def opOfD (name : List UInt8) (w : List (List UInt8)) : Option OpD :=
  if name = wBegin then (if w.length = 0 then some ⟨6, ⟨#[]⟩, [], 0, 0, 0⟩ else none)
  else if name = wCommit then (if w.length = 0 then some ⟨7, ⟨#[]⟩, [], 0, 0, 0⟩ else none)
  else if name = wAbort then (if w.length = 0 then some ⟨8, ⟨#[]⟩, [], 0, 0, 0⟩ else none)
  else match w with
    | [] => none
    | key :: r => opKeyD name key r
def act00 : ActD := ⟨0, 0, op00, 0, [], 0⟩
def callOfD : Option (List Int) → List (List UInt8) → Option ActD
  | some [n], _ :: name :: r => (opOfD name r).map fun x => { act00 with client := n, op := x }
  | _, _ => none
/-- What act.actOf reads. -/
def actOfD (name : List UInt8) (w : List (List UInt8)) : Option ActD :=
  if name = wCall then callOfD (numsN w 1) w
  else if name = wStep then (match numsD w with | some [n] => some { act00 with act := 1, client := n } | _ => none)
  else if name = wCheck then (if w.length = 0 then some { act00 with act := 2 } else none)
  else if name = wFuse then (match numsD w with | some [n] => some { act00 with act := 3, n := n } | _ => none)
  else if name = wCrash then (match numsD w with | some (n :: r) => some { act00 with act := 4, pages := r, log := n } | _ => none)
  else if name = wOpen then (if w.length = 0 then some { act00 with act := 5 } else none)
  else none
/-- What act.Line tells. -/
def lineD (a : ActD) : Option (List UInt8) := if isActB a = true then some (actT a) else none
/-- What act.Parse reads. -/
def parseD (s : List UInt8) : Option ActD :=
  if 63 < (wordsT s).length then none
  else match wordsT s with
    | [] => none
    | name :: w => match actOfD name w with
      | none => none
      | some a => if lineD a = some s then some a else none
theorem parseD_some {s : List UInt8} {a : ActD} (h : parseD s = some a) : (wordsT s).length ≤ 63 ∧ ∃ name w, wordsT s = name :: w ∧ actOfD name w = some a ∧ isActB a = true ∧ actT a = s := by
  unfold parseD at h
  split at h
  · cases h
  · rename_i hl
    refine ⟨by omega, ?_⟩
    split at h
    · cases h
    · rename_i name w hw
      split at h
      · cases h
      · rename_i b hb
        split at h
        · rename_i hL
          injection h with h
          subst h
          unfold lineD at hL
          split at hL
          · rename_i hB
            injection hL with hL
            exact ⟨name, w, hw, hb, hB, hL⟩
          · cases hL
        · cases h

/-! ### what is read is what counts of it -/
theorem opNumsD_plain {name : List UInt8} {k : ByteArray} {o : Option (List Int)} {x : OpD} (h : opNumsD name k o = some x) : plainOp x = x := by
  unfold opNumsD at h
  repeat' split at h
  all_goals (first | (cases h; done) | (injection h with h; subst h; rfl))
theorem opOfD_plain {name : List UInt8} {w : List (List UInt8)} {x : OpD} (h : opOfD name w = some x) : plainOp x = x := by
  unfold opOfD at h
  by_cases h1 : name = wBegin
  · rw [if_pos h1] at h; split at h
    · injection h with h; subst h; rfl
    · cases h
  rw [if_neg h1] at h
  by_cases h2 : name = wCommit
  · rw [if_pos h2] at h; split at h
    · injection h with h; subst h; rfl
    · cases h
  rw [if_neg h2] at h
  by_cases h3 : name = wAbort
  · rw [if_pos h3] at h; split at h
    · injection h with h; subst h; rfl
    · cases h
  rw [if_neg h3] at h
  cases w with
  | nil => cases h
  | cons key r =>
    simp only [opKeyD] at h
    split at h
    · split at h
      · injection h with h; subst h; rfl
      · cases h
    · split at h
      · split at h
        · injection h with h; subst h; rfl
        · cases h
      · split at h
        · split at h
          · rename_i x1
            cases hb : bytesD x1 with
            | none => rw [hb] at h; cases h
            | some b => rw [hb] at h; simp only [Option.map_some, Option.some.injEq] at h; subst h; rfl
          · cases h
        · exact opNumsD_plain h
theorem actOfD_plain {name : List UInt8} {w : List (List UInt8)} {a : ActD} (h : actOfD name w = some a) : plainAct a = a := by
  unfold actOfD at h
  split at h
  · unfold callOfD at h
    split at h
    · rename_i n x1 nm r _
      cases ho : opOfD nm r with
      | none => rw [ho] at h; cases h
      | some x =>
        rw [ho] at h
        simp only [Option.map_some, Option.some.injEq] at h
        subst h
        have := opOfD_plain ho
        simp [plainAct, act00, this]
    · cases h
  · repeat' split at h
    all_goals (first | (cases h; done) | (injection h with h; subst h; simp [plainAct, act00]))
end Go.Proofs.YtgokkbocboonnaaDoor
namespace Go.Proofs.YtgokkbocboonnaaDoor
open Go.RowKit Go.Lib

theorem joinW_cons (w : List UInt8) {ws : List (List UInt8)} (h : ws ≠ []) : joinW (w :: ws) = w ++ 32 :: joinW ws := by
  cases ws with
  | nil => exact absurd rfl h
  | cons v r => rfl
theorem joinW_len : ∀ (ws : List (List UInt8)), ws.length ≤ (joinW ws).length + 1
  | [] => by simp
  | [w] => by simp
  | w :: v :: r => by
    have := joinW_len (v :: r)
    rw [joinW_cons w (by simp)]
    simp only [List.length_append, List.length_cons] at this ⊢
    omega
/-- A call's words. -/
def callW (x : OpD) : List (List UInt8) :=
  if x.act = 6 then [wBegin] else if x.act = 7 then [wCommit] else if x.act = 8 then [wAbort]
  else if x.act = 0 then [wRead, x.key.data.toList]
  else if x.act = 1 then [wWrite, x.key.data.toList, hexT x.data]
  else if x.act = 2 then [wCreate, x.key.data.toList, num x.lo, num x.hi, num x.n]
  else if x.act = 3 then [wDrop, x.key.data.toList]
  else if x.act = 4 then [wInc, x.key.data.toList, num x.n]
  else [wDec, x.key.data.toList, num x.n]
theorem callW_join (x : OpD) : joinW (callW x) = callT x ∧ callW x ≠ [] := by
  unfold callW callT
  repeat' split
  all_goals exact ⟨rfl, by simp⟩
/-- An act's words. -/
def actW (a : ActD) : List (List UInt8) :=
  if a.act = 0 then wCall :: num a.client :: callW a.op
  else if a.act = 1 then [wStep, num a.client]
  else if a.act = 2 then [wCheck]
  else if a.act = 3 then [wFuse, num a.n]
  else if a.act = 4 then wCrash :: (a.log :: a.pages).map num
  else [wOpen]
theorem joinW_nums (w : List UInt8) (ns : List Int) : joinW (w :: ns.map num) = w ++ numsT ns := by
  induction ns generalizing w with
  | nil => simp [joinW, numsT]
  | cons n r ih =>
    rw [List.map_cons, joinW_cons _ (by simp), ih]
    simp [numsT]
theorem actW_join (a : ActD) : joinW (actW a) = actT a := by
  unfold actW actT
  split
  · have h := callW_join a.op
    rw [joinW_cons _ (by simp), joinW_cons _ h.2, h.1]
    simp [wCall]
  · split
    · rfl
    · split
      · rfl
      · split
        · rfl
        · split
          · exact joinW_nums _ _
          · rfl
theorem hexC_low (k : Nat) (h : k < 16) : 48 ≤ (hexC k).toNat := by
  rcases (show k = 0 ∨ k = 1 ∨ k = 2 ∨ k = 3 ∨ k = 4 ∨ k = 5 ∨ k = 6 ∨ k = 7 ∨ k = 8 ∨ k = 9 ∨ k = 10 ∨ k = 11 ∨ k = 12 ∨ k = 13 ∨ k = 14 ∨ k = 15 by omega) with rfl | rfl | rfl | rfl | rfl | rfl | rfl | rfl | rfl | rfl | rfl | rfl | rfl | rfl | rfl | rfl <;> decide
/-- No byte at or below 32. -/
def Clear (w : List UInt8) : Prop := ∀ c ∈ w, 32 < c.toNat
theorem hexT_clear (bs : List UInt8) : Clear (hexT bs) := by
  intro c hc
  unfold hexT at hc
  split at hc
  · rw [List.mem_singleton] at hc
    subst hc
    decide
  · obtain ⟨b, _, hb⟩ := List.mem_flatMap.1 hc
    have hb1 : b.toNat < 256 := b.toNat_lt
    have h1 := hexC_low (b.toNat / 16) (by omega)
    have h2 := hexC_low (b.toNat % 16) (by omega)
    simp only [hexB, List.mem_cons, List.not_mem_nil, or_false] at hb
    rcases hb with rfl | rfl <;> omega
theorem num_clear (n : Int) : Clear (num n) := by
  intro c hc
  unfold num itoa at hc
  split at hc
  · rcases List.mem_cons.1 hc with rfl | hc
    · decide
    · have := decDigits_dig _ c hc
      omega
  · have := decDigits_dig _ c hc
    omega
theorem key_clear {k : ByteArray} (h : goodKey k = true) : Clear k.data.toList := by
  intro c hc
  unfold goodKey at h
  simp only [Bool.and_eq_true, List.all_eq_true] at h
  have := h.1 c hc
  unfold okByte at this
  simp only [decide_eq_true_eq] at this
  omega
theorem callW_clear {x : OpD} (h : isCallB x = true) : ∀ w ∈ callW x, Clear w := by
  have hk : ¬ (x.act = 6 ∨ x.act = 7 ∨ x.act = 8) → Clear x.key.data.toList := fun hn => by
    unfold isCallB at h
    simp only [Bool.or_eq_true, decide_eq_true_eq] at h
    refine key_clear (goodOp_key (x := x) ?_).1
    rcases h with ((h | h) | h) | h
    · exact absurd (.inl h) hn
    · exact absurd (.inr (.inl h)) hn
    · exact absurd (.inr (.inr h)) hn
    · exact h
  unfold callW
  by_cases h6 : x.act = 6
  · rw [if_pos h6]; intro w hw; rw [List.mem_singleton] at hw; subst hw; unfold Clear; decide
  by_cases h7 : x.act = 7
  · rw [if_neg h6, if_pos h7]; intro w hw; rw [List.mem_singleton] at hw; subst hw; unfold Clear; decide
  by_cases h8 : x.act = 8
  · rw [if_neg h6, if_neg h7, if_pos h8]; intro w hw; rw [List.mem_singleton] at hw; subst hw; unfold Clear; decide
  rw [if_neg h6, if_neg h7, if_neg h8]
  have hk' := hk (by omega)
  repeat' split
  all_goals
    intro w hw
    simp only [List.mem_cons, List.not_mem_nil, or_false] at hw
    rcases hw with rfl | rfl | rfl | rfl | rfl <;> first | exact hk' | exact num_clear _ | exact hexT_clear _ | (unfold Clear; decide)
theorem actW_clear {a : ActD} (h : isActB a = true) : ∀ w ∈ actW a, Clear w := by
  unfold isActB at h
  simp only [Bool.and_eq_true, Bool.or_eq_true, Bool.not_eq_true', decide_eq_true_eq, decide_eq_false_iff_not] at h
  unfold actW
  split
  · rename_i h0
    have hc : isCallB a.op = true := by
      rcases h.1.2 with hn | hc
      · exact absurd h0 hn
      · exact hc
    intro w hw
    rcases List.mem_cons.1 hw with rfl | hw
    · unfold Clear; decide
    · rcases List.mem_cons.1 hw with rfl | hw
      · exact num_clear _
      · exact callW_clear hc w hw
  · repeat' split
    all_goals
      intro w hw
      first
        | (simp only [List.mem_cons, List.not_mem_nil, or_false] at hw
           rcases hw with rfl | rfl <;> first | exact num_clear _ | (unfold Clear; decide))
        | (rcases List.mem_cons.1 hw with rfl | hw
           · unfold Clear; decide
           · obtain ⟨n, _, rfl⟩ := List.mem_map.1 hw
             exact num_clear n)
theorem clear_blank {w : List UInt8} (h : Clear w) : (32 : UInt8) ∉ w := fun hc => by have := h 32 hc; simp at this
theorem words_act {a : ActD} (h : isActB a = true) : wordsT (actT a) = actW a := by
  have hw : actW a ≠ [] := by unfold actW; (repeat' split) <;> simp
  unfold wordsT
  rw [← actW_join]
  exact words_join (actW a) _ hw (fun w hw => clear_blank (actW_clear h w hw)) (joinW_len _)
theorem actW_len {a : ActD} (h : isActB a = true) : (actW a).length ≤ 63 := by
  have hc : (callW a.op).length ≤ 5 := by unfold callW; (repeat' split) <;> simp
  unfold isActB at h
  simp only [Bool.and_eq_true, Bool.or_eq_true, Bool.not_eq_true', decide_eq_true_eq, decide_eq_false_iff_not] at h
  unfold actW
  split
  · simp only [List.length_cons]; omega
  · split
    · simp
    · split
      · simp
      · split
        · simp
        · split
          · rename_i h4
            simp only [List.length_cons, List.length_map]
            have := h.2
            omega
          · simp
/-- Numbers of 64 bits. -/
def ActIn (a : ActD) : Prop := inI a.act ∧ inI a.client ∧ (inI a.op.act ∧ inI a.op.lo ∧ inI a.op.hi ∧ inI a.op.n) ∧ inI a.n ∧ inI a.log ∧ ∀ p ∈ a.pages, inI p
theorem opOf_call {x : OpD} (h : isCallB x = true) (h1 : inI x.lo) (h2 : inI x.hi) (h3 : inI x.n) : ∃ nm r, callW x = nm :: r ∧ opOfD nm r = some (plainOp x) := by
  have hr : 0 ≤ x.act ∧ x.act ≤ 8 ∧ (x.act = 1 → x.data.length ≤ 32) := by
    unfold isCallB at h
    simp only [Bool.or_eq_true, decide_eq_true_eq] at h
    rcases h with ((h | h) | h) | h
    · omega
    · omega
    · omega
    · have hg := goodOp_key h
      refine ⟨hg.2.1, by omega, fun h1 => ?_⟩
      unfold goodOp at h
      simp only [Bool.and_eq_true] at h
      have := h.2.2
      rw [if_pos h1] at this
      simpa using this
  clear h
  obtain ⟨act, key, data, lo, hi, n⟩ := x
  dsimp only at *
  obtain ⟨ha, hb, hd⟩ := hr
  have hk : tx key.data.toList = key := tx_of key
  rcases (show act = 6 ∨ act = 7 ∨ act = 8 ∨ act = 0 ∨ act = 1 ∨ act = 2 ∨ act = 3 ∨ act = 4 ∨ act = 5 by omega) with rfl | rfl | rfl | rfl | rfl | rfl | rfl | rfl | rfl
  · exact ⟨_, _, rfl, rfl⟩
  · exact ⟨_, _, rfl, rfl⟩
  · exact ⟨_, _, rfl, rfl⟩
  · exact ⟨_, _, rfl, rfl⟩
  · refine ⟨_, _, rfl, ?_⟩
    show (bytesD (hexT data)).map (fun b => (⟨1, tx key.data.toList, b, 0, 0, 0⟩ : OpD)) = _
    rw [bytesD_hex (hd rfl)]
    rfl
  · refine ⟨_, _, rfl, ?_⟩
    show opNumsD wCreate (tx key.data.toList) (numsD ([lo, hi, n].map num)) = _
    rw [numsD_nums (by intro z hz; simp only [List.mem_cons, List.not_mem_nil, or_false] at hz; rcases hz with rfl | rfl | rfl <;> assumption)]
    rfl
  · exact ⟨_, _, rfl, rfl⟩
  · refine ⟨_, _, rfl, ?_⟩
    show opNumsD wInc (tx key.data.toList) (numsD ([n].map num)) = _
    rw [numsD_nums (by intro z hz; simp only [List.mem_cons, List.not_mem_nil, or_false] at hz; subst hz; assumption)]
    rfl
  · refine ⟨_, _, rfl, ?_⟩
    show opNumsD wDec (tx key.data.toList) (numsD ([n].map num)) = _
    rw [numsD_nums (by intro z hz; simp only [List.mem_cons, List.not_mem_nil, or_false] at hz; subst hz; assumption)]
    rfl
theorem actOf_act {a : ActD} (h : isActB a = true) (hi : ActIn a) : ∃ nm r, actW a = nm :: r ∧ actOfD nm r = some (plainAct a) := by
  obtain ⟨i1, i2, ⟨_, i3, i4, i5⟩, i6, i7, i8⟩ := hi
  unfold isActB at h
  simp only [Bool.and_eq_true, Bool.or_eq_true, Bool.not_eq_true', decide_eq_true_eq, decide_eq_false_iff_not] at h
  obtain ⟨⟨⟨⟨ha, hb⟩, hcl⟩, hop⟩, hpg⟩ := h
  obtain ⟨act, client, op, n, pages, log⟩ := a
  dsimp only at *
  rcases (show act = 0 ∨ act = 1 ∨ act = 2 ∨ act = 3 ∨ act = 4 ∨ act = 5 by omega) with rfl | rfl | rfl | rfl | rfl | rfl
  · have hc : isCallB op = true := by
      rcases hop with hn | hc
      · exact absurd rfl hn
      · exact hc
    obtain ⟨nm, r, e1, e2⟩ := opOf_call hc i3 i4 i5
    refine ⟨wCall, num client :: callW op, rfl, ?_⟩
    show callOfD (numsN (num client :: callW op) 1) (num client :: callW op) = _
    have e3 : numsN (num client :: callW op) 1 = some [client] := by
      unfold numsN
      rw [if_pos (by simp)]
      exact numsD_nums (ns := [client]) (by intro z hz; simp only [List.mem_cons, List.not_mem_nil, or_false] at hz; subst hz; assumption)
    rw [e3, e1]
    show (opOfD nm r).map _ = _
    rw [e2]
    rfl
  · refine ⟨_, _, rfl, ?_⟩
    have e3 := numsD_nums (ns := [client]) (by intro z hz; simp only [List.mem_cons, List.not_mem_nil, or_false] at hz; subst hz; assumption)
    simp only [List.map_cons, List.map_nil] at e3
    simp only [actOfD, e3]
    rfl
  · exact ⟨_, _, rfl, rfl⟩
  · refine ⟨_, _, rfl, ?_⟩
    have e3 := numsD_nums (ns := [n]) (by intro z hz; simp only [List.mem_cons, List.not_mem_nil, or_false] at hz; subst hz; assumption)
    simp only [List.map_cons, List.map_nil] at e3
    simp only [actOfD, e3]
    rfl
  · refine ⟨_, _, rfl, ?_⟩
    have e3 := numsD_nums (ns := log :: pages) (fun z hz => (List.mem_cons.1 hz).elim (fun e => e ▸ i7) (i8 z))
    show (match numsD ((log :: pages).map num) with | some (n :: r) => some { act00 with act := 4, pages := r, log := n } | _ => none) = _
    rw [e3]
    rfl
  · exact ⟨_, _, rfl, rfl⟩
theorem isCallB_plain {x : OpD} (h : isCallB x = true) : isCallB (plainOp x) = true ∧ callT (plainOp x) = callT x := by
  have hr : 0 ≤ x.act ∧ x.act ≤ 8 := by
    unfold isCallB at h
    simp only [Bool.or_eq_true, decide_eq_true_eq] at h
    rcases h with ((h | h) | h) | h
    · omega
    · omega
    · omega
    · have hg := goodOp_key h
      omega
  obtain ⟨act, key, data, lo, hi, n⟩ := x
  dsimp only at *
  rcases (show act = 6 ∨ act = 7 ∨ act = 8 ∨ act = 0 ∨ act = 1 ∨ act = 2 ∨ act = 3 ∨ act = 4 ∨ act = 5 by omega) with rfl | rfl | rfl | rfl | rfl | rfl | rfl | rfl | rfl
  all_goals refine ⟨?_, rfl⟩
  all_goals first
    | rfl
    | exact h
    | (simpa [isCallB, goodOp, plainOp] using h)
theorem plain_keeps {a : ActD} (h : isActB a = true) : isActB (plainAct a) = true ∧ actT (plainAct a) = actT a := by
  unfold isActB at h
  simp only [Bool.and_eq_true, Bool.or_eq_true, Bool.not_eq_true', decide_eq_true_eq, decide_eq_false_iff_not] at h
  obtain ⟨⟨⟨⟨ha, hb⟩, hcl⟩, hop⟩, hpg⟩ := h
  obtain ⟨act, client, op, n, pages, log⟩ := a
  dsimp only at *
  rcases (show act = 0 ∨ act = 1 ∨ act = 2 ∨ act = 3 ∨ act = 4 ∨ act = 5 by omega) with rfl | rfl | rfl | rfl | rfl | rfl
  · have hc : isCallB op = true := by
      rcases hop with hn | hc
      · exact absurd rfl hn
      · exact hc
    have hp := isCallB_plain hc
    refine ⟨?_, ?_⟩
    · simp [isActB, plainAct, hp.1]
      omega
    · simp [actT, plainAct, hp.2]
  · refine ⟨?_, rfl⟩
    simp [isActB, plainAct]
    omega
  · exact ⟨rfl, rfl⟩
  · exact ⟨rfl, rfl⟩
  · refine ⟨?_, rfl⟩
    simp [isActB, plainAct]
    omega
  · exact ⟨rfl, rfl⟩
/-- An act that may be, its text read again. -/
theorem parseD_act {a : ActD} (h : isActB a = true) (hi : ActIn a) : parseD (actT a) = some (plainAct a) := by
  obtain ⟨nm, r, e1, e2⟩ := actOf_act h hi
  have hw := words_act h
  have hl := actW_len h
  have hp := plain_keeps h
  unfold parseD
  rw [hw, if_neg (by omega), e1]
  simp only [e2]
  rw [if_pos (by unfold lineD; rw [if_pos hp.1, hp.2])]
/-! ### what is read is small -/
theorem opNumsD_in {name : List UInt8} {k : ByteArray} {o : Option (List Int)} {x : OpD} (h : opNumsD name k o = some x) (hi : ∀ ns, o = some ns → ∀ n ∈ ns, inI n) : (inI x.act ∧ inI x.lo ∧ inI x.hi ∧ inI x.n) ∧ x.data = [] ∧ x.key = k := by
  have z : inI 0 := ⟨by omega, by omega⟩
  unfold opNumsD at h
  split at h
  · rename_i a b c
    have hm := hi _ rfl
    split at h
    · injection h with h; subst h
      exact ⟨⟨⟨by dsimp only; omega, by dsimp only; omega⟩, hm a (by simp), hm b (by simp), hm c (by simp)⟩, rfl, rfl⟩
    · cases h
  · rename_i a
    have hm := hi _ rfl
    split at h
    · injection h with h; subst h
      exact ⟨⟨⟨by dsimp only; omega, by dsimp only; omega⟩, z, z, hm a (by simp)⟩, rfl, rfl⟩
    · split at h
      · injection h with h; subst h
        exact ⟨⟨⟨by dsimp only; omega, by dsimp only; omega⟩, z, z, hm a (by simp)⟩, rfl, rfl⟩
      · cases h
  · cases h
theorem opOfD_in {name : List UInt8} {w : List (List UInt8)} {x : OpD} {K : Nat} (h : opOfD name w = some x) (hK : ∀ l ∈ w, l.length ≤ K) : (inI x.act ∧ inI x.lo ∧ inI x.hi ∧ inI x.n) ∧ x.data.length ≤ 32 ∧ x.key.size ≤ K := by
  have z : inI 0 := ⟨by omega, by omega⟩
  have zk : ((⟨#[]⟩ : ByteArray).size) ≤ K := Nat.zero_le _
  have w1 : ∀ a : Int, 0 ≤ a → a ≤ 8 → inI a := fun a h1 h2 => ⟨by omega, by omega⟩
  unfold opOfD at h
  by_cases h1 : name = wBegin
  · rw [if_pos h1] at h; split at h
    · injection h with h; subst h; exact ⟨⟨w1 _ (by first | decide | (dsimp only; omega)) (by first | decide | (dsimp only; omega)), z, z, z⟩, by simp, zk⟩
    · cases h
  rw [if_neg h1] at h
  by_cases h2 : name = wCommit
  · rw [if_pos h2] at h; split at h
    · injection h with h; subst h; exact ⟨⟨w1 _ (by first | decide | (dsimp only; omega)) (by first | decide | (dsimp only; omega)), z, z, z⟩, by simp, zk⟩
    · cases h
  rw [if_neg h2] at h
  by_cases h3 : name = wAbort
  · rw [if_pos h3] at h; split at h
    · injection h with h; subst h; exact ⟨⟨w1 _ (by first | decide | (dsimp only; omega)) (by first | decide | (dsimp only; omega)), z, z, z⟩, by simp, zk⟩
    · cases h
  rw [if_neg h3] at h
  cases w with
  | nil => cases h
  | cons key r =>
    have hkey : (tx key).size ≤ K := by rw [tx_size]; exact hK key List.mem_cons_self
    simp only [opKeyD] at h
    split at h
    · split at h
      · injection h with h; subst h; exact ⟨⟨w1 _ (by first | decide | (dsimp only; omega)) (by first | decide | (dsimp only; omega)), z, z, z⟩, by simp, hkey⟩
      · cases h
    · split at h
      · split at h
        · injection h with h; subst h; exact ⟨⟨w1 _ (by first | decide | (dsimp only; omega)) (by first | decide | (dsimp only; omega)), z, z, z⟩, by simp, hkey⟩
        · cases h
      · split at h
        · split at h
          · rename_i x1
            cases hb : bytesD x1 with
            | none => rw [hb] at h; cases h
            | some b => rw [hb] at h; simp only [Option.map_some, Option.some.injEq] at h; subst h; exact ⟨⟨w1 _ (by first | decide | (dsimp only; omega)) (by first | decide | (dsimp only; omega)), z, z, z⟩, bytesD_len hb, hkey⟩
          · cases h
        · obtain ⟨h1, h2, h3⟩ := opNumsD_in h (fun ns e => numsD_in e)
          exact ⟨h1, by rw [h2]; simp, by rw [h3]; exact hkey⟩
theorem numsN_in {ws : List (List UInt8)} {k : Nat} {ns : List Int} (h : numsN ws k = some ns) : ∀ n ∈ ns, inI n := by
  unfold numsN at h
  split at h
  · exact numsD_in h
  · cases h
theorem actOfD_in {name : List UInt8} {w : List (List UInt8)} {a : ActD} {K : Nat} (h : actOfD name w = some a) (hK : ∀ l ∈ w, l.length ≤ K) : ActIn a ∧ a.op.data.length ≤ 32 ∧ a.op.key.size ≤ K ∧ a.pages.length ≤ w.length := by
  have z : inI 0 := ⟨by omega, by omega⟩
  have zk : ((⟨#[]⟩ : ByteArray).size) ≤ K := Nat.zero_le _
  have w1 : ∀ a : Int, 0 ≤ a → a ≤ 8 → inI a := fun a h1 h2 => ⟨by omega, by omega⟩
  unfold actOfD at h
  split at h
  · unfold callOfD at h
    split at h
    · rename_i n x1 nm r hn
      cases ho : opOfD nm r with
      | none => rw [ho] at h; cases h
      | some x =>
        rw [ho] at h
        simp only [Option.map_some, Option.some.injEq] at h
        subst h
        obtain ⟨h1, h2, h3⟩ := opOfD_in ho (fun l hl => hK l (by simp [hl]))
        exact ⟨⟨z, numsN_in hn n (by simp), h1, z, z, fun p hp => by cases hp⟩, h2, h3, Nat.zero_le _⟩
    · cases h
  · split at h
    · split at h
      · rename_i n hn
        injection h with h; subst h
        exact ⟨⟨w1 _ (by first | decide | (dsimp only; omega)) (by first | decide | (dsimp only; omega)), numsD_in hn n (by simp), ⟨z, z, z, z⟩, z, z, fun p hp => by cases hp⟩, by simp [act00, op00], zk, Nat.zero_le _⟩
      · cases h
    · split at h
      · split at h
        · injection h with h; subst h
          exact ⟨⟨w1 _ (by first | decide | (dsimp only; omega)) (by first | decide | (dsimp only; omega)), z, ⟨z, z, z, z⟩, z, z, fun p hp => by cases hp⟩, by simp [act00, op00], zk, Nat.zero_le _⟩
        · cases h
      · split at h
        · split at h
          · rename_i n hn
            injection h with h; subst h
            exact ⟨⟨w1 _ (by first | decide | (dsimp only; omega)) (by first | decide | (dsimp only; omega)), z, ⟨z, z, z, z⟩, numsD_in hn n (by simp), z, fun p hp => by cases hp⟩, by simp [act00, op00], zk, Nat.zero_le _⟩
          · cases h
        · split at h
          · split at h
            · rename_i n r hn
              have hm := numsD_in hn
              have hl := numsD_length hn
              injection h with h; subst h
              exact ⟨⟨w1 _ (by first | decide | (dsimp only; omega)) (by first | decide | (dsimp only; omega)), z, ⟨z, z, z, z⟩, z, hm n (by simp), fun p hp => hm p (List.mem_cons_of_mem _ hp)⟩, by simp [act00, op00], zk, by simp only [List.length_cons] at hl; dsimp only; omega⟩
            · cases h
          · split at h
            · split at h
              · injection h with h; subst h
                exact ⟨⟨w1 _ (by first | decide | (dsimp only; omega)) (by first | decide | (dsimp only; omega)), z, ⟨z, z, z, z⟩, z, z, fun p hp => by cases hp⟩, by simp [act00, op00], zk, Nat.zero_le _⟩
              · cases h
            · cases h
theorem opSm_of {a : ActD} (hp : plainAct a = a) (hB : isActB a = true) (hi : ActIn a) (hd : a.op.data.length ≤ 32) : OpSm a.op := by
  obtain ⟨_, _, h3, _⟩ := hi
  refine ⟨?_, by omega, h3.1, h3.2.1, h3.2.2.1, h3.2.2.2⟩
  have ho := congrArg ActD.op hp
  by_cases h0 : a.act = 0
  · have hc : isCallB a.op = true := by
      unfold isActB at hB
      simp only [Bool.and_eq_true, Bool.or_eq_true, Bool.not_eq_true', decide_eq_true_eq, decide_eq_false_iff_not] at hB
      rcases hB.1.2 with h | h
      · exact absurd h0 h
      · exact h
    have hpo : plainOp a.op = a.op := by
      have : (plainAct a).op = plainOp a.op := by unfold plainAct; dsimp only; rw [if_pos h0]
      rw [← this]; exact ho
    by_cases h5 : 5 < a.op.act
    · have : (plainOp a.op).key = ⟨#[]⟩ := by unfold plainOp; rw [if_pos h5]
      rw [← hpo, this]
      exact Nat.zero_le _
    · have hg : goodOp a.op = true := by
        unfold isCallB at hc
        simp only [Bool.or_eq_true, decide_eq_true_eq] at hc
        rcases hc with ((h | h) | h) | h
        · omega
        · omega
        · omega
        · exact h
      have hk := (goodOp_key hg).1
      unfold goodKey at hk
      simp only [Bool.and_eq_true, decide_eq_true_eq] at hk
      omega
  · have : (plainAct a).op = op00 := by unfold plainAct; dsimp only; rw [if_neg h0]
    rw [this] at ho
    rw [← ho]
    exact Nat.zero_le _
theorem words_len : ∀ (f : Nat) (l : List UInt8), ∀ x ∈ wordsOf' f l, x.length ≤ l.length
  | 0, _, x, h => by cases h
  | f + 1, l, x, h => by
    have hc : (Lib.cut l [32]).1.length ≤ l.length ∧ (Lib.cut l [32]).2.1.length ≤ l.length := by
      unfold Lib.cut
      split
      · simp only [List.length_take, List.length_drop]; omega
      · simp
    unfold wordsOf' at h
    split at h
    · rcases List.mem_cons.1 h with rfl | h
      · exact hc.1
      · exact Nat.le_trans (words_len f _ x h) hc.2
    · rw [List.mem_singleton] at h
      subst h
      exact hc.1
end Go.Proofs.YtgokkbocboonnaaDoor
namespace Go.Proofs.YtgokkbocboonnaaDoor
open Go.RowKit Go.Lib

theorem cut_len10 (l : List UInt8) (c : UInt8) : ((Lib.cut l [c]).2.2 = true → (Lib.cut l [c]).2.1.length + 1 ≤ l.length) ∧ ((Lib.cut l [c]).2.2 = false → (Lib.cut l [c]).2.1 = []) := by
  unfold Lib.cut
  split
  · rename_i h
    have := Lib.index_room l [c] h
    simp at this
    refine ⟨fun _ => ?_, fun h => by cases h⟩
    simp
    omega
  · exact ⟨fun h => (by cases h), fun _ => rfl⟩
theorem cut_rest {l : List UInt8} (c : UInt8) (h : l ≠ []) : (Lib.cut l [c]).2.1.length < l.length := by
  have h1 := cut_len10 l c
  have h2 := List.length_pos_iff.2 h
  cases hb : (Lib.cut l [c]).2.2
  · rw [h1.2 hb]
    exact h2
  · have := h1.1 hb
    omega
/-- The lines of a text, and whether each is whole. -/
def lines' : Nat → List UInt8 → List (List UInt8 × Bool)
  | 0, _ => []
  | f + 1, l => if l = [] then [] else ((Lib.cut l [10]).1, (Lib.cut l [10]).2.2) :: lines' f (Lib.cut l [10]).2.1
theorem lines'_fuel : ∀ (f g : Nat) (l : List UInt8), l.length < f → l.length < g → lines' f l = lines' g l
  | 0, _, _, h, _ => absurd h (by omega)
  | _, 0, _, _, h => absurd h (by omega)
  | f + 1, g + 1, l, h, h' => by
    unfold lines'
    by_cases hl : l = []
    · rw [if_pos hl, if_pos hl]
    · have := cut_rest 10 hl
      rw [if_neg hl, if_neg hl, lines'_fuel f g _ (by omega) (by omega)]
def linesD (l : List UInt8) : List (List UInt8 × Bool) := lines' (l.length + 1) l
theorem linesD_nil : linesD [] = [] := rfl
theorem linesD_step {l : List UInt8} (h : l ≠ []) : linesD l = ((Lib.cut l [10]).1, (Lib.cut l [10]).2.2) :: linesD (Lib.cut l [10]).2.1 := by
  have := cut_rest 10 h
  unfold linesD
  rw [lines', if_neg h, lines'_fuel l.length ((Lib.cut l [10]).2.1.length + 1) _ (by omega) (by omega)]
theorem linesD_hit {t r : List UInt8} (h : (10 : UInt8) ∉ t) : linesD (t ++ 10 :: r) = (t, true) :: linesD r := by
  rw [linesD_step (by simp), cut_hit h]
theorem linesD_miss {t : List UInt8} (h : (10 : UInt8) ∉ t) (h0 : t ≠ []) : linesD t = [(t, false)] := by
  rw [linesD_step h0, cut_miss h]
  rfl
theorem linesD_len (l : List UInt8) : (linesD l).length ≤ l.length := by
  have : ∀ (n : Nat) (l : List UInt8), l.length = n → (linesD l).length ≤ l.length := by
    intro n
    induction n using Nat.strongRecOn with
    | ind n ih =>
      intro l hl
      by_cases h : l = []
      · subst h; simp [linesD_nil]
      · have hr := cut_rest 10 h
        have := ih _ (by omega) (Lib.cut l [10]).2.1 rfl
        rw [linesD_step h, List.length_cons]
        omega
  exact this _ l rfl
/-- What act.Read reads of lines. -/
def readL : List (List UInt8 × Bool) → Option (List ActD)
  | [] => some []
  | (x, b) :: r => if b = false then none else match parseD x with | none => none | some a => (readL r).map (a :: ·)
def readD (s : List UInt8) : Option (List ActD) := readL (linesD s)
/-- What act.Print tells. -/
def scriptT (l : List ActD) : List UInt8 := l.flatMap fun a => actT a ++ [10]
def printD (l : List ActD) : Option (List UInt8) := if l.all isActB = true then some (scriptT l) else none
theorem scriptT_append (l m : List ActD) : scriptT (l ++ m) = scriptT l ++ scriptT m := by simp [scriptT]
theorem scriptT_cons (a : ActD) (l : List ActD) : scriptT (a :: l) = actT a ++ 10 :: scriptT l := by simp [scriptT]
theorem actT_line {a : ActD} (h : isActB a = true) : (10 : UInt8) ∉ actT a := by
  rw [← actW_join]
  have hc := actW_clear h
  generalize actW a = ws at hc
  intro hm
  have : ∀ (ws : List (List UInt8)), (∀ w ∈ ws, Clear w) → (10 : UInt8) ∉ joinW ws := by
    intro ws
    induction ws with
    | nil => intro _ h; cases h
    | cons w r ih =>
      intro hc h
      cases r with
      | nil => have := hc w (by simp) 10 h; simp at this
      | cons v r =>
        rw [joinW_cons w (by simp), List.mem_append, List.mem_cons] at h
        rcases h with h | h | h
        · have := hc w (by simp) 10 h; simp at this
        · cases h
        · exact ih (fun x hx => hc x (List.mem_cons_of_mem _ hx)) h
  exact this ws hc hm
theorem actT_ne {a : ActD} : actT a ≠ [] := by
  unfold actT
  repeat' split
  all_goals simp
theorem readD_print : ∀ {l : List ActD}, (∀ a ∈ l, isActB a = true ∧ ActIn a) → readD (scriptT l) = some (l.map plainAct)
  | [], _ => rfl
  | a :: l, h => by
    have ha := h a List.mem_cons_self
    have ih := readD_print (l := l) (fun x hx => h x (List.mem_cons_of_mem _ hx))
    unfold readD at ih ⊢
    rw [scriptT_cons, linesD_hit (actT_line ha.1)]
    simp only [readL, parseD_act ha.1 ha.2, ih]
    rfl
theorem cut_whole {l : List UInt8} (h : (Lib.cut l [10]).2.2 = true) : l = (Lib.cut l [10]).1 ++ 10 :: (Lib.cut l [10]).2.1 := by
  by_cases hm : (10 : UInt8) ∈ l
  · obtain ⟨a, r, rfl, hn⟩ : ∃ a r, l = a ++ 10 :: r ∧ (10 : UInt8) ∉ a := by
      clear h
      induction l with
      | nil => cases hm
      | cons x t ih =>
        by_cases hx : x = 10
        · subst hx; exact ⟨[], t, rfl, by simp⟩
        · have ht : (10 : UInt8) ∈ t := by
            rcases List.mem_cons.1 hm with e | e
            · exact absurd e.symm hx
            · exact e
          obtain ⟨a, r, e, hn⟩ := ih ht
          exact ⟨x :: a, r, by rw [e]; rfl, by simp [hn]; exact fun e => hx e.symm⟩
    rw [cut_hit hn]
  · rw [cut_miss hm] at h
    cases h
theorem readD_some {s : List UInt8} {l : List ActD} (h : readD s = some l) : scriptT l = s ∧ ∀ a ∈ l, isActB a = true ∧ plainAct a = a := by
  have : ∀ (n : Nat) (s : List UInt8) (l : List ActD), s.length = n → readD s = some l → scriptT l = s ∧ ∀ a ∈ l, isActB a = true ∧ plainAct a = a := by
    intro n
    induction n using Nat.strongRecOn with
    | ind n ih =>
      intro s l hs h
      by_cases h0 : s = []
      · subst h0
        simp only [readD, linesD_nil, readL, Option.some.injEq] at h
        subst h
        exact ⟨rfl, fun a ha => by cases ha⟩
      · have hr := cut_rest 10 h0
        unfold readD at h
        rw [linesD_step h0] at h
        simp only [readL] at h
        cases hb : (Lib.cut s [10]).2.2
        · rw [hb] at h; cases h
        · rw [hb] at h
          simp only [Bool.true_eq_false, if_false] at h
          cases hp : parseD (Lib.cut s [10]).1 with
          | none => rw [hp] at h; cases h
          | some a =>
            rw [hp] at h
            cases hq : readL (linesD (Lib.cut s [10]).2.1) with
            | none => simp only [hq] at h; cases h
            | some t =>
              simp only [hq, Option.map_some, Option.some.injEq] at h
              subst h
              obtain ⟨e1, e2⟩ := ih _ (by omega) (Lib.cut s [10]).2.1 t rfl hq
              obtain ⟨_, nm, w, hw, hof, hB, hT⟩ := parseD_some hp
              have hpl := actOfD_plain hof
              refine ⟨?_, fun x hx => ?_⟩
              · rw [scriptT_cons, hT, e1]
                exact (cut_whole hb).symm
              · rcases List.mem_cons.1 hx with rfl | hx
                · exact ⟨hB, hpl⟩
                · exact e2 x hx
  exact this _ s l rfl h
/-- A text that was cut is a script just if it was cut behind a line. -/
theorem readD_cut : ∀ {l : List ActD} (c : Nat), (∀ a ∈ l, isActB a = true ∧ ActIn a) → 1 ≤ c → (hc : c ≤ (scriptT l).length) → (readD ((scriptT l).take c)).isSome = decide ((scriptT l)[c - 1]? = some 10)
  | [], c, _, h1, h2 => by simp [scriptT] at h2; omega
  | a :: l, c, h, h1, h2 => by
    have ha := h a List.mem_cons_self
    have hn := actT_line ha.1
    have h2' := h2
    rw [scriptT_cons] at h2' ⊢
    simp only [List.length_append, List.length_cons] at h2'
    rcases Nat.lt_or_ge (actT a).length c with hlt | hge
    · obtain ⟨d, rfl⟩ : ∃ d, c = (actT a).length + 1 + d := ⟨c - (actT a).length - 1, by omega⟩
      have e1 : (actT a ++ 10 :: scriptT l).take ((actT a).length + 1 + d) = actT a ++ 10 :: (scriptT l).take d := by
        rw [List.take_append, List.take_of_length_le (by omega), show (actT a).length + 1 + d - (actT a).length = d + 1 by omega, List.take_succ_cons]
      rw [e1]
      unfold readD
      rw [linesD_hit hn]
      simp only [readL, parseD_act ha.1 ha.2]
      rw [List.getElem?_append_right (by omega), show (actT a).length + 1 + d - 1 - (actT a).length = d by omega]
      cases d with
      | zero => rfl
      | succ d =>
        have ih := readD_cut (l := l) (d + 1) (fun x hx => h x (List.mem_cons_of_mem _ hx)) (by omega) (by omega)
        unfold readD at ih
        rw [List.getElem?_cons_succ]
        simp only [Nat.add_sub_cancel] at ih
        rw [← ih]
        cases readL (linesD ((scriptT l).take (d + 1))) <;> rfl
    · have e1 : (actT a ++ 10 :: scriptT l).take c = (actT a).take c := by
        rw [List.take_append, show c - (actT a).length = 0 by omega]
        simp
      have hn' : (10 : UInt8) ∉ (actT a).take c := fun hm => hn (List.mem_of_mem_take hm)
      have hne : (actT a).take c ≠ [] := fun e => by
        have := congrArg List.length e
        have hp := List.length_pos_iff.2 (actT_ne (a := a))
        rw [List.length_take, List.length_nil] at this
        omega
      rw [e1]
      unfold readD
      rw [linesD_miss hn' hne]
      have hlt : c - 1 < (actT a).length := by omega
      rw [List.getElem?_append_left hlt, List.getElem?_eq_getElem hlt]
      have : (actT a)[c - 1] ≠ 10 := fun e => hn (e ▸ List.getElem_mem hlt)
      simp [readL, this]
end Go.Proofs.YtgokkbocboonnaaDoor
