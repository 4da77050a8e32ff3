/-
  TEXTS READ AS ACTS, plainly (P31.2, P31.4): what act.Parse reads; an act's text is read as what counts of it. No program.
-/
import Derived.Test.YtgokkbocboonnaaDoorAA
import Derived.Test.YtgokkbocboonnaaDoorAB
namespace Go.Proofs.YtgokkbocboonnaaDoor
open Go.RowKit Go.Lib

/-! ### numbers -/
def okA (x : List UInt8) : Option Int := match Lib.atoiAll x with | .ok v => some v | _ => none
/-- Words as numbers, if they are. -/
def numsD : List (List UInt8) → Option (List Int)
  | [] => some []
  | x :: r => match okA x with | some v => (numsD r).map (v :: ·) | none => none
def numsN (ws : List (List UInt8)) (n : Nat) : Option (List Int) := if n ≤ ws.length then numsD (ws.take n) else none
theorem numsD_length : ∀ {ws : List (List UInt8)} {ns : List Int}, numsD ws = some ns → ns.length = ws.length
  | [], ns, h => by simp only [numsD, Option.some.injEq] at h; subst h; rfl
  | x :: r, ns, h => by
    simp only [numsD] at h
    split at h
    · cases hr : numsD r with
      | none => rw [hr] at h; cases h
      | some t =>
        rw [hr] at h
        simp only [Option.map_some, Option.some.injEq] at h
        subst h
        simp [numsD_length hr]
    · cases h
theorem numsD_snoc {a : List (List UInt8)} {x : List UInt8} {ns : List Int} : numsD a = some ns → (∀ v, okA x = some v → numsD (a ++ [x]) = some (ns ++ [v])) ∧ (∀ b, okA x = none → numsD (a ++ x :: b) = none) := by
  induction a generalizing ns with
  | nil =>
    intro h
    simp only [numsD, Option.some.injEq] at h
    subst h
    exact ⟨fun v hv => by simp [numsD, hv], fun b hv => by simp [numsD, hv]⟩
  | cons y r ih =>
    intro h
    simp only [numsD] at h
    split at h
    · rename_i v hv
      cases hr : numsD r with
      | none => rw [hr] at h; cases h
      | some t =>
        rw [hr] at h
        simp only [Option.map_some, Option.some.injEq] at h
        subst h
        have hi := ih hr
        refine ⟨fun u hu => ?_, fun b hu => ?_⟩
        · simp only [List.cons_append, numsD, hv, hi.1 u hu, Option.map_some]
        · simp only [List.cons_append, numsD, hv, hi.2 b hu, Option.map_none]
    · cases h
theorem okA_in {x : List UInt8} {v : Int} (h : okA x = some v) : inI v := by
  unfold okA at h
  split at h
  · rename_i v' hv
    injection h with h
    subst h
    exact Lib.atoiAll_bounds hv
  · cases h
theorem numsD_in : ∀ {ws : List (List UInt8)} {ns : List Int}, numsD ws = some ns → ∀ n ∈ ns, inI n
  | [], ns, h => by simp only [numsD, Option.some.injEq] at h; subst h; simp
  | x :: r, ns, h => by
    simp only [numsD] at h
    split at h
    · rename_i v hv
      cases hr : numsD r with
      | none => rw [hr] at h; cases h
      | some t =>
        rw [hr] at h
        simp only [Option.map_some, Option.some.injEq] at h
        subst h
        intro n hn
        rcases List.mem_cons.1 hn with rfl | hn
        · exact okA_in hv
        · exact numsD_in hr n hn
    · cases h
theorem okA_num {n : Int} (h : inI n) : okA (num n) = some n := by unfold okA num; rw [atoi_itoa n h.1 h.2]
theorem numsD_nums : ∀ {ns : List Int}, (∀ n ∈ ns, inI n) → numsD (ns.map num) = some ns
  | [], _ => rfl
  | n :: r, h => by
    have ih := numsD_nums (ns := r) (fun x hx => h x (List.mem_cons_of_mem _ hx))
    simp only [List.map_cons, numsD, okA_num (h n List.mem_cons_self), ih, Option.map_some]

/-! ### bytes -/
def hexI (c : UInt8) : Int := Lib.indexByte [48, 49, 50, 51, 52, 53, 54, 55, 56, 57, 97, 98, 99, 100, 101, 102] c
def hexStep (bs : List Nat) (i d : Nat) : List Nat := bs.set (i / 2) ((bs.getD (i / 2) 0 * 16 + d) % 256)
def hexGo : List UInt8 → Nat → List Nat → Option (List Nat)
  | [], _, bs => some bs
  | c :: r, i, bs => if hexI c < 0 then none else hexGo r (i + 1) (hexStep bs i (hexI c).toNat)
/-- What act.bytesOf reads. -/
def bytesD (s : List UInt8) : Option (List UInt8) :=
  if s = [45] then some [] else if s.length % 2 ≠ 0 ∨ 64 < s.length then none else (hexGo s 0 (List.replicate (s.length / 2) 0)).map (·.map UInt8.ofNat)
theorem indexByte_lt' : ∀ (l : List UInt8) (c : UInt8), l ≠ [] → Lib.indexByte l c < l.length
  | [], _, h => absurd rfl h
  | [b], c, _ => by
    simp only [Lib.indexByte]
    split
    · simp
    · simp
  | b :: d :: l, c, _ => by
    have ih := indexByte_lt' (d :: l) c (by simp)
    unfold Lib.indexByte
    simp only [List.length_cons] at ih ⊢
    split
    · omega
    · split
      · omega
      · omega
theorem hexI_range (c : UInt8) : -1 ≤ hexI c ∧ hexI c < 16 := by
  have hg := Lib.indexByte_ge [48, 49, 50, 51, 52, 53, 54, 55, 56, 57, 97, 98, 99, 100, 101, 102] c
  have hl := indexByte_lt' [48, 49, 50, 51, 52, 53, 54, 55, 56, 57, 97, 98, 99, 100, 101, 102] c (by simp)
  exact ⟨hg, hl⟩
theorem hexI_hexC (k : Nat) (h : k < 16) : hexI (hexC k) = (k : Int) := by
  rcases (show k = 0 ∨ k = 1 ∨ k = 2 ∨ k = 3 ∨ k = 4 ∨ k = 5 ∨ k = 6 ∨ k = 7 ∨ k = 8 ∨ k = 9 ∨ k = 10 ∨ k = 11 ∨ k = 12 ∨ k = 13 ∨ k = 14 ∨ k = 15 by omega) with rfl | rfl | rfl | rfl | rfl | rfl | rfl | rfl | rfl | rfl | rfl | rfl | rfl | rfl | rfl | rfl <;> rfl
theorem hexGo_hexB : ∀ (bs : List UInt8) (pre : List Nat), hexGo (bs.flatMap hexB) (2 * pre.length) (pre ++ List.replicate bs.length 0) = some (pre ++ bs.map UInt8.toNat)
  | [], pre => by simp [hexGo]
  | b :: r, pre => by
    have hb : b.toNat < 256 := b.toNat_lt
    have h1 := hexI_hexC (b.toNat / 16) (by omega)
    have h2 := hexI_hexC (b.toNat % 16) (by omega)
    have e1 : hexStep (pre ++ List.replicate (b :: r).length 0) (2 * pre.length) (b.toNat / 16) = pre ++ (b.toNat / 16) :: List.replicate r.length 0 := by
      unfold hexStep
      rw [show 2 * pre.length / 2 = pre.length by omega, List.length_cons, List.replicate_succ]
      rw [List.set_append_right _ _ (Nat.le_refl _)]
      simp
      omega
    have e2 : hexStep (pre ++ (b.toNat / 16) :: List.replicate r.length 0) (2 * pre.length + 1) (b.toNat % 16) = (pre ++ [b.toNat]) ++ List.replicate r.length 0 := by
      unfold hexStep
      rw [show (2 * pre.length + 1) / 2 = pre.length by omega]
      rw [List.set_append_right _ _ (Nat.le_refl _)]
      simp
      omega
    have ih := hexGo_hexB r (pre ++ [b.toNat])
    simp only [List.length_append, List.length_singleton] at ih
    show hexGo (hexC (b.toNat / 16) :: hexC (b.toNat % 16) :: r.flatMap hexB) _ _ = _
    simp only [hexGo, h1, h2]
    rw [if_neg (by omega), if_neg (by omega), Int.toNat_natCast, Int.toNat_natCast, e1, e2, show 2 * pre.length + 1 + 1 = 2 * (pre.length + 1) by omega, ih]
    simp
theorem hexB_len (bs : List UInt8) : (bs.flatMap hexB).length = 2 * bs.length := by
  induction bs with
  | nil => rfl
  | cons a t ih => simp only [List.flatMap_cons, List.length_append, ih, hexB, List.length_cons, List.length_nil]; omega
theorem bytesD_hex {bs : List UInt8} (h : bs.length ≤ 32) : bytesD (hexT bs) = some bs := by
  unfold hexT
  by_cases h0 : bs = []
  · subst h0
    rfl
  · rw [if_neg h0]
    have hl := hexB_len bs
    have hne : bs.flatMap hexB ≠ [45] := fun e => by
      rw [e] at hl
      simp at hl
      omega
    unfold bytesD
    rw [if_neg hne, if_neg (by omega), hl, show 2 * bs.length / 2 = bs.length by omega]
    have := hexGo_hexB bs []
    simp only [List.length_nil, Nat.mul_zero, List.nil_append] at this
    rw [this]
    simp only [Option.map_some, List.map_map, Option.some.injEq]
    conv => rhs; rw [← List.map_id bs]
    apply List.map_congr_left
    intro x _
    simp
theorem hexGo_len : ∀ {s : List UInt8} {i : Nat} {bs r : List Nat}, hexGo s i bs = some r → r.length = bs.length
  | [], i, bs, r, h => by simp only [hexGo, Option.some.injEq] at h; rw [h]
  | c :: t, i, bs, r, h => by
    simp only [hexGo] at h
    split at h
    · cases h
    · rw [hexGo_len h]
      simp [hexStep]
theorem bytesD_len {s bs : List UInt8} (h : bytesD s = some bs) : bs.length ≤ 32 := by
  unfold bytesD at h
  split at h
  · injection h with h
    subst h
    simp
  · split at h
    · cases h
    · rename_i h1 h2
      cases hg : hexGo s 0 (List.replicate (s.length / 2) 0) with
      | none => rw [hg] at h; cases h
      | some r =>
        rw [hg] at h
        have := hexGo_len hg
        simp only [Option.map_some, Option.some.injEq] at h
        subst h
        simp at this ⊢
        omega

/-! ### calls, acts -/
def wBegin : List UInt8 := [98, 101, 103, 105, 110]
def wCommit : List UInt8 := [99, 111, 109, 109, 105, 116]
def wAbort : List UInt8 := [97, 98, 111, 114, 116]
def wRead : List UInt8 := [114, 101, 97, 100]
def wWrite : List UInt8 := [119, 114, 105, 116, 101]
def wCreate : List UInt8 := [99, 114, 101, 97, 116, 101]
def wDrop : List UInt8 := [100, 114, 111, 112]
def wInc : List UInt8 := [105, 110, 99]
def wDec : List UInt8 := [100, 101, 99]
def wCall : List UInt8 := [99, 97, 108, 108]
def wStep : List UInt8 := [115, 116, 101, 112]
def wCheck : List UInt8 := [99, 104, 101, 99, 107]
def wFuse : List UInt8 := [102, 117, 115, 101]
def wCrash : List UInt8 := [99, 114, 97, 115, 104]
def wOpen : List UInt8 := [111, 112, 101, 110]
/-- An operation with numbers. -/
def opNumsD (name : List UInt8) (key : ByteArray) : Option (List Int) → Option OpD
  | some [a, b, c] => if name = wCreate then some ⟨2, key, [], a, b, c⟩ else none
  | some [a] => if name = wInc then some ⟨4, key, [], 0, 0, a⟩ else if name = wDec then some ⟨5, key, [], 0, 0, a⟩ else none
  | _ => none
/-- One with a key. -/
def opKeyD (name key : List UInt8) (w : List (List UInt8)) : Option OpD :=
  if name = wRead then (if w.length = 0 then some ⟨0, tx key, [], 0, 0, 0⟩ else none)
  else if name = wDrop then (if w.length = 0 then some ⟨3, tx key, [], 0, 0, 0⟩ else none)
  else if name = wWrite then (match w with | [x] => (bytesD x).map fun b => ⟨1, tx key, b, 0, 0, 0⟩ | _ => none)
  else opNumsD name (tx key) (numsD w)
/-- What act.opOf reads. -/
def opOfD (name : List UInt8) (w : List (List UInt8)) : Option OpD :=
  if name = wBegin then (if w.length = 0 then some ⟨6, ⟨#[]⟩, [], 0, 0, 0⟩ else none)
  else if name = wCommit then (if w.length = 0 then some ⟨7, ⟨#[]⟩, [], 0, 0, 0⟩ else none)
  else if name = wAbort then (if w.length = 0 then some ⟨8, ⟨#[]⟩, [], 0, 0, 0⟩ else none)
  else match w with
    | [] => none
    | key :: r => opKeyD name key r
def act00 : ActD := ⟨0, 0, op00, 0, [], 0⟩
def callOfD : Option (List Int) → List (List UInt8) → Option ActD
  | some [n], _ :: name :: r => (opOfD name r).map fun x => { act00 with client := n, op := x }
  | _, _ => none
/-- What act.actOf reads. -/
def actOfD (name : List UInt8) (w : List (List UInt8)) : Option ActD :=
  if name = wCall then callOfD (numsN w 1) w
  else if name = wStep then (match numsD w with | some [n] => some { act00 with act := 1, client := n } | _ => none)
  else if name = wCheck then (if w.length = 0 then some { act00 with act := 2 } else none)
  else if name = wFuse then (match numsD w with | some [n] => some { act00 with act := 3, n := n } | _ => none)
  else if name = wCrash then (match numsD w with | some (n :: r) => some { act00 with act := 4, pages := r, log := n } | _ => none)
  else if name = wOpen then (if w.length = 0 then some { act00 with act := 5 } else none)
  else none
/-- What act.Line tells. -/
def lineD (a : ActD) : Option (List UInt8) := if isActB a = true then some (actT a) else none
/-- What act.Parse reads. -/
def parseD (s : List UInt8) : Option ActD :=
  if 63 < (wordsT s).length then none
  else match wordsT s with
    | [] => none
    | name :: w => match actOfD name w with
      | none => none
      | some a => if lineD a = some s then some a else none
theorem parseD_some {s : List UInt8} {a : ActD} (h : parseD s = some a) : (wordsT s).length ≤ 63 ∧ ∃ name w, wordsT s = name :: w ∧ actOfD name w = some a ∧ isActB a = true ∧ actT a = s := by
  unfold parseD at h
  split at h
  · cases h
  · rename_i hl
    refine ⟨by omega, ?_⟩
    split at h
    · cases h
    · rename_i name w hw
      split at h
      · cases h
      · rename_i b hb
        split at h
        · rename_i hL
          injection h with h
          subst h
          unfold lineD at hL
          split at hL
          · rename_i hB
            injection hL with hL
            exact ⟨name, w, hw, hb, hB, hL⟩
          · cases hL
        · cases h

/-! ### what is read is what counts of it -/
theorem opNumsD_plain {name : List UInt8} {k : ByteArray} {o : Option (List Int)} {x : OpD} (h : opNumsD name k o = some x) : plainOp x = x := by
  unfold opNumsD at h
  repeat' split at h
  all_goals (first | (cases h; done) | (injection h with h; subst h; rfl))
theorem opOfD_plain {name : List UInt8} {w : List (List UInt8)} {x : OpD} (h : opOfD name w = some x) : plainOp x = x := by
  unfold opOfD at h
  by_cases h1 : name = wBegin
  · rw [if_pos h1] at h; split at h
    · injection h with h; subst h; rfl
    · cases h
  rw [if_neg h1] at h
  by_cases h2 : name = wCommit
  · rw [if_pos h2] at h; split at h
    · injection h with h; subst h; rfl
    · cases h
  rw [if_neg h2] at h
  by_cases h3 : name = wAbort
  · rw [if_pos h3] at h; split at h
    · injection h with h; subst h; rfl
    · cases h
  rw [if_neg h3] at h
  cases w with
  | nil => cases h
  | cons key r =>
    simp only [opKeyD] at h
    split at h
    · split at h
      · injection h with h; subst h; rfl
      · cases h
    · split at h
      · split at h
        · injection h with h; subst h; rfl
        · cases h
      · split at h
        · split at h
          · rename_i x1
            cases hb : bytesD x1 with
            | none => rw [hb] at h; cases h
            | some b => rw [hb] at h; simp only [Option.map_some, Option.some.injEq] at h; subst h; rfl
          · cases h
        · exact opNumsD_plain h
theorem actOfD_plain {name : List UInt8} {w : List (List UInt8)} {a : ActD} (h : actOfD name w = some a) : plainAct a = a := by
  unfold actOfD at h
  split at h
  · unfold callOfD at h
    split at h
    · rename_i n x1 nm r _
      cases ho : opOfD nm r with
      | none => rw [ho] at h; cases h
      | some x =>
        rw [ho] at h
        simp only [Option.map_some, Option.some.injEq] at h
        subst h
        have := opOfD_plain ho
        simp [plainAct, act00, this]
    · cases h
  · repeat' split at h
    all_goals (first | (cases h; done) | (injection h with h; subst h; simp [plainAct, act00]))
end Go.Proofs.YtgokkbocboonnaaDoor
