/-
  AN ACT'S TEXT IS READ AS WHAT COUNTS OF IT, plainly (P31.2, P31.4). No program.
-/
import Derived.Test.YtgokkbocboonnaaDoorAE
namespace Go.Proofs.YtgokkbocboonnaaDoor
open Go.RowKit Go.Lib

theorem joinW_cons (w : List UInt8) {ws : List (List UInt8)} (h : ws ≠ []) : joinW (w :: ws) = w ++ 32 :: joinW ws := by
  cases ws with
  | nil => exact absurd rfl h
  | cons v r => rfl
theorem joinW_len : ∀ (ws : List (List UInt8)), ws.length ≤ (joinW ws).length + 1
  | [] => by simp
  | [w] => by simp
  | w :: v :: r => by
    have := joinW_len (v :: r)
    rw [joinW_cons w (by simp)]
    simp only [List.length_append, List.length_cons] at this ⊢
    omega
/-- A call's words. -/
def callW (x : OpD) : List (List UInt8) :=
  if x.act = 6 then [wBegin] else if x.act = 7 then [wCommit] else if x.act = 8 then [wAbort]
  else if x.act = 0 then [wRead, x.key.data.toList]
  else if x.act = 1 then [wWrite, x.key.data.toList, hexT x.data]
  else if x.act = 2 then [wCreate, x.key.data.toList, num x.lo, num x.hi, num x.n]
  else if x.act = 3 then [wDrop, x.key.data.toList]
  else if x.act = 4 then [wInc, x.key.data.toList, num x.n]
  else [wDec, x.key.data.toList, num x.n]
theorem callW_join (x : OpD) : joinW (callW x) = callT x ∧ callW x ≠ [] := by
  unfold callW callT
  repeat' split
  all_goals exact ⟨rfl, by simp⟩
/-- An act's words. -/
def actW (a : ActD) : List (List UInt8) :=
  if a.act = 0 then wCall :: num a.client :: callW a.op
  else if a.act = 1 then [wStep, num a.client]
  else if a.act = 2 then [wCheck]
  else if a.act = 3 then [wFuse, num a.n]
  else if a.act = 4 then wCrash :: (a.log :: a.pages).map num
  else [wOpen]
theorem joinW_nums (w : List UInt8) (ns : List Int) : joinW (w :: ns.map num) = w ++ numsT ns := by
  induction ns generalizing w with
  | nil => simp [joinW, numsT]
  | cons n r ih =>
    rw [List.map_cons, joinW_cons _ (by simp), ih]
    simp [numsT]
theorem actW_join (a : ActD) : joinW (actW a) = actT a := by
  unfold actW actT
  split
  · have h := callW_join a.op
    rw [joinW_cons _ (by simp), joinW_cons _ h.2, h.1]
    simp [wCall]
  · split
    · rfl
    · split
      · rfl
      · split
        · rfl
        · split
          · exact joinW_nums _ _
          · rfl
theorem hexC_low (k : Nat) (h : k < 16) : 48 ≤ (hexC k).toNat := by
  rcases (show k = 0 ∨ k = 1 ∨ k = 2 ∨ k = 3 ∨ k = 4 ∨ k = 5 ∨ k = 6 ∨ k = 7 ∨ k = 8 ∨ k = 9 ∨ k = 10 ∨ k = 11 ∨ k = 12 ∨ k = 13 ∨ k = 14 ∨ k = 15 by omega) with rfl | rfl | rfl | rfl | rfl | rfl | rfl | rfl | rfl | rfl | rfl | rfl | rfl | rfl | rfl | rfl <;> decide
/-- No byte at or below 32. -/
def Clear (w : List UInt8) : Prop := ∀ c ∈ w, 32 < c.toNat
theorem hexT_clear (bs : List UInt8) : Clear (hexT bs) := by
  intro c hc
  unfold hexT at hc
  split at hc
  · rw [List.mem_singleton] at hc
    subst hc
    decide
  · obtain ⟨b, _, hb⟩ := List.mem_flatMap.1 hc
    have hb1 : b.toNat < 256 := b.toNat_lt
    have h1 := hexC_low (b.toNat / 16) (by omega)
    have h2 := hexC_low (b.toNat % 16) (by omega)
    simp only [hexB, List.mem_cons, List.not_mem_nil, or_false] at hb
    rcases hb with rfl | rfl <;> omega
theorem num_clear (n : Int) : Clear (num n) := by
  intro c hc
  unfold num itoa at hc
  split at hc
  · rcases List.mem_cons.1 hc with rfl | hc
    · decide
    · have := decDigits_dig _ c hc
      omega
  · have := decDigits_dig _ c hc
    omega
theorem key_clear {k : ByteArray} (h : goodKey k = true) : Clear k.data.toList := by
  intro c hc
  unfold goodKey at h
  simp only [Bool.and_eq_true, List.all_eq_true] at h
  have := h.1 c hc
  unfold okByte at this
  simp only [decide_eq_true_eq] at this
  omega
theorem callW_clear {x : OpD} (h : isCallB x = true) : ∀ w ∈ callW x, Clear w := by
  have hk : ¬ (x.act = 6 ∨ x.act = 7 ∨ x.act = 8) → Clear x.key.data.toList := fun hn => by
    unfold isCallB at h
    simp only [Bool.or_eq_true, decide_eq_true_eq] at h
    refine key_clear (goodOp_key (x := x) ?_).1
    rcases h with ((h | h) | h) | h
    · exact absurd (.inl h) hn
    · exact absurd (.inr (.inl h)) hn
    · exact absurd (.inr (.inr h)) hn
    · exact h
  unfold callW
  by_cases h6 : x.act = 6
  · rw [if_pos h6]; intro w hw; rw [List.mem_singleton] at hw; subst hw; unfold Clear; decide
  by_cases h7 : x.act = 7
  · rw [if_neg h6, if_pos h7]; intro w hw; rw [List.mem_singleton] at hw; subst hw; unfold Clear; decide
  by_cases h8 : x.act = 8
  · rw [if_neg h6, if_neg h7, if_pos h8]; intro w hw; rw [List.mem_singleton] at hw; subst hw; unfold Clear; decide
  rw [if_neg h6, if_neg h7, if_neg h8]
  have hk' := hk (by omega)
  repeat' split
  all_goals
    intro w hw
    simp only [List.mem_cons, List.not_mem_nil, or_false] at hw
    rcases hw with rfl | rfl | rfl | rfl | rfl <;> first | exact hk' | exact num_clear _ | exact hexT_clear _ | (unfold Clear; decide)
theorem actW_clear {a : ActD} (h : isActB a = true) : ∀ w ∈ actW a, Clear w := by
  unfold isActB at h
  simp only [Bool.and_eq_true, Bool.or_eq_true, Bool.not_eq_true', decide_eq_true_eq, decide_eq_false_iff_not] at h
  unfold actW
  split
  · rename_i h0
    have hc : isCallB a.op = true := by
      rcases h.1.2 with hn | hc
      · exact absurd h0 hn
      · exact hc
    intro w hw
    rcases List.mem_cons.1 hw with rfl | hw
    · unfold Clear; decide
    · rcases List.mem_cons.1 hw with rfl | hw
      · exact num_clear _
      · exact callW_clear hc w hw
  · repeat' split
    all_goals
      intro w hw
      first
        | (simp only [List.mem_cons, List.not_mem_nil, or_false] at hw
           rcases hw with rfl | rfl <;> first | exact num_clear _ | (unfold Clear; decide))
        | (rcases List.mem_cons.1 hw with rfl | hw
           · unfold Clear; decide
           · obtain ⟨n, _, rfl⟩ := List.mem_map.1 hw
             exact num_clear n)
theorem clear_blank {w : List UInt8} (h : Clear w) : (32 : UInt8) ∉ w := fun hc => by have := h 32 hc; simp at this
theorem words_act {a : ActD} (h : isActB a = true) : wordsT (actT a) = actW a := by
  have hw : actW a ≠ [] := by unfold actW; (repeat' split) <;> simp
  unfold wordsT
  rw [← actW_join]
  exact words_join (actW a) _ hw (fun w hw => clear_blank (actW_clear h w hw)) (joinW_len _)
theorem actW_len {a : ActD} (h : isActB a = true) : (actW a).length ≤ 63 := by
  have hc : (callW a.op).length ≤ 5 := by unfold callW; (repeat' split) <;> simp
  unfold isActB at h
  simp only [Bool.and_eq_true, Bool.or_eq_true, Bool.not_eq_true', decide_eq_true_eq, decide_eq_false_iff_not] at h
  unfold actW
  split
  · simp only [List.length_cons]; omega
  · split
    · simp
    · split
      · simp
      · split
        · simp
        · split
          · rename_i h4
            simp only [List.length_cons, List.length_map]
            have := h.2
            omega
          · simp
/-- Numbers of 64 bits. -/
def ActIn (a : ActD) : Prop := inI a.act ∧ inI a.client ∧ (inI a.op.act ∧ inI a.op.lo ∧ inI a.op.hi ∧ inI a.op.n) ∧ inI a.n ∧ inI a.log ∧ ∀ p ∈ a.pages, inI p
theorem opOf_call {x : OpD} (h : isCallB x = true) (h1 : inI x.lo) (h2 : inI x.hi) (h3 : inI x.n) : ∃ nm r, callW x = nm :: r ∧ opOfD nm r = some (plainOp x) := by
  have hr : 0 ≤ x.act ∧ x.act ≤ 8 ∧ (x.act = 1 → x.data.length ≤ 32) := by
    unfold isCallB at h
    simp only [Bool.or_eq_true, decide_eq_true_eq] at h
    rcases h with ((h | h) | h) | h
    · omega
    · omega
    · omega
    · have hg := goodOp_key h
      refine ⟨hg.2.1, by omega, fun h1 => ?_⟩
      unfold goodOp at h
      simp only [Bool.and_eq_true] at h
      have := h.2.2
      rw [if_pos h1] at this
      simpa using this
  clear h
  obtain ⟨act, key, data, lo, hi, n⟩ := x
  dsimp only at *
  obtain ⟨ha, hb, hd⟩ := hr
  have hk : tx key.data.toList = key := tx_of key
  rcases (show act = 6 ∨ act = 7 ∨ act = 8 ∨ act = 0 ∨ act = 1 ∨ act = 2 ∨ act = 3 ∨ act = 4 ∨ act = 5 by omega) with rfl | rfl | rfl | rfl | rfl | rfl | rfl | rfl | rfl
  · exact ⟨_, _, rfl, rfl⟩
  · exact ⟨_, _, rfl, rfl⟩
  · exact ⟨_, _, rfl, rfl⟩
  · exact ⟨_, _, rfl, rfl⟩
  · refine ⟨_, _, rfl, ?_⟩
    show (bytesD (hexT data)).map (fun b => (⟨1, tx key.data.toList, b, 0, 0, 0⟩ : OpD)) = _
    rw [bytesD_hex (hd rfl)]
    rfl
  · refine ⟨_, _, rfl, ?_⟩
    show opNumsD wCreate (tx key.data.toList) (numsD ([lo, hi, n].map num)) = _
    rw [numsD_nums (by intro z hz; simp only [List.mem_cons, List.not_mem_nil, or_false] at hz; rcases hz with rfl | rfl | rfl <;> assumption)]
    rfl
  · exact ⟨_, _, rfl, rfl⟩
  · refine ⟨_, _, rfl, ?_⟩
    show opNumsD wInc (tx key.data.toList) (numsD ([n].map num)) = _
    rw [numsD_nums (by intro z hz; simp only [List.mem_cons, List.not_mem_nil, or_false] at hz; subst hz; assumption)]
    rfl
  · refine ⟨_, _, rfl, ?_⟩
    show opNumsD wDec (tx key.data.toList) (numsD ([n].map num)) = _
    rw [numsD_nums (by intro z hz; simp only [List.mem_cons, List.not_mem_nil, or_false] at hz; subst hz; assumption)]
    rfl
theorem actOf_act {a : ActD} (h : isActB a = true) (hi : ActIn a) : ∃ nm r, actW a = nm :: r ∧ actOfD nm r = some (plainAct a) := by
  obtain ⟨i1, i2, ⟨_, i3, i4, i5⟩, i6, i7, i8⟩ := hi
  unfold isActB at h
  simp only [Bool.and_eq_true, Bool.or_eq_true, Bool.not_eq_true', decide_eq_true_eq, decide_eq_false_iff_not] at h
  obtain ⟨⟨⟨⟨ha, hb⟩, hcl⟩, hop⟩, hpg⟩ := h
  obtain ⟨act, client, op, n, pages, log⟩ := a
  dsimp only at *
  rcases (show act = 0 ∨ act = 1 ∨ act = 2 ∨ act = 3 ∨ act = 4 ∨ act = 5 by omega) with rfl | rfl | rfl | rfl | rfl | rfl
  · have hc : isCallB op = true := by
      rcases hop with hn | hc
      · exact absurd rfl hn
      · exact hc
    obtain ⟨nm, r, e1, e2⟩ := opOf_call hc i3 i4 i5
    refine ⟨wCall, num client :: callW op, rfl, ?_⟩
    show callOfD (numsN (num client :: callW op) 1) (num client :: callW op) = _
    have e3 : numsN (num client :: callW op) 1 = some [client] := by
      unfold numsN
      rw [if_pos (by simp)]
      exact numsD_nums (ns := [client]) (by intro z hz; simp only [List.mem_cons, List.not_mem_nil, or_false] at hz; subst hz; assumption)
    rw [e3, e1]
    show (opOfD nm r).map _ = _
    rw [e2]
    rfl
  · refine ⟨_, _, rfl, ?_⟩
    have e3 := numsD_nums (ns := [client]) (by intro z hz; simp only [List.mem_cons, List.not_mem_nil, or_false] at hz; subst hz; assumption)
    simp only [List.map_cons, List.map_nil] at e3
    simp only [actOfD, e3]
    rfl
  · exact ⟨_, _, rfl, rfl⟩
  · refine ⟨_, _, rfl, ?_⟩
    have e3 := numsD_nums (ns := [n]) (by intro z hz; simp only [List.mem_cons, List.not_mem_nil, or_false] at hz; subst hz; assumption)
    simp only [List.map_cons, List.map_nil] at e3
    simp only [actOfD, e3]
    rfl
  · refine ⟨_, _, rfl, ?_⟩
    have e3 := numsD_nums (ns := log :: pages) (fun z hz => (List.mem_cons.1 hz).elim (fun e => e ▸ i7) (i8 z))
    show (match numsD ((log :: pages).map num) with | some (n :: r) => some { act00 with act := 4, pages := r, log := n } | _ => none) = _
    rw [e3]
    rfl
  · exact ⟨_, _, rfl, rfl⟩
theorem isCallB_plain {x : OpD} (h : isCallB x = true) : isCallB (plainOp x) = true ∧ callT (plainOp x) = callT x := by
  have hr : 0 ≤ x.act ∧ x.act ≤ 8 := by
    unfold isCallB at h
    simp only [Bool.or_eq_true, decide_eq_true_eq] at h
    rcases h with ((h | h) | h) | h
    · omega
    · omega
    · omega
    · have hg := goodOp_key h
      omega
  obtain ⟨act, key, data, lo, hi, n⟩ := x
  dsimp only at *
  rcases (show act = 6 ∨ act = 7 ∨ act = 8 ∨ act = 0 ∨ act = 1 ∨ act = 2 ∨ act = 3 ∨ act = 4 ∨ act = 5 by omega) with rfl | rfl | rfl | rfl | rfl | rfl | rfl | rfl | rfl
  all_goals refine ⟨?_, rfl⟩
  all_goals first
    | rfl
    | exact h
    | (simpa [isCallB, goodOp, plainOp] using h)
theorem plain_keeps {a : ActD} (h : isActB a = true) : isActB (plainAct a) = true ∧ actT (plainAct a) = actT a := by
  unfold isActB at h
  simp only [Bool.and_eq_true, Bool.or_eq_true, Bool.not_eq_true', decide_eq_true_eq, decide_eq_false_iff_not] at h
  obtain ⟨⟨⟨⟨ha, hb⟩, hcl⟩, hop⟩, hpg⟩ := h
  obtain ⟨act, client, op, n, pages, log⟩ := a
  dsimp only at *
  rcases (show act = 0 ∨ act = 1 ∨ act = 2 ∨ act = 3 ∨ act = 4 ∨ act = 5 by omega) with rfl | rfl | rfl | rfl | rfl | rfl
  · have hc : isCallB op = true := by
      rcases hop with hn | hc
      · exact absurd rfl hn
      · exact hc
    have hp := isCallB_plain hc
    refine ⟨?_, ?_⟩
    · simp [isActB, plainAct, hp.1]
      omega
    · simp [actT, plainAct, hp.2]
  · refine ⟨?_, rfl⟩
    simp [isActB, plainAct]
    omega
  · exact ⟨rfl, rfl⟩
  · exact ⟨rfl, rfl⟩
  · refine ⟨?_, rfl⟩
    simp [isActB, plainAct]
    omega
  · exact ⟨rfl, rfl⟩
/-- An act that may be, its text read again. -/
theorem parseD_act {a : ActD} (h : isActB a = true) (hi : ActIn a) : parseD (actT a) = some (plainAct a) := by
  obtain ⟨nm, r, e1, e2⟩ := actOf_act h hi
  have hw := words_act h
  have hl := actW_len h
  have hp := plain_keeps h
  unfold parseD
  rw [hw, if_neg (by omega), e1]
  simp only [e2]
  rw [if_pos (by unfold lineD; rw [if_pos hp.1, hp.2])]
/-! ### what is read is small -/
theorem opNumsD_in {name : List UInt8} {k : ByteArray} {o : Option (List Int)} {x : OpD} (h : opNumsD name k o = some x) (hi : ∀ ns, o = some ns → ∀ n ∈ ns, inI n) : (inI x.act ∧ inI x.lo ∧ inI x.hi ∧ inI x.n) ∧ x.data = [] ∧ x.key = k := by
  have z : inI 0 := ⟨by omega, by omega⟩
  unfold opNumsD at h
  split at h
  · rename_i a b c
    have hm := hi _ rfl
    split at h
    · injection h with h; subst h
      exact ⟨⟨⟨by dsimp only; omega, by dsimp only; omega⟩, hm a (by simp), hm b (by simp), hm c (by simp)⟩, rfl, rfl⟩
    · cases h
  · rename_i a
    have hm := hi _ rfl
    split at h
    · injection h with h; subst h
      exact ⟨⟨⟨by dsimp only; omega, by dsimp only; omega⟩, z, z, hm a (by simp)⟩, rfl, rfl⟩
    · split at h
      · injection h with h; subst h
        exact ⟨⟨⟨by dsimp only; omega, by dsimp only; omega⟩, z, z, hm a (by simp)⟩, rfl, rfl⟩
      · cases h
  · cases h
theorem opOfD_in {name : List UInt8} {w : List (List UInt8)} {x : OpD} {K : Nat} (h : opOfD name w = some x) (hK : ∀ l ∈ w, l.length ≤ K) : (inI x.act ∧ inI x.lo ∧ inI x.hi ∧ inI x.n) ∧ x.data.length ≤ 32 ∧ x.key.size ≤ K := by
  have z : inI 0 := ⟨by omega, by omega⟩
  have zk : ((⟨#[]⟩ : ByteArray).size) ≤ K := Nat.zero_le _
  have w1 : ∀ a : Int, 0 ≤ a → a ≤ 8 → inI a := fun a h1 h2 => ⟨by omega, by omega⟩
  unfold opOfD at h
  by_cases h1 : name = wBegin
  · rw [if_pos h1] at h; split at h
    · injection h with h; subst h; exact ⟨⟨w1 _ (by first | decide | (dsimp only; omega)) (by first | decide | (dsimp only; omega)), z, z, z⟩, by simp, zk⟩
    · cases h
  rw [if_neg h1] at h
  by_cases h2 : name = wCommit
  · rw [if_pos h2] at h; split at h
    · injection h with h; subst h; exact ⟨⟨w1 _ (by first | decide | (dsimp only; omega)) (by first | decide | (dsimp only; omega)), z, z, z⟩, by simp, zk⟩
    · cases h
  rw [if_neg h2] at h
  by_cases h3 : name = wAbort
  · rw [if_pos h3] at h; split at h
    · injection h with h; subst h; exact ⟨⟨w1 _ (by first | decide | (dsimp only; omega)) (by first | decide | (dsimp only; omega)), z, z, z⟩, by simp, zk⟩
    · cases h
  rw [if_neg h3] at h
  cases w with
  | nil => cases h
  | cons key r =>
    have hkey : (tx key).size ≤ K := by rw [tx_size]; exact hK key List.mem_cons_self
    simp only [opKeyD] at h
    split at h
    · split at h
      · injection h with h; subst h; exact ⟨⟨w1 _ (by first | decide | (dsimp only; omega)) (by first | decide | (dsimp only; omega)), z, z, z⟩, by simp, hkey⟩
      · cases h
    · split at h
      · split at h
        · injection h with h; subst h; exact ⟨⟨w1 _ (by first | decide | (dsimp only; omega)) (by first | decide | (dsimp only; omega)), z, z, z⟩, by simp, hkey⟩
        · cases h
      · split at h
        · split at h
          · rename_i x1
            cases hb : bytesD x1 with
            | none => rw [hb] at h; cases h
            | some b => rw [hb] at h; simp only [Option.map_some, Option.some.injEq] at h; subst h; exact ⟨⟨w1 _ (by first | decide | (dsimp only; omega)) (by first | decide | (dsimp only; omega)), z, z, z⟩, bytesD_len hb, hkey⟩
          · cases h
        · obtain ⟨h1, h2, h3⟩ := opNumsD_in h (fun ns e => numsD_in e)
          exact ⟨h1, by rw [h2]; simp, by rw [h3]; exact hkey⟩
theorem numsN_in {ws : List (List UInt8)} {k : Nat} {ns : List Int} (h : numsN ws k = some ns) : ∀ n ∈ ns, inI n := by
  unfold numsN at h
  split at h
  · exact numsD_in h
  · cases h
theorem actOfD_in {name : List UInt8} {w : List (List UInt8)} {a : ActD} {K : Nat} (h : actOfD name w = some a) (hK : ∀ l ∈ w, l.length ≤ K) : ActIn a ∧ a.op.data.length ≤ 32 ∧ a.op.key.size ≤ K ∧ a.pages.length ≤ w.length := by
  have z : inI 0 := ⟨by omega, by omega⟩
  have zk : ((⟨#[]⟩ : ByteArray).size) ≤ K := Nat.zero_le _
  have w1 : ∀ a : Int, 0 ≤ a → a ≤ 8 → inI a := fun a h1 h2 => ⟨by omega, by omega⟩
  unfold actOfD at h
  split at h
  · unfold callOfD at h
    split at h
    · rename_i n x1 nm r hn
      cases ho : opOfD nm r with
      | none => rw [ho] at h; cases h
      | some x =>
        rw [ho] at h
        simp only [Option.map_some, Option.some.injEq] at h
        subst h
        obtain ⟨h1, h2, h3⟩ := opOfD_in ho (fun l hl => hK l (by simp [hl]))
        exact ⟨⟨z, numsN_in hn n (by simp), h1, z, z, fun p hp => by cases hp⟩, h2, h3, Nat.zero_le _⟩
    · cases h
  · split at h
    · split at h
      · rename_i n hn
        injection h with h; subst h
        exact ⟨⟨w1 _ (by first | decide | (dsimp only; omega)) (by first | decide | (dsimp only; omega)), numsD_in hn n (by simp), ⟨z, z, z, z⟩, z, z, fun p hp => by cases hp⟩, by simp [act00, op00], zk, Nat.zero_le _⟩
      · cases h
    · split at h
      · split at h
        · injection h with h; subst h
          exact ⟨⟨w1 _ (by first | decide | (dsimp only; omega)) (by first | decide | (dsimp only; omega)), z, ⟨z, z, z, z⟩, z, z, fun p hp => by cases hp⟩, by simp [act00, op00], zk, Nat.zero_le _⟩
        · cases h
      · split at h
        · split at h
          · rename_i n hn
            injection h with h; subst h
            exact ⟨⟨w1 _ (by first | decide | (dsimp only; omega)) (by first | decide | (dsimp only; omega)), z, ⟨z, z, z, z⟩, numsD_in hn n (by simp), z, fun p hp => by cases hp⟩, by simp [act00, op00], zk, Nat.zero_le _⟩
          · cases h
        · split at h
          · split at h
            · rename_i n r hn
              have hm := numsD_in hn
              have hl := numsD_length hn
              injection h with h; subst h
              exact ⟨⟨w1 _ (by first | decide | (dsimp only; omega)) (by first | decide | (dsimp only; omega)), z, ⟨z, z, z, z⟩, z, hm n (by simp), fun p hp => hm p (List.mem_cons_of_mem _ hp)⟩, by simp [act00, op00], zk, by simp only [List.length_cons] at hl; dsimp only; omega⟩
            · cases h
          · split at h
            · split at h
              · injection h with h; subst h
                exact ⟨⟨w1 _ (by first | decide | (dsimp only; omega)) (by first | decide | (dsimp only; omega)), z, ⟨z, z, z, z⟩, z, z, fun p hp => by cases hp⟩, by simp [act00, op00], zk, Nat.zero_le _⟩
              · cases h
            · cases h
theorem opSm_of {a : ActD} (hp : plainAct a = a) (hB : isActB a = true) (hi : ActIn a) (hd : a.op.data.length ≤ 32) : OpSm a.op := by
  obtain ⟨_, _, h3, _⟩ := hi
  refine ⟨?_, by omega, h3.1, h3.2.1, h3.2.2.1, h3.2.2.2⟩
  have ho := congrArg ActD.op hp
  by_cases h0 : a.act = 0
  · have hc : isCallB a.op = true := by
      unfold isActB at hB
      simp only [Bool.and_eq_true, Bool.or_eq_true, Bool.not_eq_true', decide_eq_true_eq, decide_eq_false_iff_not] at hB
      rcases hB.1.2 with h | h
      · exact absurd h0 h
      · exact h
    have hpo : plainOp a.op = a.op := by
      have : (plainAct a).op = plainOp a.op := by unfold plainAct; dsimp only; rw [if_pos h0]
      rw [← this]; exact ho
    by_cases h5 : 5 < a.op.act
    · have : (plainOp a.op).key = ⟨#[]⟩ := by unfold plainOp; rw [if_pos h5]
      rw [← hpo, this]
      exact Nat.zero_le _
    · have hg : goodOp a.op = true := by
        unfold isCallB at hc
        simp only [Bool.or_eq_true, decide_eq_true_eq] at hc
        rcases hc with ((h | h) | h) | h
        · omega
        · omega
        · omega
        · exact h
      have hk := (goodOp_key hg).1
      unfold goodKey at hk
      simp only [Bool.and_eq_true, decide_eq_true_eq] at hk
      omega
  · have : (plainAct a).op = op00 := by unfold plainAct; dsimp only; rw [if_neg h0]
    rw [this] at ho
    rw [← ho]
    exact Nat.zero_le _
theorem words_len : ∀ (f : Nat) (l : List UInt8), ∀ x ∈ wordsOf' f l, x.length ≤ l.length
  | 0, _, x, h => by cases h
  | f + 1, l, x, h => by
    have hc : (Lib.cut l [32]).1.length ≤ l.length ∧ (Lib.cut l [32]).2.1.length ≤ l.length := by
      unfold Lib.cut
      split
      · simp only [List.length_take, List.length_drop]; omega
      · simp
    unfold wordsOf' at h
    split at h
    · rcases List.mem_cons.1 h with rfl | h
      · exact hc.1
      · exact Nat.le_trans (words_len f _ x h) hc.2
    · rw [List.mem_singleton] at h
      subst h
      exact hc.1
end Go.Proofs.YtgokkbocboonnaaDoor
