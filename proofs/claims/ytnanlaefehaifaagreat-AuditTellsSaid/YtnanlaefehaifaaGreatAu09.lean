/-
  Texts of this claim, joined: DP, DQ, DR, KK, KV, KW.
-/
import Derived.Laws.Bits64
import Derived.Test.YtnanlaefehaifaaGreatAu08
set_option maxHeartbeats 6400000
set_option maxRecDepth 100000
namespace Go.Proofs.YtnanlaefehaifaaGreat
open Go.RowKit
def walkP (nx : Nat → Nat) (used : Nat) : Nat → Nat → List Nat × Bool
  | 0, _ => ([], false)
  | k + 1, no => if no < 1 ∨ used ≤ no then ([], false) else if nx no = 0 then ([no], true) else (no :: (walkP nx used k (nx no)).1, (walkP nx used k (nx no)).2)
theorem walkP_in {nx : Nat → Nat} {used k no q : Nat} (h : q ∈ (walkP nx used k no).1) : 1 ≤ q ∧ q < used := by
  induction k generalizing no with
  | zero => cases h
  | succ k ih =>
    unfold walkP at h
    split at h
    · cases h
    · split at h
      · rename_i h1 _
        rw [List.mem_singleton] at h
        omega
      · rename_i h1 _
        rcases List.mem_cons.1 h with h | h
        · omega
        · exact ih h
def hasK (ks : List ByteArray) (k : ByteArray) : Bool := ks.any (fun q => q.data == k.data)
def keysD (hd : ByteArray → Int) (head : Int) : List ItemD → List ByteArray → Option (List ByteArray)
  | [], ks => some ks
  | x :: r, ks => if x.st = 0 then keysD hd head r ks else if (hasK ks x.key || (hd x.key != head)) = true then none else keysD hd head r (ks ++ [x.key])
def fitsD (hd : ByteArray → Int) (it : Nat → List ItemD) (head : Int) (st : List Nat × List ByteArray) (no : Nat) : Option (List Nat × List ByteArray) :=
  if no ∈ st.1 then none else (keysD hd head (it no) st.2).map fun ks => (st.1 ++ [no], ks)
def fitsL (hd : ByteArray → Int) (it : Nat → List ItemD) (head : Int) : List Nat → List Nat × List ByteArray → Option (List Nat × List ByteArray)
  | [], st => some st
  | no :: r, st => (fitsD hd it head st no).bind (fitsL hd it head r)
def chainsD (hd : ByteArray → Int) (it : Nat → List ItemD) (nx : Nat → Nat) (used : Nat) : Nat → Nat → List Nat × List ByteArray → Option (List Nat × List ByteArray)
  | 0, _, st => some st
  | k + 1, head, st => (fitsL hd it head (walkP nx used used head).1 st).bind fun s => if (walkP nx used used head).2 = true then chainsD hd it nx used k (head + 1) s else none
def refD (hd : ByteArray → Int) (it : Nat → List ItemD) (nx : Nat → Nat) (used : Nat) : Nat → Nat → List Nat × List ByteArray → Option (List Nat × List ByteArray)
  | 0, _, st => some st
  | k + 1, head, st => if (walkP nx used used head).2 = true then (keysD hd head ((walkP nx used used head).1.flatMap it) st.2).bind fun ks => refD hd it nx used k (head + 1) (st.1 ++ (walkP nx used used head).1, ks) else none
theorem keysD_append (hd : ByteArray → Int) (head : Int) (a b : List ItemD) (ks : List ByteArray) : keysD hd head (a ++ b) ks = (keysD hd head a ks).bind (keysD hd head b) := by
  induction a generalizing ks with
  | nil => rfl
  | cons x r ih =>
    rw [List.cons_append]
    unfold keysD
    split
    · exact ih ks
    · split
      · rfl
      · exact ih _
theorem fitsL_eq (hd : ByteArray → Int) (it : Nat → List ItemD) (head : Int) (ws : List Nat) (st : List Nat × List ByteArray) (hn : st.1.Nodup) :
    fitsL hd it head ws st = if (st.1 ++ ws).Nodup then (keysD hd head (ws.flatMap it) st.2).map fun ks => (st.1 ++ ws, ks) else none := by
  induction ws generalizing st with
  | nil =>
    rw [List.append_nil, if_pos hn]
    rfl
  | cons no r ih =>
    unfold fitsL fitsD
    by_cases hm : no ∈ st.1
    · rw [if_pos hm, if_neg]
      · rfl
      · intro h
        exact (List.nodup_append.1 h).2.2 no hm no (List.mem_cons_self ..) rfl
    · rw [if_neg hm, List.flatMap_cons, keysD_append]
      cases hk : keysD hd head (it no) st.2 with
      | none =>
        simp only [Option.map_none, Option.bind_none]
        split <;> rfl
      | some ks =>
        simp only [Option.map_some, Option.bind_some]
        have hn2 : (st.1 ++ [no]).Nodup := by
          rw [List.nodup_append]
          refine ⟨hn, by simp, fun a ha b hb => ?_⟩
          rw [List.mem_singleton] at hb
          subst hb
          intro e
          subst e
          exact hm ha
        rw [ih (st.1 ++ [no], ks) hn2]
        simp only [List.append_assoc, List.singleton_append]
theorem chainsD_eq (hd : ByteArray → Int) (it : Nat → List ItemD) (nx : Nat → Nat) (used k : Nat) : ∀ (head : Nat) (st : List Nat × List ByteArray), st.1.Nodup →
    chainsD hd it nx used k head st = (refD hd it nx used k head st).bind fun s => if s.1.Nodup then some s else none := by
  induction k with
  | zero => intro head st hn; unfold chainsD refD; simp [hn]
  | succ k ih =>
    intro head st hn
    have hsub : ∀ (k head : Nat) (s s' : List Nat × List ByteArray), refD hd it nx used k head s = some s' → s'.1.Nodup → s.1.Nodup := by
      intro k
      induction k with
      | zero => intro head s s' h; unfold refD at h; injection h with h; subst h; exact id
      | succ k ih2 =>
        intro head s s' h hn'
        unfold refD at h
        split at h
        · cases hk : keysD hd head ((walkP nx used used head).1.flatMap it) s.2 with
          | none => rw [hk] at h; cases h
          | some ks =>
            rw [hk] at h
            exact (List.nodup_append.1 (ih2 _ _ _ h hn')).1
        · cases h
    unfold chainsD refD
    rw [fitsL_eq hd it head _ st hn]
    cases hok : (walkP nx used used head).2 with
    | false =>
      simp only [Bool.false_eq_true, if_false, Option.bind_none]
      cases (if (st.1 ++ (walkP nx used used head).1).Nodup then _ else none : Option (List Nat × List ByteArray)) <;> rfl
    | true =>
      simp only [if_true]
      cases hk : keysD hd head ((walkP nx used used head).1.flatMap it) st.2 with
      | none =>
        simp only [Option.map_none, Option.bind_none]
        split <;> rfl
      | some ks =>
        simp only [Option.map_some, Option.bind_some]
        by_cases hnn : (st.1 ++ (walkP nx used used head).1).Nodup
        · rw [if_pos hnn]
          exact ih _ _ hnn
        · rw [if_neg hnn]
          cases hr : refD hd it nx used k (head + 1) (st.1 ++ (walkP nx used used head).1, ks) with
          | none => rfl
          | some s' =>
            simp only [Option.bind_none, Option.bind_some]
            rw [if_neg]
            intro h
            exact hnn (hsub _ _ _ _ hr h)
theorem refD_in {hd : ByteArray → Int} {it : Nat → List ItemD} {nx : Nat → Nat} {used : Nat} : ∀ (k head : Nat) (s s' : List Nat × List ByteArray), refD hd it nx used k head s = some s' → (∀ q ∈ s.1, 1 ≤ q ∧ q < used) → ∀ q ∈ s'.1, 1 ≤ q ∧ q < used := by
  intro k
  induction k with
  | zero => intro head s s' h; unfold refD at h; injection h with h; subst h; exact id
  | succ k ih =>
    intro head s s' h hs
    unfold refD at h
    split at h
    · cases hk : keysD hd head ((walkP nx used used head).1.flatMap it) s.2 with
      | none => rw [hk] at h; cases h
      | some ks =>
        rw [hk] at h
        refine ih _ _ _ h (fun q hq => ?_)
        rcases List.mem_append.1 hq with hq | hq
        · exact hs q hq
        · exact walkP_in hq
    · cases h
def from1 (used : Nat) : List Nat := (List.range (used - 1)).map (· + 1)
theorem mem_from1 {used q : Nat} : q ∈ from1 used ↔ 1 ≤ q ∧ q < used := by
  unfold from1
  rw [List.mem_map]
  constructor
  · rintro ⟨a, ha, rfl⟩
    rw [List.mem_range] at ha
    omega
  · rintro ⟨h1, h2⟩
    exact ⟨q - 1, by rw [List.mem_range]; omega, by omega⟩
theorem nodup_from1 (used : Nat) : (from1 used).Nodup := by
  unfold from1
  refine List.Pairwise.map _ ?_ List.nodup_range
  intro a b h e
  exact h (by omega)
theorem perm_from1 {used : Nat} {l : List Nat} (hn : l.Nodup) (hin : ∀ q ∈ l, 1 ≤ q ∧ q < used) (hall : ∀ q, 1 ≤ q → q < used → q ∈ l) : l.Perm (from1 used) :=
  (List.perm_ext_iff_of_nodup hn (nodup_from1 used)).2 fun q => ⟨fun h => mem_from1.2 (hin q h), fun h => hall q (mem_from1.1 h).1 (mem_from1.1 h).2⟩
theorem once_iff {used : Nat} {l : List Nat} (hin : ∀ q ∈ l, 1 ≤ q ∧ q < used) : (∀ q, 1 ≤ q → q < used → l.count q = 1) ↔ l.Nodup ∧ ∀ q, 1 ≤ q → q < used → q ∈ l := by
  constructor
  · intro h
    refine ⟨List.nodup_iff_count.2 fun q => ?_, fun q h1 h2 => ?_⟩
    · by_cases hq : q ∈ l
      · rw [h q (hin q hq).1 (hin q hq).2]
        exact Nat.le_refl _
      · rw [List.count_eq_zero_of_not_mem hq]
        omega
    · have := h q h1 h2
      exact List.count_pos_iff.1 (by omega)
  · rintro ⟨hn, hall⟩ q h1 h2
    have := List.nodup_iff_count.1 hn q
    have := List.count_pos_iff.2 (hall q h1 h2)
    omega
def catD (x : ItemD) : Nat := if x.st = 0 then 4 else if x.st = 2 then 3 else if x.cell.kind = 2 then 2 else 1
def tallyD (l : List ItemD) (c : Nat) : Nat := l.countP (fun x => catD x == c)
theorem tallyD_append (a b : List ItemD) (c : Nat) : tallyD (a ++ b) c = tallyD a c + tallyD b c := by unfold tallyD; rw [List.countP_append]
theorem tallyD_perm {a b : List Nat} (h : a.Perm b) (it : Nat → List ItemD) (c : Nat) : tallyD (a.flatMap it) c = tallyD (b.flatMap it) c := by
  unfold tallyD
  exact (h.flatMap_right it).countP_eq _
def okD (hd : ByteArray → Int) (it : Nat → List ItemD) (nx : Nat → Nat) (B used : Nat) : Bool :=
  match chainsD hd it nx used B 1 ([], []) with
  | none => false
  | some s => (from1 used).all (fun q => s.1.contains q)
def okRf (hd : ByteArray → Int) (it : Nat → List ItemD) (nx : Nat → Nat) (B used : Nat) : Bool :=
  match refD hd it nx used B 1 ([], []) with
  | none => false
  | some s => (from1 used).all (fun q => s.1.count q == 1)
theorem okD_eq (hd : ByteArray → Int) (it : Nat → List ItemD) (nx : Nat → Nat) (B used : Nat) : okD hd it nx B used = okRf hd it nx B used := by
  unfold okD okRf
  rw [chainsD_eq hd it nx used B 1 ([], []) List.nodup_nil]
  cases hr : refD hd it nx used B 1 ([], []) with
  | none => rfl
  | some s =>
    have hin := refD_in B 1 ([], []) s hr (fun q hq => by cases hq)
    simp only [Option.bind_some]
    rw [Bool.eq_iff_iff]
    constructor
    · intro h
      split at h
      · cases h
      · rename_i s' h1
        split at h1
        · rename_i hn
          injection h1 with h1
          subst h1
          rw [List.all_eq_true] at h ⊢
          intro q hq
          have := (once_iff hin).2 ⟨hn, fun q h1 h2 => by have := h q (mem_from1.2 ⟨h1, h2⟩); simpa using this⟩ q (mem_from1.1 hq).1 (mem_from1.1 hq).2
          simpa using this
        · cases h1
    · intro h
      rw [List.all_eq_true] at h
      obtain ⟨hn, hall⟩ := (once_iff hin).1 fun q h1 h2 => by have := h q (mem_from1.2 ⟨h1, h2⟩); simpa using this
      rw [if_pos hn]
      dsimp only
      rw [List.all_eq_true]
      intro q hq
      have := hall q (mem_from1.1 hq).1 (mem_from1.1 hq).2
      simpa using this
theorem tally_eq {hd : ByteArray → Int} {it : Nat → List ItemD} {nx : Nat → Nat} {B used : Nat} {s : List Nat × List ByteArray} (hr : refD hd it nx used B 1 ([], []) = some s) (h : okRf hd it nx B used = true) (c : Nat) : tallyD (s.1.flatMap it) c = tallyD ((from1 used).flatMap it) c := by
  have hin := refD_in B 1 ([], []) s hr (fun q hq => by cases hq)
  unfold okRf at h
  rw [hr] at h
  dsimp only at h
  rw [List.all_eq_true] at h
  obtain ⟨hn, hall⟩ := (once_iff hin).1 fun q h1 h2 => by have := h q (mem_from1.2 ⟨h1, h2⟩); simpa using this
  exact tallyD_perm (perm_from1 hn hin hall) it c
end Go.Proofs.YtnanlaefehaifaaGreat
namespace Go.Proofs.YtnanlaefehaifaaGreat
open Go.RowKit
def hashS (h : Nat) (b : UInt8) : Nat := (h ^^^ b.toNat) * 16777619 % 4294967296
def hashL (l : List UInt8) : Nat := l.foldl hashS 2166136261
theorem hashL_lt (l : List UInt8) : hashL l < 4294967296 := by
  have : ∀ (l : List UInt8) (s : Nat), s < 4294967296 → l.foldl hashS s < 4294967296 := by
    intro l
    induction l with
    | nil => exact fun s h => h
    | cons b r ih => exact fun s _ => ih _ (Nat.mod_lt _ (by omega))
  exact this l _ (by omega)
theorem hashL_snoc (s : ByteArray) (k : Nat) (hk : k < s.size) : hashL (s.data.toList.take (k + 1)) = hashS (hashL (s.data.toList.take k)) s[k] := by
  have hl : k < s.data.toList.length := by simpa using hk
  unfold hashL
  rw [List.take_succ_eq_append_getElem hl, List.foldl_append, List.foldl_cons, List.foldl_nil]
  congr 1
theorem hashL_all (s : ByteArray) (k : Nat) (hk : ¬ k < s.size) : hashL (s.data.toList.take k) = hashL s.data.toList := by rw [List.take_of_length_le (by simp; omega)]
def headI (B : Int) (s : ByteArray) : Int := 1 + (hashL s.data.toList : Int) % B
theorem hash_any (s : ByteArray) (w : World) (hs : s.size ≤ 1000) : Calls Tryz.prog 254 #[.string s] w fun e w' => e = .returned (.int .u32 ((hashL s.data.toList : Nat) : Int)) ∧ w' = w := by
  go_enter Tryz.func254, Tryz.ntmps254
  go_wp2
  go_loopw [3, 7] (fun hv iv wr => wr = w ∧ ∃ k : Nat, k ≤ s.size ∧ iv = .int .i64 k ∧ hv = .int .u32 ((hashL (s.data.toList.take k) : Nat) : Int)) (fun _ iv _ => s.size - (intOf iv).toNat)
  case atStart => exact ⟨rfl, 0, Nat.zero_le _, rfl, rfl⟩
  case round =>
    obtain ⟨rfl, k, hk, rfl, rfl⟩ := hrel
    have hst := hashL_lt (s.data.toList.take k)
    by_cases hlt : k < s.size
    · have HS := hide (hashL_snoc s k hlt)
      generalize hashL (s.data.toList.take k) = st at *
      have hxl := s[k].toNat_lt
      have e1 : bits BinOp.xor IntKind.u32 (st : Int) (s[k].toNat : Int) = ((st ^^^ s[k].toNat : Nat) : Int) := bits_xor_u32_nat st _ (by omega) (by omega)
      have e2 : IntKind.u32.wrap (((st ^^^ s[k].toNat : Nat) : Int) * 16777619) = ((hashS st s[k] : Nat) : Int) := by
        rw [IntKind.wrap_u32]
        unfold hashS
        omega
      have s1 : (k : Int) < s.size := by omega
      have s0 : (0 : Int) ≤ k := by omega
      go_wp2
      go_roundw
      case rel => exact ⟨by trivial, k + 1, by omega, by go_num, by rw [HS.out]⟩
      case measure => simp [intOf]; omega
    · have HE := hide (hashL_all s k hlt)
      rw [HE.out]
      have s1 : ¬ ((k : Int) < s.size) := by omega
      go_wp2
      go_ret
      exact ⟨rfl, rfl⟩
theorem hashR_any (s : ByteArray) (w : World) (hs : s.size ≤ 1000) : Calls Tryz.prog 198 #[.string s] w fun e w' => e = .returned (.int .u32 ((hashL s.data.toList : Nat) : Int)) ∧ w' = w := by
  go_enter Tryz.func198, Tryz.ntmps198
  go_wp2
  go_loopw [3, 4] (fun hv iv wr => wr = w ∧ ∃ k : Nat, k ≤ s.size ∧ iv = .int .i64 k ∧ hv = .int .u64 ((hashL (s.data.toList.take k) : Nat) : Int)) (fun _ iv _ => s.size - (intOf iv).toNat)
  case atStart => exact ⟨rfl, 0, Nat.zero_le _, rfl, rfl⟩
  case round =>
    obtain ⟨rfl, k, hk, rfl, rfl⟩ := hrel
    have hst := hashL_lt (s.data.toList.take k)
    by_cases hlt : k < s.size
    · have HS := hide (hashL_snoc s k hlt)
      generalize hashL (s.data.toList.take k) = st at *
      have hxl := s[k].toNat_lt
      have e1 : bits BinOp.xor IntKind.u64 (st : Int) (s[k].toNat : Int) = ((st ^^^ s[k].toNat : Nat) : Int) := bits_xor_u64_nat st _ (by omega) (by omega)
      have hxr : st ^^^ s[k].toNat < 4294967296 := Nat.xor_lt_two_pow (n := 32) (by omega) (by omega)
      have e2 : IntKind.u64.wrap (((st ^^^ s[k].toNat : Nat) : Int) * 16777619) = ((st ^^^ s[k].toNat : Nat) : Int) * 16777619 := by
        rw [IntKind.wrap_u64]
        omega
      have HH := hide (show (((st ^^^ s[k].toNat : Nat) : Int) * 16777619) % 4294967296 = ((hashS st s[k] : Nat) : Int) by
        unfold hashS
        omega)
      have s1 : (k : Int) < s.size := by omega
      have s0 : (0 : Int) ≤ k := by omega
      go_wp2
      go_roundw
      case rel => exact ⟨by trivial, k + 1, by omega, by go_num, by rw [HS.out, ← HH.out]⟩
      case measure => simp [intOf]; omega
    · have HE := hide (hashL_all s k hlt)
      rw [HE.out] at hst ⊢
      have s1 : ¬ ((k : Int) < s.size) := by omega
      have e3 : IntKind.u32.wrap ((hashL s.data.toList : Nat) : Int) = ((hashL s.data.toList : Nat) : Int) := by rw [IntKind.wrap_u32]; omega
      go_wp2
      go_ret
      exact ⟨rfl, rfl⟩
theorem bucket_any (s : ByteArray) (B : Int) (w : World) (hs : s.size ≤ 1000) (hB : 1 ≤ B) (hB2 : B ≤ 1000000) : Calls Tryz.prog 239 #[.string s, .int .i64 B] w fun e w' => e = .returned (.int .i64 ((hashL s.data.toList : Int) % B)) ∧ w' = w := by
  have HH := hide (hash_any s w hs)
  have hl := hashL_lt s.data.toList
  generalize hashL s.data.toList = st at *
  have h1 : ¬ B < 1 := by omega
  have h2 : (B == 0) = false := by rw [beq_eq_false_iff_ne]; omega
  have h3 : IntKind.i64.wrap (st : Int) = (st : Int) := by rw [IntKind.wrap_i64]; omega
  have h4 : Int.tmod (st : Int) B = (st : Int) % B := Int.tmod_eq_emod_of_nonneg (by omega)
  go_enter Tryz.func239, Tryz.ntmps239
  go_wp2_with (refine HH.out.mono ?_; rintro e w' ⟨rfl, hw'⟩; obtain rfl := hw'.symm)
  go_ret
  exact ⟨by simp, rfl⟩
theorem bucketR_any (s : ByteArray) (B : Int) (w : World) (hs : s.size ≤ 1000) (hB : 1 ≤ B) (hB2 : B ≤ 1000000) : Calls Tryz.prog 144 #[.string s, .int .i64 B] w fun e w' => e = .returned (.int .i64 ((hashL s.data.toList : Int) % B)) ∧ w' = w := by
  have HH := hide (hashR_any s w hs)
  have hl := hashL_lt s.data.toList
  generalize hashL s.data.toList = st at *
  have h1 : ¬ B < 1 := by omega
  have h2 : (B == 0) = false := by rw [beq_eq_false_iff_ne]; omega
  have h3 : IntKind.u64.wrap (st : Int) = (st : Int) := by rw [IntKind.wrap_u64]; omega
  have h5 : IntKind.u64.wrap B = B := by rw [IntKind.wrap_u64]; omega
  have h4 : Int.tmod (st : Int) B = (st : Int) % B := Int.tmod_eq_emod_of_nonneg (by omega)
  have h6 : 0 ≤ (st : Int) % B := Int.emod_nonneg _ (by omega)
  have h7 : (st : Int) % B < B := Int.emod_lt_of_pos _ (by omega)
  have h8 : IntKind.i64.wrap ((st : Int) % B) = (st : Int) % B := by rw [IntKind.wrap_i64]; omega
  go_enter Tryz.func144, Tryz.ntmps144
  go_wp2_with (refine HH.out.mono ?_; rintro e w' ⟨rfl, hw'⟩; obtain rfl := hw'.symm)
  go_ret
  exact ⟨by simp, rfl⟩
def confA (x : ConfD) : Value := .agg #[.int .i64 x.b, .int .i64 x.p, .int .i64 x.f, .int .i64 x.c, .int .i64 x.l]
theorem head_any (x : ConfD) (s : ByteArray) (w : World) (hs : s.size ≤ 1000) (hB : 1 ≤ x.b) (hB2 : x.b ≤ 1000000) : Calls Tryz.prog 201 #[confA x, .string s] w fun e w' => e = .returned (.int .i64 (headI x.b s)) ∧ Below w.heap.size w w' := by
  have HH := hide (fun W => bucket_any s x.b W hs hB hB2)
  have h6 : 0 ≤ (hashL s.data.toList : Int) % x.b := Int.emod_nonneg _ (by omega)
  have h7 : (hashL s.data.toList : Int) % x.b < x.b := Int.emod_lt_of_pos _ (by omega)
  unfold headI confA
  generalize (hashL s.data.toList : Int) % x.b = st at *
  go_enter Tryz.func201, Tryz.ntmps201
  go_wp2_with (refine (HH.out _).mono ?_; rintro e w' ⟨rfl, hw'⟩; obtain rfl := hw'.symm)
  go_ret
  exact ⟨rfl, (Below.refl _ _).alloc (Nat.le_refl _) _⟩
theorem headR_any (x : ConfD) (s : ByteArray) (w : World) (hs : s.size ≤ 1000) (hB : 1 ≤ x.b) (hB2 : x.b ≤ 1000000) : Calls Tryz.prog 87 #[confA x, .string s] w fun e w' => e = .returned (.int .i64 (headI x.b s)) ∧ Below w.heap.size w w' := by
  have HH := hide (fun W => bucketR_any s x.b W hs hB hB2)
  have h6 : 0 ≤ (hashL s.data.toList : Int) % x.b := Int.emod_nonneg _ (by omega)
  have h7 : (hashL s.data.toList : Int) % x.b < x.b := Int.emod_lt_of_pos _ (by omega)
  unfold headI confA
  generalize (hashL s.data.toList : Int) % x.b = st at *
  go_enter Tryz.func87, Tryz.ntmps87
  go_wp2_with (refine (HH.out _).mono ?_; rintro e w' ⟨rfl, hw'⟩; obtain rfl := hw'.symm)
  go_ret
  exact ⟨rfl, (Below.refl _ _).alloc (Nat.le_refl _) _⟩
end Go.Proofs.YtnanlaefehaifaaGreat
namespace Go.Proofs.YtnanlaefehaifaaGreat
open Go.RowKit
def PgsR (W : World) (B : Nat) (A : Option Addr) (n : Nat) (ps : List (List UInt8)) : Prop :=
  n = ps.length ∧ (∀ p ∈ ps, p.length = 512) ∧ ∃ vs : List Value, Reads W B 1 A n vs ∧ ∀ (i : Nat) (p : List UInt8), ps[i]? = some p → ∃ (A' : Option Addr) (c' : Nat), vs[i]? = some (.slice A' 512 c') ∧ 512 ≤ c' ∧ c' ≤ maxLen ∧ Reads W B 1 A' 512 (p.map byteV)
section
variable {w w' : World} {B B' C n : Nat} {A : Option Addr} {ps : List (List UInt8)}
theorem PgsR.below (h : PgsR w B A n ps) (hb : Below C w w') (hC : B ≤ C) : PgsR w' B A n ps := by
  obtain ⟨h1, h2, vs, h3, h4⟩ := h
  refine ⟨h1, h2, vs, h3.below hb hC, fun i p hp => ?_⟩
  obtain ⟨A', c', g1, g2, g3, g4⟩ := h4 i p hp
  exact ⟨A', c', g1, g2, g3, g4.below hb hC⟩
theorem PgsR.at_ (h : PgsR w B A n ps) {k : Nat} (hk : k < n) : ∃ (b o : Nat) (A' : Option Addr) (c' : Nat) (p : List UInt8), A = some ⟨b, o, none⟩ ∧ ps[k]? = some p ∧ p.length = 512 ∧ w.cell? ⟨b, o + k, none⟩ = some (.slice A' 512 c') ∧ 512 ≤ c' ∧ c' ≤ maxLen ∧ Reads w B 1 A' 512 (p.map byteV) := by
  obtain ⟨h1, h2, vs, h3, h4⟩ := h
  obtain ⟨p, hp⟩ : ∃ p, ps[k]? = some p := ⟨_, List.getElem?_eq_getElem (by omega)⟩
  obtain ⟨A', c', g1, g2, g3, g4⟩ := h4 k p hp
  obtain ⟨b, o, rfl, hb, hc⟩ := h3.plain (by omega) (by omega)
  exact ⟨b, o, A', c', p, rfl, hp, h2 p (List.mem_of_getElem? hp), hc k _ g1, g2, g3, g4⟩
end
theorem rLSN_any (A : Option Addr) (c : Nat) (bs : List UInt8) (B : Nat) (w : World) (hl : bs.length = 512) (hr : Reads w B 1 A 512 (bs.map byteV)) : Calls Tryz.prog 94 #[.slice A 512 c] w fun e w' => e = .returned (.int .i64 (numI (cutB bs 4 8))) ∧ w' = w := by
  have HN := hide (rNum_any A 512 c bs B w (by omega) hl.symm hr 4 8 (by omega) (by omega) (by omega))
  generalize numI (cutB bs 4 8) = v at *
  clear hr
  go_enter Tryz.func94, Tryz.ntmps94
  go_wp2_with (go_at_call 99; refine HN.out.mono ?_; rintro e w' ⟨rfl, hw'⟩; obtain rfl := hw'.symm)
  go_ret
  exact ⟨rfl, rfl⟩
def pageOk (bs : List UInt8) (no : Int) (e : Int) : Bool := (numI (cutB bs 12 2) == no) && (!(decide (numI (cutB bs 4 8) < 0)) && (!(decide (e < numI (cutB bs 4 8))) && slotsOk bs 7))
theorem rPage_any (A : Option Addr) (n c : Nat) (ps : List (List UInt8)) (no : Nat) (en : Int) (bs : List UInt8) (B : Nat) (w : World) (hB : B ≤ w.heap.size) (h : PgsR w B A n ps) (hno : no < n) (hbs : ps[no]? = some bs) :
    Calls Tryz.prog 32 #[.slice A n c, .int .i64 (no : Nat), .int .i64 en] w fun e w' => e = .returned (.bool (pageOk bs no en)) ∧ Below w.heap.size w w' := by
  obtain ⟨b, o, A', c', p, rfl, hp, hl, hc0, hc1, hc2, hr⟩ := h.at_ hno
  obtain rfl : p = bs := by rw [hbs] at hp; injection hp with hp; exact hp.symm
  have hbl : b < w.heap.size := by
    obtain ⟨o', h1, h2⟩ := cells_of_cell hc0
    exact (Array.getElem?_eq_some_iff.1 h1).1
  have HNO := hide (rNo_any A' 512 c' p B w (by omega) hl.symm hr rfl)
  have HLS := hide (rLSN_any A' c' p B w hl hr)
  have HSL := hide (fun (i : Nat) (hi : i < 7) (W : World) (hb : Below w.heap.size w W) => pSlotR_any A' c' p B W (Nat.le_trans hB hb.size) hc1 hc2 hl (hr.below hb hB) i hi)
  have HC0 := hide hc0
  have s0 : (0 : Int) ≤ no := by omega
  have s1 : (no : Int) < n := by omega
  have HB := hide (Below.refl w.heap.size w)
  clear hp hbs h hr hc1 hc2 hl
  obtain ⟨v, hv⟩ : ∃ v, v = numI (cutB p 12 2) := ⟨_, rfl⟩
  obtain ⟨u, hu⟩ : ∃ u, u = numI (cutB p 4 8) := ⟨_, rfl⟩
  rw [← hv] at HNO
  rw [← hu] at HLS
  by_cases h1 : v = (no : Int)
  · by_cases h2 : u < 0
    · have HP := hide (show pageOk p no en = false by unfold pageOk; rw [← hu, decide_eq_true h2]; simp)
      clear hv hu
      subst h1
      go_enter Tryz.func32, Tryz.ntmps32
      go_wp2_with (first
        | (go_at_call 68; refine HNO.out.mono ?_; rintro e w' ⟨rfl, hw'⟩; obtain rfl := hw'.symm)
        | (go_at_call 94; refine HLS.out.mono ?_; rintro e w' ⟨rfl, hw'⟩; obtain rfl := hw'.symm))
      go_ret
      exact ⟨by rw [HP.out]; rfl, HB.out⟩
    · by_cases h3 : en < u
      · have HP := hide (show pageOk p no en = false by unfold pageOk; rw [← hu, decide_eq_true h3]; simp)
        clear hv hu
        subst h1
        go_enter Tryz.func32, Tryz.ntmps32
        go_wp2_with (first
          | (go_at_call 68; refine HNO.out.mono ?_; rintro e w' ⟨rfl, hw'⟩; obtain rfl := hw'.symm)
          | (go_at_call 94; refine HLS.out.mono ?_; rintro e w' ⟨rfl, hw'⟩; obtain rfl := hw'.symm))
        go_ret
        exact ⟨by rw [HP.out]; rfl, HB.out⟩
      · have HP := hide (show pageOk p no en = slotsOk p 7 by unfold pageOk; rw [← hu, ← hv, decide_eq_false h2, decide_eq_false h3, h1]; simp)
        clear hv hu
        subst h1
        rw [HP.out]
        go_enter Tryz.func32, Tryz.ntmps32
        go_wp2_with (first
          | (go_at_call 68; refine HNO.out.mono ?_; rintro e w' ⟨rfl, hw'⟩; obtain rfl := hw'.symm)
          | (go_at_call 94; refine HLS.out.mono ?_; rintro e w' ⟨rfl, hw'⟩; obtain rfl := hw'.symm))
        go_loopw [7] (fun i wr => ∃ k : Nat, k ≤ 7 ∧ i = .int .i64 k ∧ Hid (slotsOk p k = true) ∧ Below w.heap.size w wr) (fun i _ => 7 - (intOf i).toNat)
        case atStart => exact ⟨0, by omega, rfl, hide rfl, Below.refl _ _⟩
        case round =>
          obtain ⟨k, hk, rfl, HK, hbw⟩ := hrel
          have hz := hbw.size
          by_cases hlt : k < 7
          · have HS := hide (HSL.out k hlt wr hbw)
            have c0 : wr.cell? ⟨b, o + no, none⟩ = some (.slice A' 512 c') := (hbw.cell (p := ⟨b, o + no, none⟩) hbl).trans HC0.out
            have t1 : (k : Int) < 7 := by omega
            have t0 : (0 : Int) ≤ k := by omega
            have HBW := hide hbw
            go_wp2_with fail
            refine HS.out.mono ?_
            intro e w2 hP
            obtain ⟨x, A2, n2, c2, er, rfl, hby, hor⟩ := slotGP_one hP
            have HL2 := hide (HBW.out.trans (hP.2.mono HBW.out.size))
            obtain ⟨xs, xk, d1, d2, d3, d4, d5⟩ := x
            unfold itemC
            dsimp only
            have HOR := hide hor
            have hz2 := hP.2.size
            clear hby hP hbw hor
            go_upto_region 7 with (fail)
            refine nameW (R := fun W => Code.wp _ _ _ _ W) (fun W3 hW3 => ?_)
            have hb3 : Below w2.heap.size w2 W3 := hW3 ▸ (Below.refl w2.heap.size w2).alloc (Nat.le_refl _) _
            have HL3 := hide (HL2.out.trans (hb3.mono HL2.out.size))
            clear hW3 hb3
            rcases HOR.out with ⟨h1, _, _, _, _, rfl⟩ | ⟨h1, rfl⟩
            · have HF := hide (slotsOk_no hlt h1)
              clear h1 HOR
              go_wp2
              go_ret
              exact ⟨by rw [HF.out]; rfl, HL3.out⟩
            · have HF := hide (show slotsOk p (k + 1) = true by unfold slotsOk; rw [HK.out, h1]; rfl)
              clear h1 HOR
              go_wp2
              go_roundw
              case rel => exact ⟨k + 1, by omega, by go_num, HF, HL3.out⟩
              case measure => simp [intOf]; omega
          · obtain rfl : k = 7 := by omega
            go_wp2
            go_ret
            exact ⟨by rw [HK.out]; rfl, hbw⟩
  · have HP := hide (show pageOk p no en = false by unfold pageOk; rw [← hv, beq_eq_false_iff_ne.2 h1]; rfl)
    clear hv hu
    go_enter Tryz.func32, Tryz.ntmps32
    go_wp2_with (go_at_call 68; refine HNO.out.mono ?_; rintro e w' ⟨rfl, hw'⟩; obtain rfl := hw'.symm)
    go_ret
    exact ⟨by rw [HP.out]; rfl, HB.out⟩
end Go.Proofs.YtnanlaefehaifaaGreat
namespace Go.Proofs.YtnanlaefehaifaaGreat
open Go.RowKit
def confB (bs : List UInt8) : ConfD := ⟨numI (cutB bs 17 1), numI (cutB bs 18 2), numI (cutB bs 20 1), numI (cutB bs 21 1), numI (cutB bs 22 2)⟩
def metaG (bs : List UInt8) : Option (ConfD × Int) :=
  if numI (cutB bs 12 2) = 0 ∧ (bs.getD 16 0).toNat = 0 ∧ confOk (confB bs) = true ∧ (confB bs).b < numI (cutB bs 14 2) ∧ numI (cutB bs 14 2) ≤ (confB bs).p then some (confB bs, numI (cutB bs 14 2)) else none
theorem info_confK : (Tryz.prog.info? 56).map (·.size) = some 5 := by kernel_rfl
end Go.Proofs.YtnanlaefehaifaaGreat
namespace Go.Proofs.YtnanlaefehaifaaGreat
open Go.RowKit
theorem numB_from (l : List UInt8) : ∀ u : Nat, l.foldl (fun u b => 256 * u + b.toNat) u = u * 256 ^ l.length + numB l := by
  induction l with
  | nil => intro u; simp [numB]
  | cons b l ih =>
    intro u
    have h1 := ih (256 * u + b.toNat)
    have h2 := ih (256 * 0 + b.toNat)
    have h3 : numB (b :: l) = l.foldl (fun u b => 256 * u + b.toNat) (256 * 0 + b.toNat) := rfl
    rw [List.foldl_cons, h1, h3, h2, List.length_cons, Nat.pow_succ]
    rw [Nat.mul_zero, Nat.zero_add, Nat.add_mul, Nat.mul_comm 256 u, Nat.mul_assoc u 256, Nat.mul_comm 256 (256 ^ l.length), Nat.add_assoc]
theorem numB_cons (b : UInt8) (l : List UInt8) : numB (b :: l) = b.toNat * 256 ^ l.length + numB l := by
  have h := numB_from l (256 * 0 + b.toNat)
  have h3 : numB (b :: l) = l.foldl (fun u b => 256 * u + b.toNat) (256 * 0 + b.toNat) := rfl
  rw [h3, h, Nat.mul_zero, Nat.zero_add]
theorem beB_of (n : Int) (U : Nat) (hU : IntKind.u64.wrap n = (U : Nat)) : ∀ l : List UInt8, U % 256 ^ l.length = numB l → beB l.length n = l := by
  intro l
  induction l with
  | nil => intro _; rfl
  | cons b t ih =>
    intro h
    have hlt := numB_lt t
    have hbl := b.toNat_lt
    rw [numB_cons, List.length_cons, Nat.pow_succ] at h
    have hpos : 0 < 256 ^ t.length := Nat.pos_of_ne_zero (by simp)
    have h1 : U % 256 ^ t.length = numB t := by
      have this : U % (256 ^ t.length * 256) % 256 ^ t.length = (b.toNat * 256 ^ t.length + numB t) % 256 ^ t.length := by rw [h]
      rw [Nat.mod_mul_right_mod, Nat.add_comm, Nat.add_mul_mod_self_right, Nat.mod_eq_of_lt hlt] at this
      exact this
    have h2 : U / 256 ^ t.length % 256 = b.toNat := by
      have this : U % (256 ^ t.length * 256) / 256 ^ t.length = (b.toNat * 256 ^ t.length + numB t) / 256 ^ t.length := by rw [h]
      rw [Nat.mod_mul_right_div_self, Nat.add_comm, Nat.add_mul_div_right _ _ hpos, Nat.div_eq_of_lt hlt, Nat.zero_add] at this
      exact this
    have h3 : byteS n (8 * t.length) = b := by
      have h4 := byteS_val n t.length U hU
      rw [h2] at h4
      unfold byteV at h4
      injection h4 with _ h4
      exact UInt8.toNat_inj.1 (by omega)
    rw [List.length_cons, beB_succ, ih h1, h3]
theorem beB_numI (l : List UInt8) (h : l.length = 8) : beB 8 (numI l) = l := by
  have hlt := numB_lt64 l (by omega)
  have h1 : IntKind.u64.wrap (numI l) = ((numB l : Nat) : Int) := by
    rw [IntKind.wrap_u64]
    unfold numI wrap64
    omega
  have h2 := beB_of (numI l) (numB l) h1 l (by rw [h]; exact Nat.mod_eq_of_lt hlt)
  rw [h] at h2
  exact h2
theorem cutB_cutB (bs : List UInt8) (a n b m : Nat) (h : b + m ≤ n) : cutB ((cutB bs a n).drop b) 0 m = cutB bs (a + b) m := by
  unfold cutB
  rw [List.drop_zero, List.drop_take, List.take_take, List.drop_drop, Nat.min_eq_left (by omega)]
end Go.Proofs.YtnanlaefehaifaaGreat
namespace Go.Proofs.YtnanlaefehaifaaGreat
open Go.RowKit
def ReadP (w : World) (bs : List UInt8) (e : Ending) (w' : World) : Prop :=
  ∃ r g, e = .returned (.pointer (some ⟨r, 0, none⟩)) ∧ Blk w' r 281 #[.slice (some ⟨g, 0, none⟩) 8 8, .bool false] ∧ Reads w' r 1 (some ⟨g, 0, none⟩) 8 (bs.map byteV) ∧ w.heap.size ≤ r ∧ Below w.heap.size w w'
theorem beRead_any (A : Option Addr) (c : Nat) (bs : List UInt8) (B : Nat) (w : World) (hB : B ≤ w.heap.size) (hn : bs.length = 8) (hr : Reads w B 1 A 8 (bs.map byteV)) :
    Calls Tryz.prog 135 #[.slice A 8 c] w (ReadP w bs) := by
  obtain ⟨b, o, rfl, _, _⟩ := hr.plain (by omega) (by omega)
  have HW := hide (show Calls Tryz.prog 176 #[.slice (some ⟨b, o, none⟩) 8 c, .int .i64 0] w (OwnC w w.heap.size bs 8 8) from with_any ⟨b, o, none⟩ 8 c 0 bs B w hB (by omega) (by omega) hn.symm hr)
  clear hr hn
  go_enter Tryz.func135, Tryz.ntmps135
  go_wp2_with (go_at_call 176; refine HW.out.mono ?_; rintro e w1 ⟨g, rfl, ho, hb⟩)
  go_ret
  have hs := hb.size
  have hrd := ho.reads.2
  exact ⟨_, g, rfl, Blk.new _ _ _, hrd.alloc (Nat.le_refl _) _, hs, hb.alloc hs _⟩
theorem beOK_any (r : Nat) (v : Value) (w : World) (k : Blk w r 281 #[v, .bool false]) : Calls Tryz.prog 196 #[.pointer (some ⟨r, 0, none⟩)] w fun e w' => e = .returned (.bool true) ∧ w' = w := by
  have c1 := k.cell 1
  have l1 := k.lt
  clear k
  go_enter Tryz.func196, Tryz.ntmps196
  go_wp2
  go_ret
  exact ⟨rfl, rfl⟩
def NumP (w : World) (r g o n width : Nat) (x : Int) (e : Ending) (w' : World) : Prop :=
  e = .returned (.int .i64 x) ∧ ∃ A', Blk w' r 281 #[.slice A' (n - width) (n - width), .bool false] ∧ (width < n → A' = some ⟨g, o + width, none⟩) ∧ Turn (fun q => q = r) w w'
theorem beNum_any (r g o n width : Nat) (bs : List UInt8) (w : World) (k : Blk w r 281 #[.slice (some ⟨g, o, none⟩) n n, .bool false]) (hn : bs.length = n) (h8 : n ≤ 8) (h1 : 1 ≤ width) (hw : width ≤ n) (hr : Reads w r 1 (some ⟨g, o, none⟩) n (bs.map byteV)) :
    Calls Tryz.prog 137 #[.pointer (some ⟨r, 0, none⟩), .int .i64 (width : Nat)] w (NumP w r g o n width (numI (cutB bs 0 width))) := by
  have HOK := hide (beOK_any r _ w k)
  have HNU := hide (show Calls Tryz.prog 167 #[.slice (some ⟨g, o, none⟩) n n, .int .i64 0, .int .i64 (width : Nat)] w (fun e w' => e = .returned (.tuple #[.int .i64 (numI (cutB bs 0 width)), .bool true]) ∧ w' = w) from num_any (some ⟨g, o, none⟩) n n bs 0 width r w (by omega) (Nat.le_refl _) hn.symm hr h1 (by omega) (by omega))
  have HK := hide k
  have c0 := k.cell 0
  have f0 := k.frozen 0
  have l0 := k.lt
  generalize numI (cutB bs 0 width) = v at *
  have a1 : (0 : Int) ≤ width := by omega
  have a2 : (width : Int) ≤ n := by omega
  clear hr hn k
  by_cases he : n = width
  · subst he
    go_enter Tryz.func137, Tryz.ntmps137
    go_wp2_with (first
      | (go_at_call 196; refine HOK.out.mono ?_; rintro e w' ⟨rfl, hw'⟩; obtain rfl := hw'.symm)
      | (go_at_call 167; refine HNU.out.mono ?_; rintro e w' ⟨rfl, hw'⟩; obtain rfl := hw'.symm))
    go_ret
    exact ⟨rfl, _, by simpa using HK.out.set_ 0 _, fun h => absurd h (Nat.lt_irrefl _), Turn.set (S := fun q => q = r) (Turn.of_below (Below.refl _ _)) (p := ⟨r, 0, none⟩) (.inl rfl) _⟩
  · go_enter Tryz.func137, Tryz.ntmps137
    go_wp2_with (first
      | (go_at_call 196; refine HOK.out.mono ?_; rintro e w' ⟨rfl, hw'⟩; obtain rfl := hw'.symm)
      | (go_at_call 167; refine HNU.out.mono ?_; rintro e w' ⟨rfl, hw'⟩; obtain rfl := hw'.symm))
    go_ret
    exact ⟨rfl, _, HK.out.set_ 0 _, fun _ => rfl, Turn.set (S := fun q => q = r) (Turn.of_below (Below.refl _ _)) (p := ⟨r, 0, none⟩) (.inl rfl) _⟩
end Go.Proofs.YtnanlaefehaifaaGreat
