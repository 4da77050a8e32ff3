/-
  Texts of this claim, joined: VD, VE, VF.
-/
import Derived.Deep.MidRow
import Derived.LaidEqlPtr
import Derived.Laws.Cover3
import Derived.Laws.Pointers
import Derived.Test.YtdbgppknggaooaaGreatDoorBk04
set_option maxHeartbeats 6400000
set_option maxRecDepth 100000
namespace Go.Proofs.YtdbgppknggaooaaGreatDoor.Vm
open Go
theorem forceN_eq {α : Type} (x : Nat) (k : Nat → α) : forceN x k = k x := by cases x <;> rfl
theorem forceI_eq {α : Type} (x : Int) (k : Int → α) : forceI x k = k x := by cases x <;> simp [forceI, forceN_eq]
theorem bif_true {α : Type} {b : Bool} (x y : α) (h : b = true) : (bif b then x else y) = x := by rw [h]; rfl
theorem bif_false {α : Type} {b : Bool} (x y : α) (h : b = false) : (bif b then x else y) = y := by rw [h]; rfl
theorem beq_true {a b : Nat} : Nat.beq a b = true ↔ a = b := ⟨Nat.eq_of_beq_eq_true, fun h => by subst h; exact Nat.beq_refl a⟩
theorem ble_true {a b : Nat} : Nat.ble a b = true ↔ a ≤ b := ⟨Nat.le_of_ble_eq_true, Nat.ble_eq_true_of_le⟩
theorem blt_true {a b : Nat} : Nat.blt a b = true ↔ a < b := ble_true
section
variable {α : Type}
theorem bool_rec {α : Type} (b : Bool) (x y : α) : (Bool.rec x y b : α) = if b = true then y else x := by cases b <;> rfl
theorem Tr.get_node (l : Tr α) (v : Option α) (r : Tr α) (n : Nat) : (Tr.node l v r).get n = if n = 0 then v else if n % 2 = 1 then l.get (n / 2) else r.get (n / 2 - 1) := by
  show (Bool.rec (Bool.rec (r.get (n / 2 - 1)) (l.get (n / 2)) (Nat.beq (n % 2) 1)) v (Nat.beq n 0) : Option α) = _
  rw [bool_rec, bool_rec]
  simp only [beq_true]
theorem Tr.put1_succ (f n : Nat) (x : Option α) : (Tr.put1 (f + 1) n x : Tr α) = if n = 0 then .node .nil x .nil else if n % 2 = 1 then .node (Tr.put1 f (n / 2) x) none .nil else .node .nil none (Tr.put1 f (n / 2 - 1) x) := by
  show (Bool.rec (Bool.rec (Tr.node .nil none (Tr.put1 f (n / 2 - 1) x)) (.node (Tr.put1 f (n / 2) x) none .nil) (Nat.beq (n % 2) 1)) (.node .nil x .nil) (Nat.beq n 0) : Tr α) = _
  rw [bool_rec, bool_rec]
  simp only [beq_true]
theorem Tr.put_nil (n : Nat) (x : Option α) : (Tr.nil : Tr α).put n x = Tr.put1 (n + 1) n x := rfl
theorem Tr.put_node (l : Tr α) (v : Option α) (r : Tr α) (n : Nat) (x : Option α) : (Tr.node l v r).put n x = if n = 0 then .node l x r else if n % 2 = 1 then .node (l.put (n / 2) x) v r else .node l v (r.put (n / 2 - 1) x) := by
  show (Bool.rec (Bool.rec (Tr.node l v (r.put (n / 2 - 1) x)) (.node (l.put (n / 2) x) v r) (Nat.beq (n % 2) 1)) (.node l x r) (Nat.beq n 0) : Tr α) = _
  rw [bool_rec, bool_rec]
  simp only [beq_true]
theorem Tr.get_put1 (x : Option α) : ∀ (f n m : Nat), n < f → (Tr.put1 f n x : Tr α).get m = if m = n then x else none
  | 0, n, m, h => by omega
  | f + 1, n, m, h => by
    rw [Tr.put1_succ]
    by_cases h0 : n = 0
    · subst h0
      rw [if_pos rfl, Tr.get_node]
      by_cases hm : m = 0
      · rw [if_pos hm, if_pos hm]
      · rw [if_neg hm, if_neg hm]
        split <;> rfl
    · rw [if_neg h0]
      by_cases h1 : n % 2 = 1
      · rw [if_pos h1, Tr.get_node]
        by_cases hm : m = 0
        · rw [if_pos hm, if_neg (by omega)]
        · rw [if_neg hm]
          by_cases h2 : m % 2 = 1
          · rw [if_pos h2, Tr.get_put1 x f (n / 2) (m / 2) (by omega)]
            by_cases h3 : m = n
            · rw [if_pos h3, if_pos (by omega)]
            · rw [if_neg h3, if_neg (by omega)]
          · rw [if_neg h2, if_neg (by omega)]
            rfl
      · rw [if_neg h1, Tr.get_node]
        by_cases hm : m = 0
        · rw [if_pos hm, if_neg (by omega)]
        · rw [if_neg hm]
          by_cases h2 : m % 2 = 1
          · rw [if_pos h2, if_neg (by omega)]
            rfl
          · rw [if_neg h2, Tr.get_put1 x f (n / 2 - 1) (m / 2 - 1) (by omega)]
            by_cases h3 : m = n
            · rw [if_pos h3, if_pos (by omega)]
            · rw [if_neg h3, if_neg (by omega)]
theorem Tr.get_put (x : Option α) : ∀ (t : Tr α) (n m : Nat), (t.put n x).get m = if m = n then x else t.get m
  | .nil, n, m => by
    rw [Tr.put_nil, Tr.get_put1 x (n + 1) n m (by omega)]
    rfl
  | .node l v r, n, m => by
    rw [Tr.put_node]
    by_cases h0 : n = 0
    · subst h0
      rw [if_pos rfl, Tr.get_node, Tr.get_node]
      by_cases hm : m = 0
      · rw [if_pos hm, if_pos hm]
      · rw [if_neg hm, if_neg hm, if_neg hm]
    · rw [if_neg h0]
      by_cases h1 : n % 2 = 1
      · rw [if_pos h1, Tr.get_node, Tr.get_node]
        by_cases hm : m = 0
        · rw [if_pos hm, if_neg (by omega), if_pos hm]
        · rw [if_neg hm, if_neg hm]
          by_cases h2 : m % 2 = 1
          · rw [if_pos h2, if_pos h2, Tr.get_put x l]
            by_cases h3 : m = n
            · rw [if_pos h3, if_pos (by omega)]
            · rw [if_neg h3, if_neg (by omega)]
          · rw [if_neg h2, if_neg h2, if_neg (by omega)]
      · rw [if_neg h1, Tr.get_node, Tr.get_node]
        by_cases hm : m = 0
        · rw [if_pos hm, if_neg (by omega), if_pos hm]
        · rw [if_neg hm, if_neg hm]
          by_cases h2 : m % 2 = 1
          · rw [if_pos h2, if_pos h2, if_neg (by omega)]
          · rw [if_neg h2, if_neg h2, Tr.get_put x r]
            by_cases h3 : m = n
            · rw [if_pos h3, if_pos (by omega)]
            · rw [if_neg h3, if_neg (by omega)]
end
section
variable {α β : Type} {s s' : St}
theorem M.bind_ok {m : M α} {k : α → M β} {y : β} : M.bind m k s = .ok y s' ↔ ∃ x s1, m s = .ok x s1 ∧ k x s1 = .ok y s' := by
  unfold M.bind
  cases hm : m s with
  | ok a t =>
    constructor
    · intro h; exact ⟨a, t, rfl, h⟩
    · rintro ⟨x, s1, h1, h2⟩
      injection h1 with h3 h4
      subst h3 h4
      exact h2
  | err e => exact ⟨fun h => (by cases h), fun ⟨x, s1, h1, _⟩ => (by cases h1)⟩
theorem M.pure_ok {a b : α} : M.pure a s = .ok b s' ↔ b = a ∧ s' = s := by
  simp [M.pure, eq_comm]
theorem M.fail_ok {e : String} {b : α} : M.fail e s = .ok b s' ↔ False := by simp [M.fail]
theorem M.of_ok {o : Option α} {e : String} {b : α} : M.of o e s = .ok b s' ↔ o = some b ∧ s' = s := by
  unfold M.of
  cases o with
  | none => exact ⟨fun h => (by cases h), fun ⟨h1, _⟩ => (by cases h1)⟩
  | some a => exact ⟨fun h => (by injection h with h1 h2; exact ⟨by rw [h1], h2.symm⟩), fun ⟨h1, h2⟩ => (by injection h1 with h1; subst h1 h2; rfl)⟩
theorem getM_ok {n : Nat} {o : AObj} : getM n s = .ok o s' ↔ n < s.c ∧ s.h.get n = some o ∧ s' = .mk s.h s.c (s.r.add n) s.w := by
  obtain ⟨h, c, r, w⟩ := s
  unfold getM
  simp only [St.h, St.c, St.r, St.w]
  cases hb : Nat.ble c n with
  | true =>
    have := ble_true.1 hb
    simp only [cond_true, reduceCtorEq, false_iff]
    omega
  | false =>
    have hn : n < c := by
      rcases Nat.lt_or_ge n c with h1 | h1
      · exact h1
      · rw [ble_true.2 h1] at hb; cases hb
    cases hg : h.get n <;> simp [hn, eq_comm]
theorem setM_ok {n : Nat} {o : Option AObj} {u : Unit} : setM n o s = .ok u s' ↔ n < s.c ∧ s' = .mk (s.h.put n o) s.c s.r (s.w.add n) := by
  obtain ⟨h, c, r, w⟩ := s
  unfold setM
  simp only [St.h, St.c, St.r, St.w]
  cases hb : Nat.ble c n with
  | true =>
    have := ble_true.1 hb
    simp only [cond_true, reduceCtorEq, false_iff]
    omega
  | false =>
    have hn : n < c := by
      rcases Nat.lt_or_ge n c with h1 | h1
      · exact h1
      · rw [ble_true.2 h1] at hb; cases hb
    simp [hn, eq_comm]
theorem newM_ok {o : AObj} {n : Nat} : newM o s = .ok n s' ↔ n = s.c ∧ s' = .mk (s.h.put s.c (some o)) (s.c + 1) s.r (s.w.add s.c) := by
  obtain ⟨h, c, r, w⟩ := s
  unfold newM
  simp only [St.h, St.c, St.r, St.w, forceN_eq, Rs.ok.injEq, eq_comm (a := c)]
  exact ⟨fun ⟨a, b⟩ => ⟨a, b.symm⟩, fun ⟨a, b⟩ => ⟨a, b.symm⟩⟩
theorem withTy_ok {E : Env} {t : TypeId} {k : TyI → M α} {b : α} : withTy E t k s = .ok b s' ↔ ∃ i, E.ty.get t = some i ∧ k i s = .ok b s' := by
  unfold withTy
  cases E.ty.get t <;> simp
def Alike (s s' : St) : Prop := s'.h = s.h ∧ s'.c = s.c
theorem Alike.refl (s : St) : Alike s s := ⟨rfl, rfl⟩
theorem Alike.trans {s1 : St} (h : Alike s s1) (h' : Alike s1 s') : Alike s s' := ⟨h'.1.trans h.1, h'.2.trans h.2⟩
theorem getM_alike {n : Nat} {o : AObj} (h : getM n s = .ok o s') : s.h.get n = some o ∧ Alike s s' := by
  obtain ⟨_, h1, rfl⟩ := getM_ok.1 h
  exact ⟨h1, rfl, rfl⟩
theorem rowM_ok {n : Nat} {q : TypeId × List AV} (h : rowM n s = .ok q s') : s.h.get n = some (.row q.1 q.2) ∧ n < s.c ∧ Alike s s' := by
  unfold rowM at h
  obtain ⟨o, s1, h1, h2⟩ := M.bind_ok.1 h
  obtain ⟨hlt, h3, rfl⟩ := getM_ok.1 h1
  obtain ⟨h4, rfl⟩ := M.of_ok.1 h2
  cases o <;> simp only [rowO, Option.some.injEq, reduceCtorEq] at h4
  subst h4
  exact ⟨h3, hlt, rfl, rfl⟩
end
def Ren := Nat → Option (Nat × Nat × Nat)
def Ren.le (ρ ρ' : Ren) : Prop := ∀ n p, ρ n = some p → ρ' n = some p
theorem Ren.le_refl (ρ : Ren) : ρ.le ρ := fun _ _ h => h
theorem Ren.le_trans {ρ ρ1 ρ2 : Ren} (h : ρ.le ρ1) (h' : ρ1.le ρ2) : ρ.le ρ2 := fun n p e => h' n p (h n p e)
noncomputable def bytesV (l n : Nat) : List Value := (unpack l n).map byteV
def isOne : AV → Bool
  | .agg _ => false
  | .tuple _ => false
  | .bytes _ _ => false
  | .any => false
  | .but _ _ => false
  | _ => true
def capR (cap : Option Nat) (c off es κ : Nat) : Prop :=
  match cap with
  | some c' => c = c'
  | none => off + c * es = κ
def XOf (b : Option (Nat × Nat)) (one : Bool) (us : List Value) (V : Value → Prop) : Prop :=
  match b with
  | some p => us = bytesV p.1 p.2 ∧ p.2 < 2 ^ (8 * p.1)
  | none => one = true ∧ ∃ v, us = [v] ∧ V v
mutual
def VRel (ρ : Ren) : AV → Value → Prop
  | .int k n, v => v = .int k n
  | .bool b, v => v = .bool b
  | .str s, v => v = .string s
  | .nilp, v => v = .pointer none
  | .ptr n off, v => ∃ p, ρ n = some p ∧ v = .pointer (some ⟨p.1, p.2.1 + off, none⟩)
  | .nilslice, v => v = .slice none 0 0
  | .slice n off len cap es, v => ∃ p c, ρ n = some p ∧ v = .slice (some ⟨p.1, p.2.1 + off, none⟩) len c ∧ len ≤ c ∧ capR cap c off es p.2.2
  | .empty, v => ∃ a c, v = .slice (some a) 0 c
  | .nilmap, v => v = .map none
  | .map n, v => ∃ p, ρ n = some p ∧ v = .map (some p.1)
  | .nilfunc, v => v = .nilFunc
  | .func f a b, v => ∃ x y : Array Value, v = .func (.func f) x y ∧ LRel ρ a x.toList ∧ LRel ρ b y.toList
  | .yield n, v => ∃ p, ρ n = some p ∧ v = .func (.yield p.1) #[] #[]
  | .niliface, v => v = .nilIface
  | .iface t x, v => ∃ u, v = .iface t u ∧ VRel ρ x u
  | .agg cs, v => ∃ a : Array Value, v = .agg a ∧ CRel ρ cs a.toList
  | .tuple vs, v => ∃ a : Array Value, v = .tuple a ∧ LRel ρ vs a.toList
  | .bytes _ _, _ => False
  | .any, _ => True
  | .but k l, v => ∃ n, v = .int k n ∧ n ∉ l
def LRel (ρ : Ren) : List AV → List Value → Prop
  | [], vs => vs = []
  | a :: r, vs => ∃ v vs', vs = v :: vs' ∧ VRel ρ a v ∧ LRel ρ r vs'
def CRel (ρ : Ren) : List AV → List Value → Prop
  | [], vs => vs = []
  | a :: r, vs => ∃ us vs', vs = us ++ vs' ∧ XOf (isB a) (isOne a) us (fun v => VRel ρ a v) ∧ CRel ρ r vs'
end
theorem XOf.mono {b : Option (Nat × Nat)} {one : Bool} {us : List Value} {V V' : Value → Prop} (hV : ∀ v, V v → V' v) (h : XOf b one us V) : XOf b one us V' := by
  cases b with
  | some p => exact h
  | none =>
    obtain ⟨h1, v, h2, h3⟩ := h
    exact ⟨h1, v, h2, hV v h3⟩
mutual
theorem VRel.mono {ρ ρ' : Ren} (hl : ρ.le ρ') : ∀ (a : AV) (v : Value), VRel ρ a v → VRel ρ' a v
  | .int _ _, _, h => h
  | .bool _, _, h => h
  | .str _, _, h => h
  | .nilp, _, h => h
  | .ptr n off, v, h => by
    obtain ⟨p, h1, h2⟩ := h
    exact ⟨p, hl _ _ h1, h2⟩
  | .nilslice, _, h => h
  | .slice n off len cap es, v, h => by
    obtain ⟨p, c, h1, h2⟩ := h
    exact ⟨p, c, hl _ _ h1, h2⟩
  | .empty, _, h => h
  | .nilmap, _, h => h
  | .map n, v, h => by
    obtain ⟨p, h1, h2⟩ := h
    exact ⟨p, hl _ _ h1, h2⟩
  | .nilfunc, _, h => h
  | .func f a b, v, h => by
    obtain ⟨x, y, h1, h2, h3⟩ := h
    exact ⟨x, y, h1, LRel.mono hl a _ h2, LRel.mono hl b _ h3⟩
  | .yield n, v, h => by
    obtain ⟨p, h1, h2⟩ := h
    exact ⟨p, hl _ _ h1, h2⟩
  | .niliface, _, h => h
  | .iface t x, v, h => by
    obtain ⟨u, h1, h2⟩ := h
    exact ⟨u, h1, VRel.mono hl x u h2⟩
  | .agg cs, v, h => by
    obtain ⟨a, h1, h2⟩ := h
    exact ⟨a, h1, CRel.mono hl cs _ h2⟩
  | .tuple vs, v, h => by
    obtain ⟨a, h1, h2⟩ := h
    exact ⟨a, h1, LRel.mono hl vs _ h2⟩
  | .bytes _ _, _, h => h
  | .any, _, h => h
  | .but _ _, _, h => h
theorem LRel.mono {ρ ρ' : Ren} (hl : ρ.le ρ') : ∀ (l : List AV) (vs : List Value), LRel ρ l vs → LRel ρ' l vs
  | [], _, h => h
  | a :: r, vs, h => by
    obtain ⟨v, vs', h1, h2, h3⟩ := h
    exact ⟨v, vs', h1, VRel.mono hl a v h2, LRel.mono hl r vs' h3⟩
theorem CRel.mono {ρ ρ' : Ren} (hl : ρ.le ρ') : ∀ (l : List AV) (vs : List Value), CRel ρ l vs → CRel ρ' l vs
  | [], _, h => h
  | a :: r, vs, h => by
    obtain ⟨us, vs', h1, h2, h3⟩ := h
    exact ⟨us, vs', h1, XOf.mono (fun v hv => VRel.mono hl a v hv) h2, CRel.mono hl r vs' h3⟩
end
section
variable {ρ : Ren}
theorem CRel.nil : CRel ρ [] [] := by simp [CRel]
theorem CRel.nil_iff {vs : List Value} : CRel ρ [] vs ↔ vs = [] := by simp [CRel]
theorem CRel.cons_iff {a : AV} {r : List AV} {vs : List Value} : CRel ρ (a :: r) vs ↔ ∃ us vs', vs = us ++ vs' ∧ XOf (isB a) (isOne a) us (fun v => VRel ρ a v) ∧ CRel ρ r vs' := by
  rw [CRel]
theorem LRel.nil_iff {vs : List Value} : LRel ρ [] vs ↔ vs = [] := by simp [LRel]
theorem LRel.cons_iff {a : AV} {r : List AV} {vs : List Value} : LRel ρ (a :: r) vs ↔ ∃ v vs', vs = v :: vs' ∧ VRel ρ a v ∧ LRel ρ r vs' := by
  rw [LRel]
theorem unpack_length : ∀ (l n : Nat), (unpack l n).length = l
  | 0, _ => rfl
  | l + 1, n => by rw [unpack, List.length_cons, unpack_length l]
theorem bytesV_length (l n : Nat) : (bytesV l n).length = l := by rw [bytesV, List.length_map, unpack_length]
theorem XOf.length {a : AV} {us : List Value} (h : XOf (isB a) (isOne a) us (fun v => VRel ρ a v)) : us.length = (match isB a with | some (l, _) => l | none => 1) := by
  cases hb : isB a with
  | some p =>
    rw [hb] at h
    rw [h.1, bytesV_length]
  | none =>
    rw [hb] at h
    obtain ⟨_, v, rfl, _⟩ := h
    rfl
theorem CRel.length : ∀ (l : List AV) {vs : List Value}, CRel ρ l vs → vs.length = lenC l
  | [], vs, h => by rw [CRel.nil_iff.1 h]; rfl
  | a :: r, vs, h => by
    obtain ⟨us, vs', rfl, h2, h3⟩ := CRel.cons_iff.1 h
    rw [List.length_append, CRel.length r h3, XOf.length h2]
    rfl
theorem LRel.length : ∀ (l : List AV) {vs : List Value}, LRel ρ l vs → vs.length = l.length
  | [], vs, h => by rw [LRel.nil_iff.1 h]; rfl
  | a :: r, vs, h => by
    obtain ⟨v, vs', rfl, h2, h3⟩ := LRel.cons_iff.1 h
    rw [List.length_cons, LRel.length r h3, List.length_cons]
theorem LRel.append : ∀ {l m : List AV} {us vs : List Value}, LRel ρ l us → LRel ρ m vs → LRel ρ (l ++ m) (us ++ vs)
  | [], m, us, vs, h, h' => by rw [LRel.nil_iff.1 h]; exact h'
  | a :: r, m, us, vs, h, h' => by
    obtain ⟨v, us', rfl, h2, h3⟩ := LRel.cons_iff.1 h
    exact LRel.cons_iff.2 ⟨v, us' ++ vs, rfl, h2, LRel.append h3 h'⟩
theorem LRel.get : ∀ {l : List AV} {vs : List Value} {i : Nat} {a : AV}, LRel ρ l vs → l[i]? = some a → ∃ v, vs[i]? = some v ∧ VRel ρ a v
  | [], vs, i, a, h, h' => by simp at h'
  | x :: r, vs, i, a, h, h' => by
    obtain ⟨v, vs', rfl, h2, h3⟩ := LRel.cons_iff.1 h
    cases i with
    | zero =>
      obtain rfl : x = a := by simpa using h'
      exact ⟨v, rfl, h2⟩
    | succ i => exact LRel.get (i := i) h3 (by simpa using h')
theorem unpack_split (n : Nat) : ∀ (k l : Nat), k ≤ l → unpack l n = unpack k (n % 2 ^ (8 * k)) ++ unpack (l - k) (n >>> (8 * k))
  | k, l, h => by
    induction k generalizing n l with
    | zero => simp [unpack]
    | succ k ih =>
      cases l with
      | zero => omega
      | succ l =>
        have e1 : n % 2 ^ (8 * (k + 1)) % 256 = n % 256 := by
          rw [show (256 : Nat) = 2 ^ 8 from rfl]
          exact Nat.mod_mod_of_dvd n (Nat.pow_dvd_pow 2 (by omega))
        have e2 : n % 2 ^ (8 * (k + 1)) / 256 = (n / 256) % 2 ^ (8 * k) := by
          rw [show 8 * (k + 1) = 8 * k + 8 by omega, Nat.pow_add, show (2 : Nat) ^ 8 = 256 from rfl, Nat.mul_comm, Nat.mod_mul_right_div_self]
        have e3 : n >>> (8 * (k + 1)) = (n / 256) >>> (8 * k) := by
          rw [Nat.shiftRight_eq_div_pow, Nat.shiftRight_eq_div_pow, Nat.div_div_eq_div_mul, show (256 : Nat) = 2 ^ 8 from rfl, ← Nat.pow_add]
          congr 2
          omega
        show UInt8.ofNat (n % 256) :: unpack l (n / 256) = (UInt8.ofNat (n % 2 ^ (8 * (k + 1)) % 256) :: unpack k (n % 2 ^ (8 * (k + 1)) / 256)) ++ unpack (l + 1 - (k + 1)) (n >>> (8 * (k + 1)))
        rw [e1, e2, e3, ih (n / 256) l (by omega), show l + 1 - (k + 1) = l - k by omega]
        rfl
theorem unpack_join (l l2 n n2 : Nat) (hn : n < 2 ^ (8 * l)) : unpack (l + l2) (n + n2 <<< (8 * l)) = unpack l n ++ unpack l2 n2 := by
  rw [unpack_split (n + n2 <<< (8 * l)) l (l + l2) (by omega), show l + l2 - l = l2 by omega]
  have e1 : (n + n2 <<< (8 * l)) % 2 ^ (8 * l) = n := by
    rw [Nat.shiftLeft_eq, Nat.add_mul_mod_self_right, Nat.mod_eq_of_lt hn]
  have e2 : (n + n2 <<< (8 * l)) >>> (8 * l) = n2 := by
    rw [Nat.shiftLeft_eq, Nat.shiftRight_eq_div_pow, Nat.add_mul_div_right _ _ (Nat.two_pow_pos _), Nat.div_eq_of_lt hn, Nat.zero_add]
  rw [e1, e2]
theorem join_lt (l l2 n n2 : Nat) (hn : n < 2 ^ (8 * l)) (h2 : n2 < 2 ^ (8 * l2)) : n + n2 <<< (8 * l) < 2 ^ (8 * (l + l2)) := by
  rw [Nat.shiftLeft_eq, show 8 * (l + l2) = 8 * l2 + 8 * l by omega, Nat.pow_add]
  have : (n2 + 1) * 2 ^ (8 * l) ≤ 2 ^ (8 * l2) * 2 ^ (8 * l) := Nat.mul_le_mul_right _ h2
  rw [Nat.add_mul, Nat.one_mul] at this
  omega
theorem shr_lt (l k n : Nat) (hk : k ≤ l) (hn : n < 2 ^ (8 * l)) : n >>> (8 * k) < 2 ^ (8 * (l - k)) := by
  rw [Nat.shiftRight_eq_div_pow, Nat.div_lt_iff_lt_mul (Nat.two_pow_pos _), ← Nat.pow_add]
  rwa [show 8 * (l - k) + 8 * k = 8 * l by omega]
theorem isB_some {a : AV} {l n : Nat} (h : isB a = some (l, n)) : a = .bytes l n := by
  cases a <;> simp only [isB, Option.some.injEq, reduceCtorEq, Prod.mk.injEq] at h
  obtain ⟨rfl, rfl⟩ := h
  rfl
theorem CRel.bytes_iff {l n : Nat} {r : List AV} {vs : List Value} : CRel ρ (.bytes l n :: r) vs ↔ ∃ vs', vs = bytesV l n ++ vs' ∧ n < 2 ^ (8 * l) ∧ CRel ρ r vs' := by
  rw [CRel.cons_iff]
  constructor
  · rintro ⟨us, vs', rfl, ⟨rfl, h2⟩, h3⟩
    exact ⟨vs', rfl, h2, h3⟩
  · rintro ⟨vs', rfl, h2, h3⟩
    exact ⟨_, vs', rfl, ⟨rfl, h2⟩, h3⟩
theorem CRel.one_iff {a : AV} {r : List AV} {vs : List Value} (hb : isB a = none) : CRel ρ (a :: r) vs ↔ ∃ v vs', vs = v :: vs' ∧ isOne a = true ∧ VRel ρ a v ∧ CRel ρ r vs' := by
  rw [CRel.cons_iff, hb]
  constructor
  · rintro ⟨us, vs', rfl, ⟨h1, v, rfl, h2⟩, h3⟩
    exact ⟨v, vs', rfl, h1, h2, h3⟩
  · rintro ⟨v, vs', rfl, h1, h2, h3⟩
    exact ⟨[v], vs', rfl, ⟨h1, v, rfl, h2⟩, h3⟩
theorem splitC_rel : ∀ (l : List AV) {k : Nat} {x y : List AV} {vs : List Value}, splitC l k = some (x, y) → CRel ρ l vs → CRel ρ x (vs.take k) ∧ CRel ρ y (vs.drop k) ∧ k ≤ vs.length
  | [], k, x, y, vs, h, hr => by
    unfold splitC at h
    cases hb : Nat.beq k 0 with
    | true =>
      rw [bif_true _ _ hb] at h
      obtain rfl := beq_true.1 hb
      simp only [Option.some.injEq, Prod.mk.injEq] at h
      obtain ⟨rfl, rfl⟩ := h
      rw [CRel.nil_iff.1 hr]
      exact ⟨CRel.nil, CRel.nil, Nat.zero_le _⟩
    | false => rw [bif_false _ _ hb] at h; cases h
  | a :: r, k, x, y, vs, h, hr => by
    unfold splitC at h
    cases hb : Nat.beq k 0 with
    | true =>
      rw [bif_true _ _ hb] at h
      obtain rfl := beq_true.1 hb
      simp only [Option.some.injEq, Prod.mk.injEq] at h
      obtain ⟨rfl, rfl⟩ := h
      exact ⟨CRel.nil, hr, Nat.zero_le _⟩
    | false =>
      rw [bif_false _ _ hb] at h
      have hk : k ≠ 0 := fun e => by rw [beq_true.2 e] at hb; cases hb
      cases ha : isB a with
      | some p =>
        obtain ⟨l, n⟩ := p
        obtain rfl := isB_some ha
        simp only [ha] at h
        obtain ⟨vs', rfl, hn, h3⟩ := CRel.bytes_iff.1 hr
        have hl := bytesV_length l n
        cases hlk : Nat.ble l k with
        | true =>
          rw [bif_true _ _ hlk] at h
          have hle := ble_true.1 hlk
          cases hs : splitC r (Nat.sub k l) with
          | none => rw [hs] at h; cases h
          | some q =>
            obtain ⟨x', y'⟩ := q
            rw [hs] at h
            simp only [Option.some.injEq, Prod.mk.injEq] at h
            obtain ⟨rfl, rfl⟩ := h
            obtain ⟨g1, g2, g3⟩ := splitC_rel r hs h3
            have e : k = (bytesV l n).length + (k - l) := by omega
            refine ⟨?_, ?_, ?_⟩
            · rw [e, List.take_length_add_append]
              exact CRel.bytes_iff.2 ⟨_, rfl, hn, g1⟩
            · rw [e, List.drop_length_add_append]
              exact g2
            · rw [List.length_append, hl]
              have : Nat.sub k l = k - l := rfl
              omega
        | false =>
          rw [bif_false _ _ hlk] at h
          have hlt : k < l := by
            rcases Nat.lt_or_ge k l with h1 | h1
            · exact h1
            · rw [ble_true.2 h1] at hlk; cases hlk
          simp only [Option.some.injEq, Prod.mk.injEq] at h
          obtain ⟨rfl, rfl⟩ := h
          have e : bytesV l n = bytesV k (n % 2 ^ (8 * k)) ++ bytesV (l - k) (n >>> (8 * k)) := by
            unfold bytesV
            rw [unpack_split n k l (by omega), List.map_append]
          have hlk2 := bytesV_length k (n % 2 ^ (8 * k))
          refine ⟨?_, ?_, ?_⟩
          · rw [e, List.append_assoc, List.take_append_of_le_length (by omega), List.take_of_length_le (by omega)]
            exact CRel.bytes_iff.2 ⟨[], (List.append_nil _).symm, Nat.mod_lt _ (Nat.two_pow_pos _), CRel.nil⟩
          · rw [e, List.append_assoc, List.drop_append_of_le_length (by omega), List.drop_of_length_le (by omega), List.nil_append]
            exact CRel.bytes_iff.2 ⟨vs', rfl, shr_lt l k n (by omega) hn, h3⟩
          · rw [List.length_append]
            omega
      | none =>
        simp only [ha] at h
        obtain ⟨v, vs', rfl, h1, h2, h3⟩ := (CRel.one_iff ha).1 hr
        cases hs : splitC r (Nat.sub k 1) with
        | none => rw [hs] at h; cases h
        | some q =>
          obtain ⟨x', y'⟩ := q
          rw [hs] at h
          simp only [Option.some.injEq, Prod.mk.injEq] at h
          obtain ⟨rfl, rfl⟩ := h
          obtain ⟨g1, g2, g3⟩ := splitC_rel r hs h3
          have e : k = (k - 1) + 1 := by omega
          have e' : Nat.sub k 1 = k - 1 := rfl
          refine ⟨?_, ?_, ?_⟩
          · rw [e, List.take_succ_cons]
            exact (CRel.one_iff ha).2 ⟨v, _, rfl, h1, h2, g1⟩
          · rw [e, List.drop_succ_cons]
            exact g2
          · rw [List.length_cons]
            omega
theorem joinB_rel {l n : Nat} {us vs : List Value} {y : List AV} (hu : us = bytesV l n) (hn : n < 2 ^ (8 * l)) (hy : CRel ρ y vs) : CRel ρ (joinB l n y) (us ++ vs) := by
  subst hu
  cases y with
  | nil =>
    rw [CRel.nil_iff.1 hy]
    exact CRel.bytes_iff.2 ⟨[], rfl, hn, CRel.nil⟩
  | cons b r =>
    cases hb : isB b with
    | none =>
      simp only [joinB, hb]
      exact CRel.bytes_iff.2 ⟨vs, rfl, hn, hy⟩
    | some p =>
      obtain ⟨l2, n2⟩ := p
      obtain rfl := isB_some hb
      obtain ⟨vs', rfl, hn2, h3⟩ := CRel.bytes_iff.1 hy
      simp only [joinB, hb, forceN_eq]
      refine CRel.bytes_iff.2 ⟨vs', ?_, join_lt l l2 n n2 hn hn2, h3⟩
      rw [← List.append_assoc]
      congr 1
      unfold bytesV
      rw [← List.map_append]
      exact congrArg _ (unpack_join l l2 n n2 hn).symm
theorem joinC_rel : ∀ (x : List AV) {y : List AV} {us vs : List Value}, CRel ρ x us → CRel ρ y vs → CRel ρ (joinC x y) (us ++ vs)
  | [], y, us, vs, h, h' => by rw [CRel.nil_iff.1 h]; exact h'
  | [a], y, us, vs, h, h' => by
    unfold joinC
    cases ha : isB a with
    | some p =>
      obtain ⟨l, n⟩ := p
      obtain rfl := isB_some ha
      obtain ⟨vs', rfl, hn, h3⟩ := CRel.bytes_iff.1 h
      rw [CRel.nil_iff.1 h3, List.append_nil]
      exact joinB_rel rfl hn h'
    | none =>
      obtain ⟨v, vs', rfl, h1, h2, h3⟩ := (CRel.one_iff ha).1 h
      rw [CRel.nil_iff.1 h3]
      exact (CRel.one_iff ha).2 ⟨v, vs, rfl, h1, h2, h'⟩
  | a :: b :: r, y, us, vs, h, h' => by
    unfold joinC
    obtain ⟨u, us', rfl, h2, h3⟩ := CRel.cons_iff.1 h
    exact CRel.cons_iff.2 ⟨u, us' ++ vs, by rw [List.append_assoc], h2, joinC_rel (b :: r) h3 h'⟩
theorem loadC_rel {cs l : List AV} {off k : Nat} {vs : List Value} (h : loadC cs off k = some l) (hr : CRel ρ cs vs) : CRel ρ l ((vs.drop off).take k) ∧ off + k ≤ vs.length := by
  unfold loadC at h
  cases h1 : splitC cs off with
  | none => rw [h1] at h; cases h
  | some q =>
    obtain ⟨x, y⟩ := q
    rw [h1] at h
    simp only at h
    cases h2 : splitC y k with
    | none => rw [h2] at h; cases h
    | some q2 =>
      obtain ⟨z, t⟩ := q2
      rw [h2] at h
      simp only [Option.some.injEq] at h
      subst h
      obtain ⟨_, g2, g3⟩ := splitC_rel cs h1 hr
      obtain ⟨f1, _, f3⟩ := splitC_rel y h2 g2
      rw [List.length_drop] at f3
      exact ⟨f1, by omega⟩
theorem storeC_rel {cs new cs' : List AV} {off k : Nat} {vs us : List Value} (h : storeC cs off k new = some cs') (hr : CRel ρ cs vs) (hn : CRel ρ new us) : CRel ρ cs' (vs.take off ++ (us ++ vs.drop (off + k))) ∧ off + k ≤ vs.length := by
  unfold storeC at h
  cases h1 : splitC cs off with
  | none => rw [h1] at h; cases h
  | some q =>
    obtain ⟨x, y⟩ := q
    rw [h1] at h
    simp only at h
    cases h2 : splitC y k with
    | none => rw [h2] at h; cases h
    | some q2 =>
      obtain ⟨z, t⟩ := q2
      rw [h2] at h
      simp only [Option.some.injEq] at h
      subst h
      obtain ⟨g1, g2, g3⟩ := splitC_rel cs h1 hr
      obtain ⟨_, f2, f3⟩ := splitC_rel y h2 g2
      rw [List.length_drop] at f3
      rw [List.drop_drop] at f2
      exact ⟨joinC_rel x g1 (joinC_rel new hn f2), by omega⟩
theorem byteOf_some {n : Int} {b : Nat} (h : byteOf n = some b) : n = (b : Int) ∧ b ≤ 255 := by
  unfold byteOf at h
  cases n with
  | ofNat m =>
    cases hm : Nat.ble m 255 with
    | true =>
      simp only [hm, cond_true, Option.some.injEq] at h
      subst h
      exact ⟨rfl, ble_true.1 hm⟩
    | false => simp [hm] at h
  | negSucc m => cases h
theorem isU8_true {k : IntKind} (h : isU8 k = true) : k = .u8 := by cases k <;> first | rfl | cases h
theorem bytesV_one (b : Nat) (h : b ≤ 255) : bytesV 1 b = [.int .u8 (b : Int)] := by
  have : (UInt8.ofNat b).toNat = b := by rw [UInt8.toNat_ofNat']; omega
  show [byteV (UInt8.ofNat (b % 256))] = _
  rw [Nat.mod_eq_of_lt (show b < 256 by omega)]
  unfold byteV
  rw [this]
theorem isOne_cells {a : AV} {v : Value} (h1 : isOne a = true) (h : VRel ρ a v) : v.cells = #[v] ∧ v.oneCell' = true := by
  cases a <;> simp only [isOne, Bool.false_eq_true] at h1 <;> simp only [VRel] at h
  case ptr => obtain ⟨p, _, rfl⟩ := h; exact ⟨rfl, rfl⟩
  case slice => obtain ⟨p, c, _, rfl, _⟩ := h; exact ⟨rfl, rfl⟩
  case empty => obtain ⟨a, c, rfl⟩ := h; exact ⟨rfl, rfl⟩
  case map => obtain ⟨p, _, rfl⟩ := h; exact ⟨rfl, rfl⟩
  case func => obtain ⟨x, y, rfl, _⟩ := h; exact ⟨rfl, rfl⟩
  case yield => obtain ⟨p, _, rfl⟩ := h; exact ⟨rfl, rfl⟩
  case iface => obtain ⟨u, rfl, _⟩ := h; exact ⟨rfl, rfl⟩
  all_goals (subst h; exact ⟨rfl, rfl⟩)
theorem cellsO_rel {a : AV} {v : Value} {cs : List AV} (h : cellsO a = some cs) (hv : VRel ρ a v) : CRel ρ cs v.cells.toList := by
  have one : ∀ {a : AV}, isB a = none → isOne a = true → VRel ρ a v → CRel ρ [a] v.cells.toList := by
    intro a hb h1 hv
    rw [(isOne_cells h1 hv).1]
    exact (CRel.one_iff hb).2 ⟨v, [], rfl, h1, hv, CRel.nil⟩
  cases a <;> simp only [cellsO, Option.some.injEq, reduceCtorEq] at h
  case int k n =>
    cases hk : isU8 k with
    | true =>
      rw [bif_true _ _ hk] at h
      cases hb : byteOf n with
      | none => rw [hb] at h; cases h
      | some b =>
        rw [hb] at h
        simp only [Option.some.injEq] at h
        subst h
        obtain ⟨rfl, hb2⟩ := byteOf_some hb
        obtain rfl := isU8_true hk
        have : v = .int .u8 (b : Int) := hv
        subst this
        exact CRel.bytes_iff.2 ⟨[], by rw [bytesV_one b hb2]; rfl, show b < 256 by omega, CRel.nil⟩
    | false =>
      rw [bif_false _ _ hk] at h
      simp only [Option.some.injEq] at h
      subst h
      exact one rfl rfl hv
  case agg =>
    subst h
    obtain ⟨x, rfl, h2⟩ := hv
    exact h2
  all_goals (subst h; exact one rfl rfl hv)
theorem oneA_rel {l : List AV} {a : AV} {vs : List Value} (h : oneA l = some a) (hr : CRel ρ l vs) : ∃ v, vs = [v] ∧ VRel ρ a v := by
  unfold oneA at h
  split at h
  · rename_i x
    cases hb : isB x with
    | some p =>
      obtain ⟨l, n⟩ := p
      obtain rfl := isB_some hb
      simp only [hb] at h
      cases hl : Nat.beq l 1 with
      | true =>
        rw [bif_true _ _ hl] at h
        obtain rfl := beq_true.1 hl
        simp only [Option.some.injEq] at h
        subst h
        obtain ⟨vs', rfl, hn, h3⟩ := CRel.bytes_iff.1 hr
        have hn' : n < 256 := hn
        rw [CRel.nil_iff.1 h3, List.append_nil, bytesV_one n (by omega)]
        exact ⟨_, rfl, rfl⟩
      | false => rw [bif_false _ _ hl] at h; cases h
    | none =>
      simp only [hb, Option.some.injEq] at h
      subst h
      obtain ⟨v, vs', rfl, _, h2, h3⟩ := (CRel.one_iff hb).1 hr
      rw [CRel.nil_iff.1 h3]
      exact ⟨v, rfl, h2⟩
  · cases h
end
end Go.Proofs.YtdbgppknggaooaaGreatDoor.Vm
namespace Go.Proofs.YtdbgppknggaooaaGreatDoor.Vm
open Go
def ERel (ρ : Ren) : List Ent → List MapEntry → Prop
  | [], l => l = []
  | e :: r, l => ∃ x l', l = x :: l' ∧ VRel ρ e.1 x.key ∧ VRel ρ e.2.1 x.val ∧ x.born = e.2.2 ∧ ERel ρ r l'
def DRel1 (ρ : Ren) : ADef → Deferred → Prop
  | .fn f args cap, d => ∃ c az : Array Value, d = { target := .fn (.func f) c, args := az } ∧ LRel ρ args az.toList ∧ LRel ρ cap c.toList
  | .mark r, d => ∃ p, ρ r = some p ∧ d = { target := .collected p.1, args := #[] }
def DRel (ρ : Ren) : List ADef → List Deferred → Prop
  | [], l => l = []
  | e :: r, l => ∃ x l', l = x :: l' ∧ DRel1 ρ e x ∧ DRel ρ r l'
def TRel (ρ : Ren) (t : Tr AV) (n : Nat) (tmps : Array Value) : Prop := tmps.size = n ∧ ∀ k, VRel ρ (slotA t k) (tmps.getD k undef)
def RowR (ρ : Ren) (p : Nat × Nat × Nat) (e : TypeId) (cs : List AV) (o : Obj) : Prop :=
  ∃ (vs : Array Value) (known junk : List Value), o = .cells vs e (0, 0) ∧ vs.size = p.2.1 + p.2.2 ∧ vs.toList.drop p.2.1 = known ++ junk ∧ CRel ρ cs known
def IterM (ρ : Ren) (m : Option Nat) (m' : Option Nat) : Prop :=
  match m with
  | none => m' = none
  | some n => ∃ q, ρ n = some q ∧ m' = some q.1
def DefsR (ρ : Ren) (ds : Option (List ADef)) (d : Option (List Deferred)) : Prop :=
  match ds with
  | none => d = none
  | some l => ∃ l', d = some l' ∧ DRel ρ l l'
def LoopOk (ρ : Ren) (st : LoopState) (pe : Option Code) (t : Tr AV) (n : Nat) (ps : List Tmp) (az bd : Code) (dn : Nat) (r : Loop) : Prop :=
  r.state = st ∧ r.pending = pe ∧ TRel ρ t n r.tmps ∧ r.params.toList = ps ∧ r.assign = az ∧ r.body = bd ∧ ∃ q, ρ dn = some q ∧ r.defers = q.1
def ORel (ρ : Ren) (p : Nat × Nat × Nat) : AObj → Obj → Prop
  | .row e cs, o => RowR ρ p e cs o
  | .map es c, o => ∃ es' : Array MapEntry, o = .map es' c ∧ ERel ρ es es'.toList
  | .iter m since seen last, o => ∃ m', o = .mapIter m' since seen.toArray last ∧ IterM ρ m m' ∧ p.2.1 = 0
  | .siter s pos, o => o = .stringIter s pos ∧ p.2.1 = 0
  | .loop st pe t n ps az bd dn, o => ∃ r, o = .loop r ∧ LoopOk ρ st pe t n ps az bd dn r
  | .defs ds, o => ∃ d, o = .deferred d ∧ DefsR ρ ds d
section
variable {ρ ρ' : Ren}
theorem ERel.mono (hl : ρ.le ρ') : ∀ {l : List Ent} {m : List MapEntry}, ERel ρ l m → ERel ρ' l m
  | [], _, h => h
  | _ :: _, _, ⟨x, l', h1, h2, h3, h4, h5⟩ => ⟨x, l', h1, VRel.mono hl _ _ h2, VRel.mono hl _ _ h3, h4, ERel.mono hl h5⟩
theorem DRel1.mono (hl : ρ.le ρ') : ∀ {e : ADef} {d : Deferred}, DRel1 ρ e d → DRel1 ρ' e d
  | .fn _ _ _, _, ⟨c, az, h1, h2, h3⟩ => ⟨c, az, h1, LRel.mono hl _ _ h2, LRel.mono hl _ _ h3⟩
  | .mark _, _, ⟨p, h1, h2⟩ => ⟨p, hl _ _ h1, h2⟩
theorem DRel.mono (hl : ρ.le ρ') : ∀ {l : List ADef} {m : List Deferred}, DRel ρ l m → DRel ρ' l m
  | [], _, h => h
  | _ :: _, _, ⟨x, l', h1, h2, h3⟩ => ⟨x, l', h1, h2.mono hl, DRel.mono hl h3⟩
theorem DRel.append : ∀ {l m : List ADef} {l' m' : List Deferred}, DRel ρ l l' → DRel ρ m m' → DRel ρ (l ++ m) (l' ++ m')
  | [], _, _, _, h, h' => by rw [show _ = [] from h]; exact h'
  | _ :: _, _, _, _, ⟨x, k, h1, h2, h3⟩, h' => by subst h1; exact ⟨x, _, rfl, h2, DRel.append h3 h'⟩
theorem TRel.mono (hl : ρ.le ρ') {t : Tr AV} {n : Nat} {tmps : Array Value} (h : TRel ρ t n tmps) : TRel ρ' t n tmps := ⟨h.1, fun k => VRel.mono hl _ _ (h.2 k)⟩
theorem RowR.mono (hl : ρ.le ρ') {p : Nat × Nat × Nat} {e : TypeId} {cs : List AV} {o : Obj} (h : RowR ρ p e cs o) : RowR ρ' p e cs o := by
  obtain ⟨vs, kn, jk, h1, h2, h3, h4⟩ := h
  exact ⟨vs, kn, jk, h1, h2, h3, CRel.mono hl _ _ h4⟩
theorem IterM.mono (hl : ρ.le ρ') {m m' : Option Nat} (h : IterM ρ m m') : IterM ρ' m m' := by
  cases m with
  | none => exact h
  | some n => obtain ⟨q, h1, h2⟩ := h; exact ⟨q, hl _ _ h1, h2⟩
theorem DefsR.mono (hl : ρ.le ρ') {ds : Option (List ADef)} {d : Option (List Deferred)} (h : DefsR ρ ds d) : DefsR ρ' ds d := by
  cases ds with
  | none => exact h
  | some n => obtain ⟨q, h1, h2⟩ := h; exact ⟨q, h1, h2.mono hl⟩
theorem LoopOk.mono (hl : ρ.le ρ') {st : LoopState} {pe : Option Code} {t : Tr AV} {n : Nat} {ps : List Tmp} {az bd : Code} {dn : Nat} {r : Loop} (h : LoopOk ρ st pe t n ps az bd dn r) : LoopOk ρ' st pe t n ps az bd dn r := by
  obtain ⟨h1, h2, h3, h4, h5, h6, q, h7, h8⟩ := h
  exact ⟨h1, h2, h3.mono hl, h4, h5, h6, q, hl _ _ h7, h8⟩
theorem ORel.mono (hl : ρ.le ρ') {p : Nat × Nat × Nat} : ∀ {o : AObj} {ob : Obj}, ORel ρ p o ob → ORel ρ' p o ob
  | .row _ _, _, h => RowR.mono hl h
  | .map _ _, _, ⟨es, h1, h2⟩ => ⟨es, h1, h2.mono hl⟩
  | .iter _ _ _ _, _, ⟨m, h1, h2, h3⟩ => ⟨m, h1, h2.mono hl, h3⟩
  | .siter _ _, _, h => h
  | .loop _ _ _ _ _ _ _ _, _, ⟨r, h1, h2⟩ => ⟨r, h1, h2.mono hl⟩
  | .defs _, _, ⟨d, h1, h2⟩ => ⟨d, h1, h2.mono hl⟩
end
structure WRel (ρ : Ren) (h : Tr AObj) (w : World) : Prop where
  at_ : ∀ n o, h.get n = some o → ∃ p ob, ρ n = some p ∧ w.heap[p.1]? = some ob ∧ ORel ρ p o ob
  inj : ∀ n m p q, (h.get n).isSome = true → (h.get m).isSome = true → ρ n = some p → ρ m = some q → p.1 = q.1 → n = m
def Own (h : Tr AObj) (ρ : Ren) (q : Nat) : Prop := ∃ n p, (h.get n).isSome = true ∧ ρ n = some p ∧ p.1 = q
structure Stp (s s' : St) (ρ ρ' : Ren) (w w' : World) : Prop where
  ext : ∀ n, ¬ (s.c ≤ n ∧ n < s'.c) → ρ' n = ρ n
  le : ρ.le ρ'
  os : w'.os = w.os
  tape : w'.tape = w.tape
  output : w'.output = w.output
  size : w.heap.size ≤ w'.heap.size
  block : ∀ q, q < w.heap.size → ¬ Own s.h ρ q → w'.heap[q]? = w.heap[q]?
  own : ∀ q, Own s'.h ρ' q → Own s.h ρ q ∨ w.heap.size ≤ q
def FreshN (ρ : Ren) (c c' : Nat) : Prop := ∀ n, c ≤ n → n < c' → ρ n = none
section
variable {s s' s1 : St} {ρ ρ' ρ1 : Ren} {w w' w1 : World}
theorem Stp.alike (h : Alike s s') : Stp s s' ρ ρ w w :=
  ⟨fun _ _ => rfl, Ren.le_refl _, rfl, rfl, rfl, Nat.le_refl _, fun _ _ _ => rfl, fun q hq => .inl (by rw [h.1] at hq; exact hq)⟩
theorem Stp.trans (h : Stp s s1 ρ ρ1 w w1) (h' : Stp s1 s' ρ1 ρ' w1 w') (hc : s.c ≤ s1.c) (hc' : s1.c ≤ s'.c) : Stp s s' ρ ρ' w w' := by
  refine ⟨fun n hn => ?_, Ren.le_trans h.le h'.le, h'.os.trans h.os, h'.tape.trans h.tape, h'.output.trans h.output, Nat.le_trans h.size h'.size, fun q hq ho => ?_, fun q hq => ?_⟩
  · rw [h'.ext n (by omega), h.ext n (by omega)]
  · rw [h'.block q (Nat.lt_of_lt_of_le hq h.size) (fun h1 => ?_), h.block q hq ho]
    rcases h.own q h1 with h2 | h2
    · exact ho h2
    · omega
  · rcases h'.own q hq with h1 | h1
    · exact h.own q h1
    · exact .inr (Nat.le_trans h.size h1)
theorem Alike.stp (h : Alike s s1) (h' : Stp s1 s' ρ ρ' w w') : Stp s s' ρ ρ' w w' := by
  obtain ⟨h1, h2⟩ := h
  exact ⟨fun n hn => h'.ext n (by rw [h2]; exact hn), h'.le, h'.os, h'.tape, h'.output, h'.size, fun q hq ho => h'.block q hq (by rw [h1]; exact ho), fun q hq => by have := h'.own q hq; rwa [h1] at this⟩
theorem Stp.thenAlike (h : Stp s s1 ρ ρ' w w') (h' : Alike s1 s') : Stp s s' ρ ρ' w w' := by
  obtain ⟨h1, h2⟩ := h'
  exact ⟨fun n hn => h.ext n (by rw [← h2]; exact hn), h.le, h.os, h.tape, h.output, h.size, h.block, fun q hq => h.own q (by rw [← h1]; exact hq)⟩
theorem FreshN.sub {c c' d d' : Nat} (h : FreshN ρ c c') (h1 : c ≤ d) (h2 : d' ≤ c') : FreshN ρ d d' := fun n a b => h n (by omega) (by omega)
theorem FreshN.step {c' : Nat} (h : FreshN ρ s.c c') (hs : Stp s s1 ρ ρ1 w w1) (hc : s.c ≤ s1.c) : FreshN ρ1 s1.c c' := fun n a b => by
  rw [hs.ext n (by omega)]
  exact h n (by omega) b
theorem WRel.heap (h : WRel ρ s.h w) (he : w'.heap = w.heap) : WRel ρ s.h w' := ⟨fun n o hn => by rw [he]; exact h.at_ n o hn, h.inj⟩
theorem WRel.alike (h : WRel ρ s.h w) (ha : Alike s s') : WRel ρ s'.h w := by rw [ha.1]; exact h
theorem WRel.lt (h : WRel ρ s.h w) {n : Nat} {p : Nat × Nat × Nat} (hn : (s.h.get n).isSome = true) (hp : ρ n = some p) : p.1 < w.heap.size := by
  obtain ⟨o, ho⟩ := Option.isSome_iff_exists.1 hn
  obtain ⟨p', ob, h1, h2, _⟩ := h.at_ n o ho
  rw [hp] at h1
  injection h1 with h1
  subst h1
  exact (Array.getElem?_eq_some_iff.1 h2).1
def Ren.put (ρ : Ren) (n : Nat) (p : Nat × Nat × Nat) : Ren := fun m => if m = n then some p else ρ m
theorem Ren.put_same (ρ : Ren) (n : Nat) (p : Nat × Nat × Nat) : ρ.put n p n = some p := if_pos rfl
theorem Ren.put_le {ρ : Ren} {n : Nat} (h : ρ n = none) (p : Nat × Nat × Nat) : ρ.le (ρ.put n p) := fun m q hq => by
  unfold Ren.put
  by_cases hm : m = n
  · subst hm; rw [h] at hq; cases hq
  · rw [if_neg hm]; exact hq
theorem get_alloc_new (w : World) (ob : Obj) : (w.alloc ob).heap[w.heap.size]? = some ob := heap_alloc_new w ob
theorem get_alloc_old (w : World) (ob : Obj) {q : Nat} (h : q < w.heap.size) : (w.alloc ob).heap[q]? = w.heap[q]? := heap_alloc_old w ob h
theorem new_rel {o : AObj} {ob : Obj} {κ : Nat} (h : WRel ρ s.h w) (hf : ρ s.c = none) (hc : s'.h = s.h.put s.c (some o)) (hc' : s'.c = s.c + 1)
    (ho : ORel (ρ.put s.c (w.heap.size, 0, κ)) (w.heap.size, 0, κ) o ob) :
    WRel (ρ.put s.c (w.heap.size, 0, κ)) s'.h (w.alloc ob) ∧ Stp s s' ρ (ρ.put s.c (w.heap.size, 0, κ)) w (w.alloc ob) := by
  have hle := Ren.put_le hf (w.heap.size, 0, κ)
  have hne : ∀ {m}, m ≠ s.c → ρ.put s.c (w.heap.size, 0, κ) m = ρ m := fun hm => if_neg hm
  refine ⟨⟨fun n q hq => ?_, fun n m p q hn hm hp hq he => ?_⟩, ⟨fun n hn => ?_, hle, rfl, rfl, rfl, by simp, fun q hq _ => get_alloc_old w ob hq, fun q hq => ?_⟩⟩
  · rw [hc, Tr.get_put] at hq
    by_cases hn : n = s.c
    · subst hn
      rw [if_pos rfl] at hq
      injection hq with hq
      subst hq
      exact ⟨_, ob, Ren.put_same _ _ _, get_alloc_new w ob, ho⟩
    · rw [if_neg hn] at hq
      obtain ⟨p, ob', h1, h2, h3⟩ := h.at_ n q hq
      exact ⟨p, ob', by rw [hne hn]; exact h1, by rw [get_alloc_old w ob (Array.getElem?_eq_some_iff.1 h2).1]; exact h2, h3.mono hle⟩
  · rw [hc, Tr.get_put] at hn hm
    by_cases h1 : n = s.c
    · by_cases h2 : m = s.c
      · rw [h1, h2]
      · exfalso
        rw [if_neg h2] at hm
        rw [hne h2] at hq
        rw [h1, Ren.put_same] at hp
        injection hp with hp
        have := h.lt hm hq
        rw [← he, ← hp] at this
        simp at this
    · rw [if_neg h1] at hn
      rw [hne h1] at hp
      by_cases h2 : m = s.c
      · exfalso
        rw [h2, Ren.put_same] at hq
        injection hq with hq
        have := h.lt hn hp
        rw [he, ← hq] at this
        simp at this
      · rw [if_neg h2] at hm
        rw [hne h2] at hq
        exact h.inj n m p q hn hm hp hq he
  · exact hne (by omega)
  · obtain ⟨n, p, h1, h2, h3⟩ := hq
    rw [hc, Tr.get_put] at h1
    by_cases hn : n = s.c
    · subst hn
      rw [Ren.put_same] at h2
      injection h2 with h2
      subst h2
      exact .inr (by rw [← h3]; exact Nat.le_refl _)
    · rw [if_neg hn] at h1
      rw [hne hn] at h2
      exact .inl ⟨n, p, h1, h2, h3⟩
structure Only (b : Nat) (w w' : World) : Prop where
  os : w'.os = w.os
  tape : w'.tape = w.tape
  output : w'.output = w.output
  size : w'.heap.size = w.heap.size
  block : ∀ q, q ≠ b → w'.heap[q]? = w.heap[q]?
theorem set_rel {o : AObj} {ob : Obj} {n : Nat} {p : Nat × Nat × Nat} (h : WRel ρ s.h w) (hn : (s.h.get n).isSome = true) (hp : ρ n = some p) (hc : s'.h = s.h.put n (some o))
    (hw : Only p.1 w w') (hob : w'.heap[p.1]? = some ob) (ho : ORel ρ p o ob) : WRel ρ s'.h w' ∧ Stp s s' ρ ρ w w' := by
  refine ⟨⟨fun m q hq => ?_, fun m m' x y h1 h2 h3 h4 h5 => ?_⟩, ⟨fun _ _ => rfl, Ren.le_refl _, hw.os, hw.tape, hw.output, by rw [hw.size]; exact Nat.le_refl _, fun q hq hno => hw.block q (fun e => hno ⟨n, p, hn, hp, e.symm⟩), fun q hq => .inl ?_⟩⟩
  · rw [hc, Tr.get_put] at hq
    by_cases hm : m = n
    · subst hm
      rw [if_pos rfl] at hq
      injection hq with hq
      subst hq
      exact ⟨p, ob, hp, hob, ho⟩
    · rw [if_neg hm] at hq
      obtain ⟨x, ob', h1, h2, h3⟩ := h.at_ m q hq
      refine ⟨x, ob', h1, ?_, h3⟩
      rw [hw.block x.1 (fun e => hm (h.inj m n x p (by rw [hq]; rfl) hn h1 hp e))]
      exact h2
  · have dom : ∀ {m}, (s'.h.get m).isSome = true → (s.h.get m).isSome = true := by
      intro m hm
      rw [hc, Tr.get_put] at hm
      by_cases e : m = n
      · subst e; exact hn
      · rwa [if_neg e] at hm
    exact h.inj m m' x y (dom h1) (dom h2) h3 h4 h5
  · obtain ⟨m, x, h1, h2, h3⟩ := hq
    rw [hc, Tr.get_put] at h1
    by_cases e : m = n
    · subst e; exact ⟨m, x, hn, h2, h3⟩
    · rw [if_neg e] at h1
      exact ⟨m, x, h1, h2, h3⟩
theorem move_rel {o : AObj} {ob : Obj} {n : Nat} {p p' : Nat × Nat × Nat} (h : WRel ρ s.h w) (hn : (s.h.get n).isSome = true) (hp : ρ n = some p) (hf : ρ s.c = none) (hb : p'.1 = p.1)
    (hc : s'.h = (s.h.put n none).put s.c (some o)) (hc' : s'.c = s.c + 1) (hw : Only p.1 w w') (hob : w'.heap[p.1]? = some ob) (ho : ORel (ρ.put s.c p') p' o ob) :
    WRel (ρ.put s.c p') s'.h w' ∧ Stp s s' ρ (ρ.put s.c p') w w' := by
  have hle := Ren.put_le hf p'
  have hne : ∀ {m}, m ≠ s.c → ρ.put s.c p' m = ρ m := fun hm => if_neg hm
  have hnc : n ≠ s.c := fun e => by rw [e, hf] at hp; cases hp
  have dom : ∀ {m}, (s'.h.get m).isSome = true → m = s.c ∨ (m ≠ n ∧ (s.h.get m).isSome = true) := by
    intro m hm
    rw [hc, Tr.get_put] at hm
    by_cases e : m = s.c
    · exact .inl e
    · rw [if_neg e, Tr.get_put] at hm
      by_cases e2 : m = n
      · rw [if_pos e2] at hm; cases hm
      · rw [if_neg e2] at hm
        exact .inr ⟨e2, hm⟩
  refine ⟨⟨fun m q hq => ?_, fun m m' x y h1 h2 h3 h4 h5 => ?_⟩, ⟨fun m hm => hne (by omega), hle, hw.os, hw.tape, hw.output, by rw [hw.size]; exact Nat.le_refl _, fun q hq hno => hw.block q (fun e => hno ⟨n, p, hn, hp, e.symm⟩), fun q hq => .inl ?_⟩⟩
  · by_cases hm : m = s.c
    · subst hm
      rw [hc, Tr.get_put, if_pos rfl] at hq
      injection hq with hq
      subst hq
      exact ⟨p', ob, Ren.put_same _ _ _, by rw [hb]; exact hob, ho⟩
    · rcases dom (m := m) (by rw [hq]; rfl) with e | ⟨e, hd⟩
      · exact absurd e hm
      · rw [hc, Tr.get_put, if_neg hm, Tr.get_put, if_neg e] at hq
        obtain ⟨x, ob', h1, h2, h3⟩ := h.at_ m q hq
        refine ⟨x, ob', by rw [hne hm]; exact h1, ?_, h3.mono hle⟩
        rw [hw.block x.1 (fun e' => e (h.inj m n x p hd hn h1 hp e'))]
        exact h2
  · rcases dom h1 with e1 | ⟨e1, d1⟩ <;> rcases dom h2 with e2 | ⟨e2, d2⟩
    · rw [e1, e2]
    · exfalso
      subst e1
      rw [Ren.put_same] at h3
      injection h3 with h3
      subst h3
      have hmc : m' ≠ s.c := fun e => by rw [e] at d2; exact absurd (h.at_ s.c _ (Option.isSome_iff_exists.1 d2).choose_spec) (fun ⟨q, _, a, _⟩ => by rw [hf] at a; cases a)
      rw [hne hmc] at h4
      exact e2 (h.inj m' n y p d2 hn h4 hp (h5.symm.trans hb))
    · exfalso
      subst e2
      rw [Ren.put_same] at h4
      injection h4 with h4
      subst h4
      have hmc : m ≠ s.c := fun e => by rw [e] at d1; exact absurd (h.at_ s.c _ (Option.isSome_iff_exists.1 d1).choose_spec) (fun ⟨q, _, a, _⟩ => by rw [hf] at a; cases a)
      rw [hne hmc] at h3
      exact e1 (h.inj m n x p d1 hn h3 hp (h5.trans hb))
    · have c1 : m ≠ s.c := fun e => by rw [e] at d1; exact absurd (h.at_ s.c _ (Option.isSome_iff_exists.1 d1).choose_spec) (fun ⟨q, _, a, _⟩ => by rw [hf] at a; cases a)
      have c2 : m' ≠ s.c := fun e => by rw [e] at d2; exact absurd (h.at_ s.c _ (Option.isSome_iff_exists.1 d2).choose_spec) (fun ⟨q, _, a, _⟩ => by rw [hf] at a; cases a)
      rw [hne c1] at h3
      rw [hne c2] at h4
      exact h.inj m m' x y d1 d2 h3 h4 h5
  · obtain ⟨m, x, h1, h2, h3⟩ := hq
    rcases dom h1 with e1 | ⟨e1, d1⟩
    · subst e1
      rw [Ren.put_same] at h2
      injection h2 with h2
      subst h2
      exact ⟨n, p, hn, hp, by rw [← h3, hb]⟩
    · have c1 : m ≠ s.c := fun e => by rw [e] at d1; exact absurd (h.at_ s.c _ (Option.isSome_iff_exists.1 d1).choose_spec) (fun ⟨q, _, a, _⟩ => by rw [hf] at a; cases a)
      rw [hne c1] at h2
      exact ⟨m, x, d1, h2, h3⟩
theorem drop_rel {n : Nat} (h : WRel ρ s.h w) (hc : s'.h = s.h.put n none) : WRel ρ s'.h w ∧ Stp s s' ρ ρ w w := by
  have dom : ∀ {m}, (s'.h.get m).isSome = true → m ≠ n ∧ (s.h.get m).isSome = true := by
    intro m hm
    rw [hc, Tr.get_put] at hm
    by_cases e : m = n
    · rw [if_pos e] at hm; cases hm
    · rw [if_neg e] at hm; exact ⟨e, hm⟩
  refine ⟨⟨fun m q hq => ?_, fun m m' x y h1 h2 h3 h4 h5 => h.inj m m' x y (dom h1).2 (dom h2).2 h3 h4 h5⟩, ⟨fun _ _ => rfl, Ren.le_refl _, rfl, rfl, rfl, Nat.le_refl _, fun _ _ _ => rfl, fun q hq => .inl ?_⟩⟩
  · have := dom (m := m) (by rw [hq]; rfl)
    rw [hc, Tr.get_put, if_neg this.1] at hq
    exact h.at_ m q hq
  · obtain ⟨m, x, h1, h2, h3⟩ := hq
    exact ⟨m, x, (dom h1).2, h2, h3⟩
theorem drew_rel (h : WRel ρ s.h w) : WRel ρ s.h w.drew ∧ Stp s s ρ ρ w w.drew :=
  ⟨⟨h.at_, h.inj⟩, ⟨fun _ _ => rfl, Ren.le_refl _, rfl, rfl, rfl, Nat.le_refl _, fun _ _ _ => rfl, fun _ hq => .inl hq⟩⟩
end
end Go.Proofs.YtdbgppknggaooaaGreatDoor.Vm
namespace Go.Proofs.YtdbgppknggaooaaGreatDoor.Vm
open Go
def DescR (P : Program) : TyD → TypeDesc → Prop
  | .int k, d => d = .int k
  | .bool, d => d = .bool
  | .str, d => d = .string
  | .ptr e, d => d = .pointer e
  | .slice e, d => d = .slice e
  | .arr n e, d => d = .array n e
  | .struct fs, d => ∃ l : Array Field, d = .struct l ∧ l.toList.map (fun f => (f.offset, f.type)) = fs ∧ l.toList.all (fun f => (P.info? f.type).isSome) = true
  | .map k e, d => d = .map k e
  | .fn, d => ∃ a b c, d = .func a b c
  | .ifc, d => ∃ m, d = .interface m
  | .other, _ => True
def FlatOK (P : Program) (t : TypeId) (arr : Bool) (size : Nat) (zc : List AV) : Prop :=
  P.eqGuardType P.depth t = false ∧ ∀ (ρ : Ren) (a b : List AV) (xs ys : Array Value) (r : Bool) (w : World), shapeB arr size zc a = true → eqFlat arr a b = some r → CRel ρ a xs.toList → CRel ρ b ys.toList → (Op.equalIn 10000 t (.agg xs) (.agg ys)).run P w = .ok r w ∧ (arr = false → ∀ e, (Instr.checkKey e 10000 t (.agg xs)).run P w = .ok () w)
def TyOK (P : Program) (t : TypeId) (i : TyI) : Prop :=
  ∃ inf d z, P.info? t = some inf ∧ P.underlying t = some d ∧ inf.size = i.size ∧ inf.bytes = i.bytes ∧ inf.zero = some z ∧ (∀ ρ, VRel ρ i.zero z) ∧ (∀ ρ, CRel ρ i.zc z.cells.toList) ∧ DescR P i.desc d ∧ i.agg = d.isRow ∧ (i.flat = true → FlatOK P t (isArrD i.desc) i.size i.zc) ∧ z.cells.size = i.size
structure EnvOK (E : Env) (P : Program) : Prop where
  ty : ∀ t i, E.ty.get t = some i → TyOK P t i
  fn : ∀ f fn, E.fn.get f = some fn → P.funcs[f]? = some fn ∧ ∀ args w, (callFunc f args).run P w = .ok (.enter f args) w
  mixed : P.follows .mixedOrders = true
def Does {β : Type} (P : Program) (s s' : St) (ρ : Ren) (w : World) (sem : Sem β) (R : Ren → β → Prop) : Prop :=
  FreshN ρ s.c s'.c → ∃ ρ' w' u, sem.run P w = .ok u w' ∧ R ρ' u ∧ WRel ρ' s'.h w' ∧ Stp s s' ρ ρ' w w'
section
variable {P : Program} {s s' s1 : St} {ρ ρ' : Ren} {w w' : World} {β : Type}
theorem Does.read {sem : Sem β} {R : Ren → β → Prop} {u : β} (ha : Alike s s') (hw : WRel ρ s.h w) (hr : sem.run P w = .ok u w) (hR : R ρ u) : Does P s s' ρ w sem R :=
  fun _ => ⟨ρ, w, u, hr, hR, hw.alike ha, Stp.alike ha⟩
theorem Does.after {sem : Sem β} {R : Ren → β → Prop} (ha : Alike s s1) (h : Does P s1 s' ρ w sem R) : Does P s s' ρ w sem R := fun hf => by
  obtain ⟨ρ', w', u, h1, h2, h3, h4⟩ := h (by rw [ha.2]; exact hf)
  exact ⟨ρ', w', u, h1, h2, h3, ha.stp h4⟩
theorem addrA_rel {a : AV} {p : Nat × Nat} {u : Value} (h : addrA a = some p) (hu : VRel ρ a u) : ∃ q, ρ p.1 = some q ∧ u = .pointer (some ⟨q.1, q.2.1 + p.2, none⟩) := by
  cases a <;> simp only [addrA, Option.some.injEq, reduceCtorEq] at h
  subst h
  exact hu
theorem intA_rel {a : AV} {p : IntKind × Int} {u : Value} (h : intA a = some p) (hu : VRel ρ a u) : u = .int p.1 p.2 := by
  cases a <;> simp only [intA, Option.some.injEq, reduceCtorEq] at h
  subst h
  exact hu
theorem butA_rel {a : AV} {p : IntKind × List Int} {u : Value} (h : butA a = some p) (hu : VRel ρ a u) : ∃ n, u = .int p.1 n ∧ n ∉ p.2 := by
  cases a <;> simp only [butA, Option.some.injEq, reduceCtorEq] at h
  subst h
  exact hu
theorem inI_mem {n : Int} : ∀ {l : List Int}, inI n l = true → n ∈ l
  | [], h => by cases h
  | m :: r, h => by
    rw [inI, Bool.or_eq_true] at h
    rcases h with h | h
    · exact List.mem_cons.2 (.inl (eq_of_beq h).symm)
    · exact List.mem_cons.2 (.inr (inI_mem h))
theorem neI_rel {a b : AV} {u v : Value} {r : Bool} (h : neI a b = some r) (hu : VRel ρ a u) (hv : VRel ρ b v) : r = false ∧ ∃ k m n, u = .int k m ∧ v = .int k n ∧ (m == n) = false := by
  unfold neI at h
  split at h
  · rename_i p q hp hq
    by_cases hpq : p.1 = q.1
    · rw [if_pos hpq] at h
      cases hi : inI q.2 p.2 with
      | false => rw [hi] at h; cases h
      | true =>
        rw [hi] at h
        injection h with h
        obtain ⟨n, rfl, hn⟩ := butA_rel hp hu
        exact ⟨h.symm, p.1, n, q.2, rfl, by rw [hpq]; exact intA_rel hq hv, beq_eq_false_iff_ne.2 fun e => hn (e ▸ inI_mem hi)⟩
    · rw [if_neg hpq] at h; cases h
  · split at h
    · rename_i p q hp hq
      by_cases hpq : p.1 = q.1
      · rw [if_pos hpq] at h
        cases hi : inI p.2 q.2 with
        | false => rw [hi] at h; cases h
        | true =>
          rw [hi] at h
          injection h with h
          obtain ⟨n, rfl, hn⟩ := butA_rel hq hv
          exact ⟨h.symm, p.1, p.2, n, intA_rel hp hu, by rw [hpq], beq_eq_false_iff_ne.2 fun e => hn (e ▸ inI_mem hi)⟩
      · rw [if_neg hpq] at h; cases h
    · cases h
theorem natA_rel {a : AV} {n : Nat} {u : Value} (h : natA a = some n) (hu : VRel ρ a u) : ∃ k, u = .int k (n : Int) := by
  unfold natA at h
  cases hi : intA a with
  | none => rw [hi] at h; cases h
  | some p =>
    rw [hi] at h
    simp only at h
    obtain ⟨k, m⟩ := p
    cases m with
    | ofNat m =>
      simp only [natOf, Option.some.injEq] at h
      subst h
      exact ⟨k, intA_rel hi hu⟩
    | negSucc m => cases h
theorem boolA_rel {a : AV} {b : Bool} {u : Value} (h : boolA a = some b) (hu : VRel ρ a u) : u = .bool b := by
  cases a <;> simp only [boolA, Option.some.injEq, reduceCtorEq] at h
  subst h
  exact hu
theorem strA_rel {a : AV} {b : ByteArray} {u : Value} (h : strA a = some b) (hu : VRel ρ a u) : u = .string b := by
  cases a <;> simp only [strA, Option.some.injEq, reduceCtorEq] at h
  subst h
  exact hu
theorem aggA_rel {a : AV} {cs : List AV} {u : Value} (h : aggA a = some cs) (hu : VRel ρ a u) : ∃ x : Array Value, u = .agg x ∧ CRel ρ cs x.toList := by
  cases a <;> simp only [aggA, Option.some.injEq, reduceCtorEq] at h
  subst h
  exact hu
theorem tupA_rel {a : AV} {cs : List AV} {u : Value} (h : tupA a = some cs) (hu : VRel ρ a u) : ∃ x : Array Value, u = .tuple x ∧ LRel ρ cs x.toList := by
  cases a <;> simp only [tupA, Option.some.injEq, reduceCtorEq] at h
  subst h
  exact hu
theorem mapA_rel {a : AV} {m : Option Nat} {u : Value} (h : mapA a = some m) (hu : VRel ρ a u) : (match m with | none => u = .map none | some n => ∃ p, ρ n = some p ∧ u = .map (some p.1)) := by
  cases a <;> simp only [mapA, Option.some.injEq, reduceCtorEq] at h <;> subst h <;> exact hu
def SlR (ρ : Ren) (k : SlK) (u : Value) : Prop :=
  match k with
  | .nil => u = .slice none 0 0
  | .empty => ∃ a c, u = .slice (some a) 0 c
  | .some (.mk n off len cap es) => ∃ p c, ρ n = some p ∧ u = .slice (some ⟨p.1, p.2.1 + off, none⟩) len c ∧ len ≤ c ∧ capR cap c off es p.2.2
theorem slA_rel {a : AV} {k : SlK} {u : Value} (h : slA a = some k) (hu : VRel ρ a u) : SlR ρ k u := by
  cases a <;> simp only [slA, Option.some.injEq, reduceCtorEq] at h <;> subst h <;> exact hu
theorem constA_rel {v : Value} {a : AV} (h : constA v = some a) : VRel ρ a v := by
  unfold constA at h
  split at h <;> first | (simp only [Option.some.injEq] at h; subst h; rfl) | cases h
theorem rd_rel {T : Tr AV} {n : Nat} {x : Operand} {v : AV} {a : Act} (h : rd T (opd x) s = .ok v s') (hT : TRel ρ T n a.tmps) : s' = s ∧ VRel ρ v (a.eval x) := by
  cases x with
  | tmp t =>
    simp only [rd, opd, Rs.ok.injEq] at h
    obtain ⟨rfl, rfl⟩ := h
    exact ⟨rfl, hT.2 t⟩
  | const c =>
    simp only [rd, opd] at h
    cases hc : constA c with
    | none => rw [hc] at h; cases h
    | some b =>
      rw [hc] at h
      simp only [Rs.ok.injEq] at h
      obtain ⟨rfl, rfl⟩ := h
      exact ⟨rfl, constA_rel hc⟩
  | global g => cases h
  | func f =>
    simp only [rd, opd, Rs.ok.injEq] at h
    obtain ⟨rfl, rfl⟩ := h
    exact ⟨rfl, #[], #[], rfl, by simp [LRel], by simp [LRel]⟩
theorem rds_rel {T : Tr AV} {n : Nat} {a : Act} (hT : TRel ρ T n a.tmps) : ∀ {l : List Operand} {vs : List AV} {s s' : St}, rds T (opds l) s = .ok vs s' → s' = s ∧ LRel ρ vs (l.map a.eval)
  | [], vs, s, s', h => by
    obtain ⟨rfl, rfl⟩ := M.pure_ok.1 h
    exact ⟨rfl, by simp [LRel]⟩
  | x :: r, vs, s, s', h => by
    unfold opds rds at h
    obtain ⟨v, s1, h1, h2⟩ := M.bind_ok.1 h
    obtain ⟨vs', s2, h3, h4⟩ := M.bind_ok.1 h2
    obtain ⟨rfl, rfl⟩ := M.pure_ok.1 h4
    obtain ⟨rfl, g1⟩ := rd_rel h1 hT
    obtain ⟨rfl, g2⟩ := rds_rel hT h3
    exact ⟨rfl, LRel.cons_iff.2 ⟨_, _, rfl, g1, g2⟩⟩
theorem WRel.row {n : Nat} {e : TypeId} {cs : List AV} {p : Nat × Nat × Nat} (hw : WRel ρ s.h w) (h : s.h.get n = some (.row e cs)) (hp : ρ n = some p) : ∃ ob, w.heap[p.1]? = some ob ∧ RowR ρ p e cs ob := by
  obtain ⟨q, ob, h1, h2, h3⟩ := hw.at_ n _ h
  rw [hp] at h1
  injection h1 with h1
  subst h1
  exact ⟨ob, h2, h3⟩
theorem row_range {p : Nat × Nat × Nat} {e : TypeId} {vs : Array Value} {known junk : List Value} (hb : w.heap[p.1]? = some (.cells vs e (0, 0))) (hd : vs.toList.drop p.2.1 = known ++ junk) (off k : Nat) (hk : off + k ≤ known.length) :
    w.rangeAt p.1 (p.2.1 + off) ((known.drop off).take k) := by
  intro j v hv
  have hj : j < k := by
    have := (List.getElem?_eq_some_iff.1 hv).1
    rw [List.length_take] at this
    omega
  rw [cell_of_row w p.1 _ vs e (0, 0) hb]
  rw [List.getElem?_take, if_pos hj, List.getElem?_drop] at hv
  have h2 : (known ++ junk)[off + j]? = some v := by rw [List.getElem?_append_left (by omega)]; exact hv
  rw [← hd, List.getElem?_drop, Array.getElem?_toList] at h2
  rwa [Nat.add_assoc]
theorem cells_one : ∀ {l : List AV} {us : List Value}, CRel ρ l us → ∀ v ∈ us, v.oneCell' = true
  | [], us, h, v, hv => by rw [CRel.nil_iff.1 h] at hv; cases hv
  | a :: r, us, h, v, hv => by
    obtain ⟨x, y, rfl, h2, h3⟩ := CRel.cons_iff.1 h
    rcases List.mem_append.1 hv with hv | hv
    · cases hb : isB a with
      | some p =>
        rw [hb] at h2
        rw [h2.1] at hv
        obtain ⟨b, _, rfl⟩ := List.mem_map.1 hv
        rfl
      | none =>
        rw [hb] at h2
        obtain ⟨h4, u, rfl, h5⟩ := h2
        rw [List.mem_singleton] at hv
        subst hv
        exact (isOne_cells h4 h5).2
    · exact cells_one h3 v hv
theorem part_load {p : Nat × Nat × Nat} {e t : TypeId} {cs l : List AV} {i : TyI} {off : Nat} {v : AV} {ob : Obj} (hi : TyOK P t i) (hb : w.heap[p.1]? = some ob) (hr : RowR ρ p e cs ob) (hl : loadC cs off i.size = some l) (hv : partA i.agg l s = .ok v s') :
    s' = s ∧ ∃ u, (loadVar t ⟨p.1, p.2.1 + off, none⟩).run P w = .ok u w ∧ VRel ρ v u := by
  obtain ⟨inf, d, z, h1, h2, h3, h4, h5, h6, h7, h8, h9, _⟩ := hi
  obtain ⟨vs, known, junk, rfl, g2, g3, g4⟩ := hr
  obtain ⟨f1, f2⟩ := loadC_rel hl g4
  have hrg := row_range hb g3 off i.size f2
  have hlen : ((known.drop off).take i.size).length = i.size := by rw [List.length_take, List.length_drop]; omega
  generalize (known.drop off).take i.size = us at *
  cases ha : i.agg with
  | true =>
    rw [ha] at hv
    simp only [partA, Rs.ok.injEq] at hv
    obtain ⟨rfl, rfl⟩ := hv
    exact ⟨rfl, _, run_loadVar_mid w p.1 _ t us d hrg h2 (by rw [← h9, ha]) (by rw [h1, Option.map_some, h3, hlen]), _, rfl, f1⟩
  | false =>
    rw [ha] at hv
    obtain ⟨h10, rfl⟩ := M.of_ok.1 hv
    obtain ⟨u, rfl, hu⟩ := oneA_rel h10 f1
    have hc := hrg 0 u rfl
    refine ⟨rfl, u, ?_, hu⟩
    have hag : (isAgg t).run P w = .ok false w := by
      unfold isAgg
      rw [Sem.run_bind, run_underlying h2 w]
      rw [ha] at h9
      cases d <;> first | rfl | cases h9
    rw [Nat.add_zero] at hc
    simp only [loadVar, Sem.run_bind, hag, Result.andThen_ok, Bool.false_eq_true, if_false]
    simp only [load, Sem.run, hc]
theorem loadM_does {i : TyI} {t : TypeId} {a v : AV} {u : Value} (hi : TyOK P t i) (h : loadM i a s = .ok v s') (ha : VRel ρ a u) (hw : WRel ρ s.h w) : Does P s s' ρ w (Instr.loadAt t u) (fun ρ r => VRel ρ v r) := by
  unfold loadM loadI at h
  obtain ⟨p, s1, h1, h2⟩ := M.bind_ok.1 h
  obtain ⟨hp, rfl⟩ := M.of_ok.1 h1
  obtain ⟨q, s2, h3, h4⟩ := M.bind_ok.1 h2
  obtain ⟨g1, _, ha2⟩ := rowM_ok h3
  obtain ⟨l, s3, h5, h6⟩ := M.bind_ok.1 h4
  obtain ⟨hl, rfl⟩ := M.of_ok.1 h5
  obtain ⟨x, hx, rfl⟩ := addrA_rel hp ha
  obtain ⟨ob, hb, hr⟩ := hw.row g1 hx
  obtain ⟨rfl, r, hr1, hr2⟩ := part_load hi hb hr hl h6
  exact Does.read ha2 hw (by simp [Instr.loadAt, Instr.sureAddr, hr1]) hr2
theorem only_setCells (b : Nat) : ∀ (vs : List Value) (o : Nat) (w : World), Only b w (w.setCells b o vs)
  | [], _, _ => ⟨rfl, rfl, rfl, rfl, fun _ _ => rfl⟩
  | v :: r, o, w => by
    obtain ⟨h1, h2, h3, h4, h5⟩ := only_setCells b r (o + 1) (w.setCell ⟨b, o, none⟩ v)
    refine ⟨h1, h2, h3, h4.trans (by simp [World.setCell]), fun q hq => (h5 q hq).trans ?_⟩
    exact heap_setCell_other w ⟨b, o, none⟩ q v hq
theorem setCells_heap (b : Nat) (e : TypeId) : ∀ (vs : List Value) (o : Nat) (w : World) (cs : Array Value), w.heap[b]? = some (.cells cs e (0, 0)) → o + vs.length ≤ cs.size →
    (w.setCells b o vs).heap[b]? = some (.cells (cs.toList.take o ++ (vs ++ cs.toList.drop (o + vs.length))).toArray e (0, 0))
  | [], o, w, cs, h, _ => by
    simp only [World.setCells, List.length_nil, Nat.add_zero, List.nil_append, List.take_append_drop]
    exact h
  | v :: r, o, w, cs, h, hle => by
    have h1 : (w.setCell ⟨b, o, none⟩ v).heap[b]? = some (.cells (cs.setIfInBounds o v) e (0, 0)) := by
      simp [World.setCell, Array.getElem?_modify, h]
    rw [List.length_cons] at hle
    rw [World.setCells, setCells_heap b e r (o + 1) _ _ h1 (by simpa using (by omega : o + 1 + r.length ≤ cs.size))]
    congr 2
    apply Array.ext'
    simp only [Array.toList_setIfInBounds, List.length_cons]
    have ho : o < cs.toList.length := by simpa using (by omega : o < cs.size)
    rw [List.take_set, List.drop_set_of_lt (by omega), List.take_succ_eq_append_getElem ho, List.set_append_right _ _ (by rw [List.length_take]; omega)]
    simp only [List.length_take, Nat.min_eq_left (Nat.le_of_lt ho), Nat.sub_self, List.set_cons_zero, List.append_assoc, List.cons_append, List.nil_append]
    rw [show o + 1 + r.length = o + (r.length + 1) by omega]
theorem drop_splice {α : Type} (l : List α) (base off : Nat) (us known junk : List α) (hd : l.drop base = known ++ junk) (hk : off + us.length ≤ known.length) (hb : base ≤ l.length) :
    (l.take (base + off) ++ (us ++ l.drop (base + off + us.length))).drop base = (known.take off ++ (us ++ known.drop (off + us.length))) ++ junk := by
  have hl : l.length = base + known.length + junk.length := by
    have := congrArg List.length hd
    rw [List.length_drop, List.length_append] at this
    omega
  have e1 : l = l.take base ++ (known ++ junk) := by rw [← hd, List.take_append_drop]
  have hbl : (l.take base).length = base := by rw [List.length_take]; omega
  generalize l.take base = pre at e1 hbl
  subst e1
  rw [← hbl, List.take_length_add_append, Nat.add_assoc, List.drop_length_add_append, List.append_assoc, List.drop_left, List.take_append_of_le_length (by omega), List.drop_append_of_le_length (by omega)]
  simp only [List.append_assoc]
theorem row_store {p : Nat × Nat × Nat} {e : TypeId} {cs cs' new : List AV} {off k : Nat} {us : List Value} {ob : Obj} (hb : w.heap[p.1]? = some ob) (hr : RowR ρ p e cs ob) (hs : storeC cs off k new = some cs') (hn : CRel ρ new us) (hk : us.length = k) :
    w.there p.1 (p.2.1 + off) us.length ∧ ∃ ob', (w.setCells p.1 (p.2.1 + off) us).heap[p.1]? = some ob' ∧ RowR ρ p e cs' ob' := by
  obtain ⟨vs, known, junk, rfl, g2, g3, g4⟩ := hr
  obtain ⟨f1, f2⟩ := storeC_rel hs g4 hn
  have hle : p.2.1 ≤ vs.toList.length := by simp; omega
  have hsz : known.length + junk.length = p.2.2 := by
    have := congrArg List.length g3
    rw [List.length_drop, List.length_append, Array.length_toList, g2] at this
    omega
  refine ⟨fun j hj => ?_, _, setCells_heap p.1 e us _ w vs hb (by omega), ?_⟩
  · rw [cell_of_row w p.1 _ vs e (0, 0) hb, frozen_of_row w p.1 _ vs e hb, Array.getElem?_eq_getElem (by omega)]
    exact ⟨rfl, rfl⟩
  · refine ⟨_, _, junk, rfl, ?_, drop_splice vs.toList p.2.1 off us known junk g3 (by omega) hle, by rw [hk]; exact f1⟩
    simp only [List.size_toArray, List.length_append, List.length_take, List.length_drop, Array.length_toList]
    omega
theorem storeM_does {i : TyI} {t : TypeId} {a v : AV} {u x : Value} {y : Unit} (hi : TyOK P t i) (h : storeM i a v s = .ok y s') (ha : VRel ρ a u) (hv : VRel ρ v x) (hw : WRel ρ s.h w) : Does P s s' ρ w (Instr.storeAt t u x) (fun _ _ => True) := by
  obtain ⟨inf, d, z, i1, i2, i3, _⟩ := hi
  unfold storeM at h
  obtain ⟨p, s1, h1, h2⟩ := M.bind_ok.1 h
  obtain ⟨hp, rfl⟩ := M.of_ok.1 h1
  obtain ⟨q, s2, h3, h4⟩ := M.bind_ok.1 h2
  obtain ⟨g1, _, ha2⟩ := rowM_ok h3
  obtain ⟨new, s3, h5, h6⟩ := M.bind_ok.1 h4
  obtain ⟨hn, rfl⟩ := M.of_ok.1 h5
  cases hl : Nat.beq (lenC new) i.size with
  | false => rw [bif_false _ _ hl] at h6; exact (M.fail_ok.1 h6).elim
  | true =>
    rw [bif_true _ _ hl] at h6
    obtain ⟨cs, s4, h7, h8⟩ := M.bind_ok.1 h6
    obtain ⟨hst, rfl⟩ := M.of_ok.1 h7
    obtain ⟨_, hs'⟩ := setM_ok.1 h8
    obtain ⟨b, hx, rfl⟩ := addrA_rel hp ha
    have hc := cellsO_rel hn hv
    have hln : x.cells.toList.length = i.size := by rw [CRel.length _ hc, beq_true.1 hl]
    have hw2 := hw.alike ha2
    obtain ⟨ob, hb, hr⟩ := hw2.row (by rw [ha2.1]; exact g1) hx
    obtain ⟨hth, ob', k1, k2⟩ := row_store hb hr hst hc hln
    refine Does.after ha2 (fun _ => ?_)
    have := set_rel (s' := s') (o := .row q.1 cs) hw2 (by rw [ha2.1, g1]; rfl) hx (by rw [hs']; rfl) (only_setCells b.1 x.cells.toList (b.2.1 + p.2) w) k1 k2
    refine ⟨ρ, _, (), ?_, trivial, this.1, this.2⟩
    have hrun := run_storeCells_cells (P := P) b.1 (b.2.1 + p.2) x.cells.toList 0 w (fun j hj => by simpa using (hth j hj).1) (fun j hj => by simpa using (hth j hj).2) (cells_one hc)
    have hz : x.cells.size = inf.size := by rw [← Array.length_toList, hln, i3]
    simp only [Instr.storeAt, Instr.sureAddr, Sem.run_bind, Sem.run_pure, Result.andThen_ok, storeVar, sizeOf, typeInfo, run_program, i1, hz]
    simpa using hrun
theorem newRow_does {e : TypeId} {cs : List AV} {n : Nat} {us : Array Value} (h : newM (.row e cs) s = .ok n s') (hc : CRel ρ cs us.toList) (hw : WRel ρ s.h w) : Does P s s' ρ w (newRow e us) (fun ρ a => ∃ b, ρ n = some (b, 0, us.size) ∧ a = ⟨b, 0, none⟩) := by
  obtain ⟨rfl, hs'⟩ := newM_ok.1 h
  intro hf
  have hfr : ρ s.c = none := hf s.c (Nat.le_refl _) (by rw [hs']; exact Nat.lt_succ_self _)
  have := new_rel (s' := s') (o := .row e cs) (ob := .cells us e (0, 0)) (κ := us.size) hw hfr (by rw [hs']; rfl) (by rw [hs']; rfl) ⟨us, us.toList, [], rfl, by simp, by simp, CRel.mono (Ren.put_le hfr _) _ _ hc⟩
  refine ⟨_, _, _, ?_, ⟨w.heap.size, Ren.put_same _ _ _, rfl⟩, this.1, this.2⟩
  simp [newRow, newObj, Sem.run, World.alloc_eq]
end
end Go.Proofs.YtdbgppknggaooaaGreatDoor.Vm
