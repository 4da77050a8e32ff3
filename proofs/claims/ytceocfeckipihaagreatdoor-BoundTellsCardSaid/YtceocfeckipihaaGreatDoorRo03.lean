/-
  Texts of this claim, joined: RI, RM, RT, RU, RY, LA, KD, KL, KM, OB.
-/
import Derived.StillTail
import Derived.Lib.BufferWrite
import Derived.ChangeKeysEq
import Derived.Lib.AppendStr
import Derived.Defers
import Derived.Maps.RangeWalk
import Derived.Test.YtceocfeckipihaaGreatDoorRo02
set_option maxHeartbeats 6400000
set_option maxRecDepth 100000
namespace Go.Proofs.YtceocfeckipihaaGreatDoor
open Go.RowKit
theorem wp_strict {P : Program} {o : Oper} {a : Act} {w : World} {K K' : Act → World → Prop} {Q Q2 : Exit → Act → World → Prop} (hQ : ∀ x a w, Q2 x a w → x = .normal) (hK : ∀ a w, K a w → K' a w) (h : o.wp P a w K Q2) : o.wp P a w K' Q := by
  unfold Oper.wp at *
  generalize (execOp a.eval o).run P w = r at *
  cases r with
  | ok n w' =>
    cases n <;> simp only [Oper.upon] at h ⊢
    case enter f args =>
      refine Calls.mono h (fun e w'' he => ?_)
      cases e with
      | returned v => exact hK _ _ he
      | panicked c => exact absurd (hQ _ _ _ he) (by simp)
      | outgrown =>
        obtain ⟨a', w', he⟩ := he
        exact absurd (hQ _ _ _ he) (by simp)
    case row r args => exact Rows.mono h fun _ _ he => hK _ _ he
    all_goals exact hK _ _ h
  | halt x w' =>
    cases x <;> simp only [Oper.upon] at h ⊢
    case panic v => exact absurd (hQ _ _ _ h) (by simp)
def fillF : List Oper → (Nat → Value) → Nat → Act → Act
  | [], _, _, a => a
  | o :: r, f, k, a => fillF r f (k + 1) (a.put o.dst (f k))
def distB : List Oper → Bool
  | [] => true
  | o :: r => r.all (fun p => p.dst == none || p.dst != o.dst) && distB r
def aftB : List Oper → Nat → Bool
  | [], _ => true
  | o :: r, k => o.after.all (fun e => decide (e.on < k)) && aftB r (k + 1)
theorem mfl {α : Type} {p : α → Bool} {l : List α} {a : α} (h : a ∈ l) (h' : p a = true) : a ∈ l.filter p := List.mem_filter.2 ⟨h, h'⟩
theorem fS : (∀ (f : Nat → Value) (k : Nat) (a : Act), fillF [] f k a = a) ∧ (∀ (o : Oper) (r : List Oper) (f : Nat → Value) (k : Nat) (a : Act), fillF (o :: r) f k a = fillF r f (k + 1) (a.put o.dst (f k))) ∧ (∀ (a : Act) (v : Value), a.put none v = a) ∧ (∀ (a : Act) (d : Tmp) (v : Value), a.put (some d) v = { a with tmps := a.tmps.setIfInBounds d v }) ∧ (∀ (l : List Value) (i : Nat) (v : Value), l.toArray.setIfInBounds i v = (l.set i v).toArray) ∧ (∀ (x : Value) (l : List Value) (i : Nat) (v : Value), (x :: l).set (i + 1) v = x :: l.set i v) ∧ (∀ (x : Value) (l : List Value) (v : Value), (x :: l).set 0 v = v :: l) := ⟨fun _ _ _ => rfl, fun _ _ _ _ _ => rfl, fun _ _ => rfl, fun _ _ _ => rfl, fun _ _ _ => List.setIfInBounds_toArray .., fun _ _ _ _ => rfl, fun _ _ _ => rfl⟩
theorem put_put (a : Act) (x : Option Tmp) (u v : Value) : (a.put x u).put x v = a.put x v := by
  cases x with
  | none => rfl
  | some d => simp [Act.put]
theorem fill_comm {x : Option Tmp} {v : Value} : ∀ (l : List Oper) (f : Nat → Value) (k : Nat) (a : Act), (∀ p ∈ l, p.dst = none ∨ p.dst ≠ x) → (fillF l f k a).put x v = fillF l f k (a.put x v)
  | [], _, _, _, _ => rfl
  | o :: r, f, k, a, h => by
    unfold fillF
    rw [fill_comm r f (k + 1) _ (fun p hp => h p (List.mem_cons_of_mem _ hp))]
    congr 1
    rcases h o List.mem_cons_self with h1 | h1
    · rw [h1]; rfl
    · exact Act.put_comm a _ _ (fun d hd he => h1 (hd.trans he.symm))
theorem fill_congr : ∀ (l : List Oper) (f g : Nat → Value) (k : Nat) (a : Act), (∀ j, k ≤ j → f j = g j) → fillF l f k a = fillF l g k a
  | [], _, _, _, _, _ => rfl
  | o :: r, f, g, k, a, h => by
    unfold fillF
    rw [h k (Nat.le_refl _)]
    exact fill_congr r f g (k + 1) _ (fun j hj => h j (by omega))
theorem fill_put {v : Value} {o : Oper} : ∀ (l : List Oper) (f : Nat → Value) (k i : Nat) (a : Act), distB l = true → l[i]? = some o → (fillF l f k a).put o.dst v = fillF l (fun j => if j = k + i then v else f j) k a
  | [], _, _, _, _, _, h => by simp at h
  | p :: r, f, k, i, a, hd, h => by
    simp only [distB, Bool.and_eq_true, List.all_eq_true, Bool.or_eq_true, beq_iff_eq, bne_iff_ne] at hd
    cases i with
    | zero =>
      obtain rfl : p = o := by simpa using h
      unfold fillF
      rw [fill_comm r f (k + 1) _ hd.1, put_put]
      simp only [Nat.add_zero, if_true]
      exact fill_congr r _ _ (k + 1) _ (fun j hj => by simp only [if_neg (show ¬ j = k by omega)])
    | succ i =>
      have h' : r[i]? = some o := by simpa using h
      unfold fillF
      rw [fill_put r f (k + 1) i _ hd.2 h']
      simp only [if_neg (show ¬ k = k + (i + 1) by omega)]
      refine fill_congr r _ _ (k + 1) _ (fun j _ => ?_)
      simp only [show (k + 1 + i) = k + (i + 1) by omega]
theorem fill_self : ∀ (l : List Oper) (k : Nat) (a : Act), ∃ f, fillF l f k a = a
  | [], _, _ => ⟨fun _ => undef, rfl⟩
  | o :: r, k, a => by
    obtain ⟨f, hf⟩ := fill_self r (k + 1) a
    have hp : a.put o.dst (match o.dst with | some d => a.tmps.getD d undef | none => undef) = a := by
      cases o.dst with
      | none => rfl
      | some d =>
        simp only [Act.put]
        have : a.tmps.setIfInBounds d (a.tmps.getD d undef) = a.tmps := by
          refine Array.ext (by simp) (fun i h1 h2 => ?_)
          rw [Array.getElem_setIfInBounds]
          split
          · rename_i e
            subst e
            simp [Array.getD, h2]
          · rfl
        rw [this]
    refine ⟨fun j => if j = k then (match o.dst with | some d => a.tmps.getD d undef | none => undef) else f j, ?_⟩
    unfold fillF
    simp only [if_true]
    rw [hp, fill_congr r _ f (k + 1) a (fun j hj => by simp only [if_neg (show ¬ j = k by omega)]), hf]
def atI (As : List (Value → World → Prop)) (i : Nat) (v : Value) (W : World) : Prop := match As[i]? with | some p => p v W | none => True
def depsI (As : List (Value → World → Prop)) (f : Nat → Value) (W : World) (l : List Edge) : Prop := ∀ e ∈ l, atI As e.on (f e.on) W
def DoneI (a : Act) (d : Option Tmp) (p : Value → World → Prop) (W : World) (x : Exit) (a'' : Act) (W'' : World) : Prop := x = .normal ∧ ∃ v, a'' = a.put d v ∧ p v W'' ∧ Below W.heap.size W W''
def stepI (P : Program) (ops : List Oper) (As : List (Value → World → Prop)) (a : Act) (w : World) (k : Nat) (o : Oper) : Prop :=
  ∀ f W, Below w.heap.size w W → depsI As f W (o.after.toList.filter (fun e => Region.binds .any e)) → wpList P ops.toArray (DoneI (fillF ops f 0 a) o.dst (atI As k) W) [o] (fillF ops f 0 a) W
def stepsI (P : Program) (ops : List Oper) (As : List (Value → World → Prop)) (a : Act) (w : World) : List Oper → Nat → Prop
  | [], _ => True
  | o :: r, k => stepI P ops As a w k o ∧ stepsI P ops As a w r (k + 1)
theorem steps_at {P : Program} {ops : List Oper} {As : List (Value → World → Prop)} {a : Act} {w : World} : ∀ (l : List Oper) (k i : Nat) (o : Oper), stepsI P ops As a w l k → l[i]? = some o → stepI P ops As a w (k + i) o
  | [], _, _, _, _, h => by simp at h
  | p :: r, k, i, o, hs, h => by
    cases i with
    | zero =>
      obtain rfl : p = o := by simpa using h
      exact hs.1
    | succ i =>
      have := steps_at r (k + 1) i o hs.2 (by simpa using h)
      rwa [show k + 1 + i = k + (i + 1) by omega] at this
theorem aft_at : ∀ (l : List Oper) (k i : Nat) (o : Oper), aftB l k = true → l[i]? = some o → ∀ e ∈ o.after, e.on < k + i
  | [], _, _, _, _, h => by simp at h
  | p :: r, k, i, o, hs, h => by
    simp only [aftB, Bool.and_eq_true, Array.all_eq_true_iff_forall_mem, decide_eq_true_eq] at hs
    cases i with
    | zero =>
      obtain rfl : p = o := by simpa using h
      exact hs.1
    | succ i =>
      have := aft_at r (k + 1) i o hs.2 (by simpa using h)
      rwa [show k + 1 + i = k + (i + 1) by omega] at this
theorem wpAny_inv {P : Program} {Q : Exit → Act → World → Prop} {a : Act} {w : World} {l : List Oper} (As : List (Value → World → Prop)) (hd : distB l = true) (ha : aftB l 0 = true)
    (hst : ∀ i v W W', Below W.heap.size W W' → atI As i v W → atI As i v W') (hs : stepsI P l As a w l 0) (h : ∀ f W, Below w.heap.size w W → (∀ i, i < l.length → atI As i (f i) W) → Q .normal (fillF l f 0 a) W) :
    ∀ (fuel : Nat) (listed : Array Bool) (f : Nat → Value) (W : World) (u : List Nat), listed.size = l.length → u.Nodup → u.length = fuel → (∀ i, i ∈ u ↔ (i < l.length ∧ listed.getD i true = false)) → Below w.heap.size w W →
      (∀ i, i < l.length → listed.getD i true = true → atI As i (f i) W) → wpAny P .any l.toArray Q fuel listed (fillF l f 0 a) W := by
  intro fuel
  induction fuel with
  | zero =>
    intro listed f W u hz hn hl hu hb hA
    obtain rfl := List.eq_nil_of_length_eq_zero hl
    refine ⟨?_, h f W hb (fun i hi => hA i hi ?_)⟩
    · rw [List.eq_nil_iff_forall_not_mem]
      intro i hi
      obtain ⟨h1, o, ho, _⟩ := mem_ready.1 hi
      have := (hu i).2 ⟨by have := (Array.getElem?_eq_some_iff.1 ho).1; simpa using this, h1⟩
      cases this
    · cases hb' : listed.getD i true with
      | true => rfl
      | false => exact absurd ((hu i).2 ⟨hi, hb'⟩) (by simp)
  | succ fuel ih =>
    intro listed f W u hz hn hl hu hb hA
    refine ⟨fun hnil => ?_, fun i hi => ?_⟩
    · exfalso
      have hex : ∃ i, i < l.length ∧ listed.getD i true = false := by
        cases u with
        | nil => simp at hl
        | cons x r => exact ⟨x, (hu x).1 List.mem_cons_self⟩
      have key : ∀ n, ∀ i, i < n → i < l.length → listed.getD i true = false → False := by
        intro n
        induction n with
        | zero => intro i hi; omega
        | succ n ihn =>
          intro i hi hil hun
          obtain ⟨o, ho⟩ : ∃ o, l[i]? = some o := ⟨_, List.getElem?_eq_getElem hil⟩
          have : i ∈ Region.ready .any l.toArray listed := by
            refine mem_ready.2 ⟨hun, o, by simpa using ho, fun e he _ => ?_⟩
            have hlt := aft_at l 0 i o ha ho e he
            cases hb' : listed.getD e.on false with
            | true => rfl
            | false =>
              exfalso
              refine ihn e.on (by omega) (by omega) ?_
              have hin : e.on < listed.size := by omega
              simp only [Array.getD, hin, dif_pos] at hb' ⊢
              exact hb'
          rw [hnil] at this
          cases this
      obtain ⟨i, h1, h2⟩ := hex
      exact key (i + 1) i (by omega) h1 h2
    · obtain ⟨hun, o, ho, hall⟩ := mem_ready.1 hi
      have ho' : l[i]? = some o := by simpa using ho
      have hil : i < l.length := (List.getElem?_eq_some_iff.1 ho').1
      have hstep := steps_at l 0 i o hs ho'
      rw [Nat.zero_add] at hstep
      have hq := hstep f W hb (by
        intro e he
        rw [List.mem_filter] at he
        have he1 : e ∈ o.after := by simpa using he.1
        have hlt := aft_at l 0 i o ha ho' e he1
        have hll := hall e he1 he.2
        refine hA e.on (by omega) ?_
        have hin : e.on < listed.size := by omega
        simp only [Array.getD, hin, dif_pos] at hll ⊢
        exact hll)
      have hnext : ∀ (a'' : Act) (W'' : World), (∃ v, a'' = (fillF l f 0 a).put o.dst v ∧ atI As i v W'' ∧ Below W.heap.size W W'') → wpAny P .any l.toArray Q fuel (listed.setIfInBounds i true) a'' W'' := by
        rintro a'' W'' ⟨v, rfl, hv, hb2⟩
        rw [fill_put l f 0 i a hd ho']
        refine ih _ _ _ (u.erase i) (by simpa using hz) (hn.erase _) (by rw [List.length_erase_of_mem ((hu i).2 ⟨hil, hun⟩)]; omega) (fun j => ?_) (below_via hb hb2 hb.size) (fun j hj hlj => ?_)
        · rw [hn.mem_erase_iff, hu j]
          constructor
          · rintro ⟨h1, h2, h3⟩
            exact ⟨h2, by rw [getD_set_ne true (Ne.symm h1)]; exact h3⟩
          · rintro ⟨h2, h3⟩
            have hne : j ≠ i := by
              rintro rfl
              have hin : j < listed.size := by omega
              simp [Array.getD, hin] at h3
            exact ⟨hne, h2, by rwa [getD_set_ne true (Ne.symm hne)] at h3⟩
        · by_cases hji : j = i
          · subst hji
            simp only [Nat.zero_add, if_true]
            exact hv
          · simp only [Nat.zero_add, if_neg hji]
            refine hst j _ W W'' hb2 (hA j hj ?_)
            rwa [getD_set_ne true (Ne.symm hji)] at hlj
      unfold wpOp
      simp only [ho]
      unfold wpList at hq
      split
      · rename_i hw
        rw [if_pos hw] at hq
        rcases hq with hq | ⟨_, a', w', he, _⟩
        · exact .inl (wp_strict (fun _ _ _ h => h.1) (fun a'' w'' h => hnext a'' w'' (show _ ∧ _ from h).2) hq)
        · cases he
      · rename_i hw
        rw [if_neg hw] at hq
        exact hnext _ _ (show _ ∧ _ from hq).2
theorem wp_region_inv {P : Program} {id : Nat} {Q : Exit → Act → World → Prop} {a : Act} {w : World} {l : List Oper} (As : List (Value → World → Prop)) (hm : P.follows .mixedOrders = true) (hd : distB l = true) (ha : aftB l 0 = true)
    (hst : ∀ i v W W', Below W.heap.size W W' → atI As i v W → atI As i v W') (hs : stepsI P l As a w l 0) (h : ∀ f W, Below w.heap.size w W → (∀ i, i < l.length → atI As i (f i) W) → Q .normal (fillF l f 0 a) W) : (Code.region id l.toArray true).wp P Q a w := by
  refine wp_region_any hm ?_
  obtain ⟨f, hf⟩ := fill_self l 0 a
  have := wpAny_inv (Q := Q) As hd ha hst hs h l.length (Array.replicate l.length false) f w.drew (List.range l.length) (by simp) List.nodup_range (by simp) (fun i => ?_) (Below.refl _ _).drew (fun i hi hl => ?_)
  · rw [hf] at this
    simpa using this
  · rw [List.mem_range]
    constructor
    · intro hi; exact ⟨hi, by simp [Array.getD, hi]⟩
    · intro hi; exact hi.1
  · simp [Array.getD, hi] at hl
def stepT (P : Program) (full : Array Oper) (ops : List Oper) (As : List (Value → World → Prop)) (a : Act) (w : World) (k : Nat) (o : Oper) : Prop :=
  ∀ f W, Below w.heap.size w W → depsI As f W (o.after.toList.filter (fun e => Region.binds .any e)) → wpList P full (DoneI (fillF ops f 0 a) o.dst (atI As k) W) [o] (fillF ops f 0 a) W
def stepsT (P : Program) (full : Array Oper) (ops : List Oper) (As : List (Value → World → Prop)) (a : Act) (w : World) : List Oper → Nat → Prop
  | [], _ => True
  | o :: r, k => stepT P full ops As a w k o ∧ stepsT P full ops As a w r (k + 1)
theorem stepsT_at {P : Program} {full : Array Oper} {ops : List Oper} {As : List (Value → World → Prop)} {a : Act} {w : World} : ∀ (l : List Oper) (k i : Nat) (o : Oper), stepsT P full ops As a w l k → l[i]? = some o → stepT P full ops As a w (k + i) o
  | [], _, _, _, _, h => by simp at h
  | p :: r, k, i, o, hs, h => by
    cases i with
    | zero =>
      obtain rfl : p = o := by simpa using h
      exact hs.1
    | succ i =>
      have := stepsT_at r (k + 1) i o hs.2 (by simpa using h)
      rwa [show k + 1 + i = k + (i + 1) by omega] at this
def doneA (n g : Nat) : Array Bool := (List.replicate n true ++ List.replicate g false).toArray
theorem doneA_eq {n g : Nat} {listed : Array Bool} (hz : listed.size = n + g) (h1 : ∀ i, i < n → listed.getD i true = true) (h2 : ∀ i, n ≤ i → i < n + g → listed.getD i true = false) : listed = doneA n g := by
  refine Array.ext (by simp [doneA, hz]) (fun i hi hi' => ?_)
  have hg : listed.getD i true = listed[i] := by simp [Array.getD, hi]
  rw [← hg]
  by_cases h : i < n
  · rw [h1 i h]
    simp [doneA, h]
  · rw [h2 i (by omega) (by omega)]
    simp [doneA, List.getElem_append, h]
theorem wpHead_inv {P : Program} {Q : Exit → Act → World → Prop} {a : Act} {w : World} {l : List Oper} (n : Nat) (As : List (Value → World → Prop)) (hd : distB (l.take n) = true) (ha : aftB l 0 = true)
    (hS : Region.sinkB .any l.toArray n = true) (hC : Region.chainB .any l.toArray n = true) (hn : n < l.length) (hseq : Region.seqB .any l.toArray (l.length - n) n (doneA n (l.length - n)) = true)
    (hst : ∀ i v W W', Below W.heap.size W W' → atI As i v W → atI As i v W') (hs : stepsT P l.toArray (l.take n) As a w (l.take n) 0) (h : ∀ f W, Below w.heap.size w W → (∀ i, i < n → atI As i (f i) W) → wpList P l.toArray Q (l.drop n) (fillF (l.take n) f 0 a) W) :
    ∀ (fuel : Nat) (listed : Array Bool) (f : Nat → Value) (W : World) (u : List Nat), HeadInv .any l.toArray n listed → u.Nodup → u.length = fuel → (∀ i, i ∈ u ↔ (i < n ∧ listed.getD i true = false)) → Below w.heap.size w W →
      (∀ i, i < n → listed.getD i true = true → atI As i (f i) W) → wpAny P .any l.toArray Q (fuel + (l.length - n)) listed (fillF (l.take n) f 0 a) W := by
  intro fuel
  induction fuel with
  | zero =>
    intro listed f W u inv hnd hl hu hb hA
    obtain rfl := List.eq_nil_of_length_eq_zero hl
    have hall : ∀ i, i < n → listed.getD i true = true := fun i hi => by
      cases hb' : listed.getD i true with
      | true => rfl
      | false => exact absurd ((hu i).2 ⟨hi, hb'⟩) (by simp)
    have hz : listed.size = l.length := by have := inv.size; simpa using this
    obtain rfl : listed = doneA n (l.length - n) := doneA_eq (by omega) hall (fun i h1 h2 => inv.tail i h1 (by simp; omega))
    rw [Nat.zero_add]
    have hdl : (l.drop n).length = l.length - n := by simp
    have := wpAny_of_seq (md := .any) (Q' := Q) (l.drop n) n _ (fillF (l.take n) f 0 a) W (fun j => by simp [List.getElem?_drop]) (by rw [hdl]; exact hseq) (h f W hb (fun i hi => hA i hi (hall i hi)))
    rwa [hdl] at this
  | succ fuel ih =>
    intro listed f W u inv hnd hl hu hb hA
    have hz : listed.size = l.length := by have := inv.size; simpa using this
    have hex : ∃ i, i < n ∧ listed.getD i true = false := by
      cases u with
      | nil => simp at hl
      | cons x r => exact ⟨x, (hu x).1 List.mem_cons_self⟩
    rw [show fuel + 1 + (l.length - n) = (fuel + (l.length - n)) + 1 by omega]
    refine ⟨fun hnil => ?_, fun i hi => ?_⟩
    · exfalso
      have key : ∀ m, ∀ i, i < m → i < n → listed.getD i true = false → False := by
        intro m
        induction m with
        | zero => intro i hi; omega
        | succ m ihn =>
          intro i hi hil hun
          obtain ⟨o, ho⟩ : ∃ o, l[i]? = some o := ⟨_, List.getElem?_eq_getElem (show i < l.length by omega)⟩
          have : i ∈ Region.ready .any l.toArray listed := by
            refine mem_ready.2 ⟨hun, o, by simpa using ho, fun e he _ => ?_⟩
            have hlt := aft_at l 0 i o ha ho e he
            cases hb' : listed.getD e.on false with
            | true => rfl
            | false =>
              exfalso
              refine ihn e.on (by omega) (by omega) ?_
              have hin : e.on < listed.size := by omega
              simp only [Array.getD, hin, dif_pos] at hb' ⊢
              exact hb'
          rw [hnil] at this
          cases this
      obtain ⟨i, h1, h2⟩ := hex
      exact key (i + 1) i (by omega) h1 h2
    · have hin : i < n := by
        obtain ⟨i0, h1, h2⟩ := hex
        exact Nat.lt_of_not_le fun hge => absurd hi (tail_waits hS hC (by simpa using hn) inv _ i0 rfl h1 h2 i hge)
      obtain ⟨hun, o, ho, hall⟩ := mem_ready.1 hi
      have ho' : l[i]? = some o := by simpa using ho
      have ho2 : (l.take n)[i]? = some o := by rw [List.getElem?_take, if_pos hin, ho']
      have hstep := stepsT_at (l.take n) 0 i o hs ho2
      rw [Nat.zero_add] at hstep
      have hq := hstep f W hb (by
        intro e he
        rw [List.mem_filter] at he
        have he1 : e ∈ o.after := by simpa using he.1
        have hlt := aft_at l 0 i o ha ho' e he1
        have hll := hall e he1 he.2
        refine hA e.on (by omega) ?_
        have hin : e.on < listed.size := by omega
        simp only [Array.getD, hin, dif_pos] at hll ⊢
        exact hll)
      have hnext : ∀ (a'' : Act) (W'' : World), (∃ v, a'' = (fillF (l.take n) f 0 a).put o.dst v ∧ atI As i v W'' ∧ Below W.heap.size W W'') → wpAny P .any l.toArray Q (fuel + (l.length - n)) (listed.setIfInBounds i true) a'' W'' := by
        rintro a'' W'' ⟨v, rfl, hv, hb2⟩
        rw [fill_put (l.take n) f 0 i a hd ho2]
        refine ih _ _ _ (u.erase i) (inv.set hi hin) (hnd.erase _) (by rw [List.length_erase_of_mem ((hu i).2 ⟨hin, hun⟩)]; omega) (fun j => ?_) (below_via hb hb2 hb.size) (fun j hj hlj => ?_)
        · rw [hnd.mem_erase_iff, hu j]
          constructor
          · rintro ⟨h1, h2, h3⟩
            exact ⟨h2, by rw [getD_set_ne true (Ne.symm h1)]; exact h3⟩
          · rintro ⟨h2, h3⟩
            have hne : j ≠ i := by
              rintro rfl
              have hin : j < listed.size := by omega
              simp [Array.getD, hin] at h3
            exact ⟨hne, h2, by rwa [getD_set_ne true (Ne.symm hne)] at h3⟩
        · by_cases hji : j = i
          · subst hji
            simp only [Nat.zero_add, if_true]
            exact hv
          · simp only [Nat.zero_add, if_neg hji]
            refine hst j _ W W'' hb2 (hA j hj ?_)
            rwa [getD_set_ne true (Ne.symm hji)] at hlj
      unfold wpOp
      simp only [ho]
      unfold wpList at hq
      split
      · rename_i hw
        rw [if_pos hw] at hq
        rcases hq with hq | ⟨_, a', w', he, _⟩
        · exact .inl (wp_strict (fun _ _ _ h => h.1) (fun a'' w'' h => hnext a'' w'' (show _ ∧ _ from h).2) hq)
        · cases he
      · rename_i hw
        rw [if_neg hw] at hq
        exact hnext _ _ (show _ ∧ _ from hq).2
theorem wp_region_inv_tail {P : Program} {id : Nat} {Q : Exit → Act → World → Prop} {a : Act} {w : World} {l : List Oper} (n : Nat) (As : List (Value → World → Prop)) (hm : P.follows .mixedOrders = true) (hd : distB (l.take n) = true) (ha : aftB l 0 = true)
    (hS : Region.sinkB .any l.toArray n = true) (hC : Region.chainB .any l.toArray n = true) (hn : n < l.length) (hseq : Region.seqB .any l.toArray (l.length - n) n (doneA n (l.length - n)) = true)
    (hst : ∀ i v W W', Below W.heap.size W W' → atI As i v W → atI As i v W') (hs : stepsT P l.toArray (l.take n) As a w (l.take n) 0) (h : ∀ f W, Below w.heap.size w W → (∀ i, i < n → atI As i (f i) W) → wpList P l.toArray Q (l.drop n) (fillF (l.take n) f 0 a) W) : (Code.region id l.toArray true).wp P Q a w := by
  refine wp_region_any hm ?_
  obtain ⟨f, hf⟩ := fill_self (l.take n) 0 a
  have inv0 : HeadInv .any l.toArray n (Array.replicate l.toArray.size false) :=
    ⟨by simp, fun j oj _ hl => (by rw [getD_replicate_false] at hl; cases hl), fun t _ ht => getD_in (by simpa using ht) (getD_replicate_false _ _)⟩
  have := wpHead_inv (Q := Q) n As hd ha hS hC hn hseq hst hs h n (Array.replicate l.toArray.size false) f w.drew (List.range n) inv0 List.nodup_range (by simp) (fun i => ?_) (Below.refl _ _).drew (fun i hi hl => ?_)
  · rw [hf, show n + (l.length - n) = l.length by omega] at this
    simpa using this
  · rw [List.mem_range]
    constructor
    · intro hi; exact ⟨hi, by simp [Array.getD, show i < l.length by omega]⟩
    · intro hi; exact hi.1
  · simp [Array.getD, show i < l.length by omega] at hl
end Go.Proofs.YtceocfeckipihaaGreatDoor
namespace Go.Proofs.YtceocfeckipihaaGreatDoor
open Go.RowKit
def pad64 (bs : List UInt8) : List UInt8 := bs ++ List.replicate (64 - bs.length) 0
theorem pad64_length {bs : List UInt8} (h : bs.length ≤ 64) : (pad64 bs).length = 64 := by simp [pad64]; omega
theorem pad64_app {bs cs : List UInt8} (h : bs.length + cs.length ≤ 64) : (pad64 bs).take bs.length ++ cs ++ (pad64 bs).drop (bs.length + cs.length) = pad64 (bs ++ cs) := by
  unfold pad64
  rw [List.take_append_of_le_length (Nat.le_refl _), List.take_length, List.drop_append, List.drop_of_length_le (by omega), List.nil_append, List.drop_replicate, List.length_append]
  congr 2
  omega
def itemB (st : Int) (k : ByteArray) (d : CellD) : List UInt8 := if st ≠ 0 ∧ rightI st k d = true then [UInt8.ofNat st.toNat, UInt8.ofNat k.size] ++ k.data.toList ++ cellB d else []
theorem step_copy_rowS {P : Program} {ops : Array Oper} {o : Oper} {a : Act} {w : World} {K : Act → World → Prop} {Q : Exit → Act → World → Prop} {E : Prop}
    (hg : o.guard = none) (d x : Operand) (dT sT : TypeId) (hop : o.op = Op.call { callee := Callee.builtin Builtin.copy, args := #[d, x], argTypes := #[dT, sT] })
    (elem : TypeId) (hu : P.underlying dT = some (.slice elem)) (hs : (P.info? elem).map (·.size) = some 1) (g off dLen dCap : Nat) (hd : a.eval d = .slice (some ⟨g, off, none⟩) dLen dCap) (s : ByteArray) (hx : a.eval x = .string s)
    (cur : Array Value) (t : TypeId) (hk : Blk w g t cur) (hle : s.size ≤ dLen) (hfit : off + s.size ≤ cur.size)
    (hK : K (a.put o.dst (goInt s.size)) (w.setRow g (cur.toList.take off ++ Lib.byteCells s.data.toList ++ cur.toList.drop (off + s.size)).toArray)) :
    if Region.wanted o (yielded ops a.tmps) = true then Oper.wp P o a w K Q else E := by
  have hw : Region.wanted o (yielded ops a.tmps) = true := by simp [Region.wanted, hg]
  rw [if_pos hw]
  have hrun := Lib.run_copy_row_string (P := P) w dT sT o.type elem g off dLen dCap s cur t hu hs hk hle hfit
  generalize (cur.toList.take off ++ Lib.byteCells s.data.toList ++ cur.toList.drop (off + s.size)).toArray = X at hrun hK
  unfold Oper.wp
  simp [execOp, hop, resolve, invoke, builtin, hd, hx, hrun, Result.andThen]
  exact hK
theorem wpList_copy_rowS {P : Program} {ops : Array Oper} {rest : List Oper} {o : Oper} {a : Act} {w : World} {Q : Exit → Act → World → Prop}
    (hg : o.guard = none) (d x : Operand) (dT sT : TypeId) (hop : o.op = Op.call { callee := Callee.builtin Builtin.copy, args := #[d, x], argTypes := #[dT, sT] })
    (elem : TypeId) (hu : P.underlying dT = some (.slice elem)) (hs : (P.info? elem).map (·.size) = some 1) (g off dLen dCap : Nat) (hd : a.eval d = .slice (some ⟨g, off, none⟩) dLen dCap) (s : ByteArray) (hx : a.eval x = .string s)
    (cur : Array Value) (t : TypeId) (hk : Blk w g t cur) (hle : s.size ≤ dLen) (hfit : off + s.size ≤ cur.size)
    (hK : wpList P ops Q rest (a.put o.dst (goInt s.size)) (w.setRow g (cur.toList.take off ++ Lib.byteCells s.data.toList ++ cur.toList.drop (off + s.size)).toArray)) : wpList P ops Q (o :: rest) a w :=
  wpList_plain hg fun K hK' => by
    have := step_copy_rowS (ops := ops) (Q := Q) (K := K) (E := False) hg d x dT sT hop elem hu hs g off dLen dCap hd s hx cur t hk hle hfit (hK' _ _ hK)
    have hw : Region.wanted o (yielded ops a.tmps) = true := by simp [Region.wanted, hg]
    rwa [if_pos hw] at this
theorem pad64_cells {bs cs : List UInt8} {n : Nat} (hn : bs.length = n) (h : bs.length + cs.length ≤ 64) : ((((pad64 bs).map byteV).toArray.toList.take n ++ Lib.byteCells cs ++ ((pad64 bs).map byteV).toArray.toList.drop (n + cs.length)).toArray) = ((pad64 (bs ++ cs)).map byteV).toArray := by
  subst hn
  rw [← pad64_app h, List.map_append, List.map_append, List.map_take, List.map_drop]
  rfl
theorem cellB_le34 {d : CellD} (h : rightC d = true) : (cellB d).length ≤ 34 := by
  unfold cellB
  rw [if_pos h]
  have := rightC_kind h
  split
  · simp [beB_length]; omega
  · simp [beB_length]
theorem zeros64 : (#[Value.int IntKind.u8 0, Value.int IntKind.u8 0, Value.int IntKind.u8 0, Value.int IntKind.u8 0, Value.int IntKind.u8 0, Value.int IntKind.u8 0, Value.int IntKind.u8 0, Value.int IntKind.u8 0, Value.int IntKind.u8 0, Value.int IntKind.u8 0, Value.int IntKind.u8 0, Value.int IntKind.u8 0, Value.int IntKind.u8 0, Value.int IntKind.u8 0, Value.int IntKind.u8 0, Value.int IntKind.u8 0, Value.int IntKind.u8 0, Value.int IntKind.u8 0, Value.int IntKind.u8 0, Value.int IntKind.u8 0, Value.int IntKind.u8 0, Value.int IntKind.u8 0, Value.int IntKind.u8 0, Value.int IntKind.u8 0, Value.int IntKind.u8 0, Value.int IntKind.u8 0, Value.int IntKind.u8 0, Value.int IntKind.u8 0, Value.int IntKind.u8 0, Value.int IntKind.u8 0, Value.int IntKind.u8 0, Value.int IntKind.u8 0, Value.int IntKind.u8 0, Value.int IntKind.u8 0, Value.int IntKind.u8 0, Value.int IntKind.u8 0, Value.int IntKind.u8 0, Value.int IntKind.u8 0, Value.int IntKind.u8 0, Value.int IntKind.u8 0, Value.int IntKind.u8 0, Value.int IntKind.u8 0, Value.int IntKind.u8 0, Value.int IntKind.u8 0, Value.int IntKind.u8 0, Value.int IntKind.u8 0, Value.int IntKind.u8 0, Value.int IntKind.u8 0, Value.int IntKind.u8 0, Value.int IntKind.u8 0, Value.int IntKind.u8 0, Value.int IntKind.u8 0, Value.int IntKind.u8 0, Value.int IntKind.u8 0, Value.int IntKind.u8 0, Value.int IntKind.u8 0, Value.int IntKind.u8 0, Value.int IntKind.u8 0, Value.int IntKind.u8 0, Value.int IntKind.u8 0, Value.int IntKind.u8 0, Value.int IntKind.u8 0, Value.int IntKind.u8 0, Value.int IntKind.u8 0] : Array Value) = ((pad64 []).map byteV).toArray := rfl
theorem row64_info (bs : List UInt8) (h : bs.length ≤ 64) : (Tryz.prog.info? 191).map (·.size) = some ((pad64 bs).map byteV).toArray.size := by
  rw [List.size_toArray, List.length_map, pad64_length h]
  kernel_rfl
theorem row_one (bs : List UInt8) : (bs.map byteV).toArray.all (·.oneCell') = true := Array.all_eq_true_iff_forall_mem.2 (fun v hv => by
  have hv : v ∈ bs.map byteV := by simpa using hv
  obtain ⟨x, _, rfl⟩ := List.mem_map.1 hv
  rfl)
theorem byteV_ofNat {m : Nat} (h : m < 256) : Value.int .u8 (m : Int) = byteV (UInt8.ofNat m) := by
  unfold byteV
  rw [UInt8.toNat_ofNat', Nat.mod_eq_of_lt (by omega)]
theorem head64 (st : Int) (m : Nat) (hst : st = 1 ∨ st = 2) (hm : m < 256) : ((((pad64 []).map byteV).toArray.setIfInBounds 0 (.int .u8 st)).setIfInBounds 1 (.int .u8 m)) = ((pad64 [UInt8.ofNat st.toNat, UInt8.ofNat m]).map byteV).toArray := by
  rw [← zeros64, byteV_ofNat hm]
  rcases hst with rfl | rfl <;> rfl
theorem slotPut_any (st : Int) (k : ByteArray) (d : CellD) (A : Option Addr) (n c : Nat) (B : Nat) (w : World) (hk : k.size ≤ 1000000) (hB : B ≤ w.heap.size) (hn : n = d.data.length) (ha : BytesAt w B (.slice A n c) d.data) :
    Calls Tryz.prog 122 #[itemV st k d (.slice A n c)] w fun e w' => e = .returned (.agg ((pad64 (itemB st k d)).map byteV).toArray) ∧ Below w.heap.size w w' := by
  have HC := hide (fun W (hb : Below w.heap.size w W) => slotCheck_any st k d (.slice A n c) B W hk (Nat.le_trans hB hb.size) (ha.below hb hB))
  have HN := hide hn
  have HA := hide ha
  clear hn ha
  unfold itemV at *
  go_enter Tryz.func122, Tryz.ntmps122
  go_upto_region 2 with (fail)
  refine gen3R (R := fun W => Code.wp _ _ _ _ W) (fun W1 kI kR kB hb1 hz1 => ?_)
  rw [zeros64] at kR kB
  have HKI := hide kI
  have HKR := hide kR
  have HKB := hide kB
  have q0 := kI.cell 0
  have q1 := kI.cell 1
  have q2 := kI.cell 2
  have q3 := kI.cell 3
  have q4 := kI.cell 4
  have q5 := kI.cell 5
  have q6 := kI.cell 6
  clear kI kR kB
  cases h0 : (st == 0)
  · have hst0 : st ≠ 0 := by simpa using h0
    cases hr : rightI st k d
    · have HE := hide (show itemE st k d = 1 by unfold itemE; rw [hr]; rfl)
      have HIB := hide (show itemB st k d = [] by unfold itemB; rw [hr, if_neg (by simp)])
      go_wp2_with fail
      refine (HC.out _ hb1).mono ?_
      rintro e W2 ⟨rfl, hb2⟩
      have HKB := hide (Blk.via hb2 HKB.out)
      have HKR := hide (Blk.via hb2 HKR.out)
      have hbw2 := below_via hb1 hb2 hb1.size
      rw [HE.out]
      go_upto_region 3 with (fail)
      have HI := hide (row64_info [] (by simp))
      have H1 := hide (row_one (pad64 []))
      have HO := hide (show ((pad64 []).map byteV).toArray.size = ((pad64 []).map byteV).toArray.size by (simp only [List.size_toArray, List.length_map]) <;> exact (pad64_length (bs := []) (by simp)).trans (pad64_length (by simp)).symm)
      generalize hX : ((pad64 []).map byteV).toArray = X at *
      have HX := hide hX
      clear hX
      have hK2 : Blk (W2.setRow (w.heap.size + 1) X) (w.heap.size + 1) 191 X := setRow_heap W2 (w.heap.size + 1) _ _ _ _ HKR.out
      have hb2 : Below w.heap.size w (W2.setRow (w.heap.size + 1) X) := (touch_setRow W2 (w.heap.size + 1) _).below hbw2 (by omega)
      have HK2 := hide hK2
      clear hK2
      go_wp2_with (first
        | (refine wpList_load_row rfl 191 (.tmp 3) rfl (w.heap.size + 1 + 1) rfl 191 X (0, 0) _ HKB.out Tryz.underlying191 rfl HI.out ?_)
        | (refine wpList_store_row rfl 191 (.tmp 2) (.tmp 12) rfl (w.heap.size + 1) X rfl rfl 191 _ HKR.out HI.out HO.out H1.out ?_))
      exact bodyPost_ret (results_cell_row Tryz.results122 _ _ (w.heap.size + 1) 191 X (0, 0) _ rfl HK2.out Tryz.underlying191 rfl HI.out) rfl ⟨by rw [HIB.out, HX.out], hb2⟩
    · have HE := hide (show itemE st k d = 0 by unfold itemE; rw [hr]; rfl)
      have hor : st = 1 ∨ st = 2 := by
        unfold rightI at hr
        rw [if_neg hst0] at hr
        simp only [Bool.and_eq_true, decide_eq_true_eq] at hr
        exact hr.1
      have hgk : goodKey k = true ∧ rightC d = true := by
        unfold rightI at hr
        rw [if_neg hst0] at hr
        simp only [Bool.and_eq_true, decide_eq_true_eq] at hr
        exact hr.2
      have hk16 : k.size ≤ 16 := by
        have := hgk.1
        unfold goodKey at this
        simp only [Bool.and_eq_true, decide_eq_true_eq] at this
        exact this.2.2
      have hkl : k.data.toList.length = k.size := by rw [Array.length_toList]; rfl
      have HIB := hide (show itemB st k d = [UInt8.ofNat st.toNat, UInt8.ofNat k.size] ++ k.data.toList ++ cellB d by unfold itemB; rw [hr, if_pos ⟨hst0, rfl⟩])
      have hc34 := cellB_le34 hgk.2
      have hpos : 0 < (cellB d).length := by
        unfold cellB
        rw [if_pos hgk.2]
        split <;> simp [beB_length] <;> omega
      go_wp2_with fail
      refine (HC.out _ hb1).mono ?_
      rintro e W2 ⟨rfl, hb2⟩
      have hkB := Blk.via hb2 HKB.out
      have hkI := Blk.via hb2 HKI.out
      have HKR := hide (Blk.via hb2 HKR.out)
      have hbw2 := below_via hb1 hb2 hb1.size
      rw [HE.out]
      clear q0 q1 q2 q3 q4 q5 q6
      have q0 := hkI.cell 0
      have q1 := hkI.cell 1
      have c0 : W2.cell? ⟨w.heap.size + 1 + 1, 0, none⟩ = some (.int .u8 0) := hkB.cell 0
      have c1 : W2.cell? ⟨w.heap.size + 1 + 1, 1, none⟩ = some (.int .u8 0) := hkB.cell 1
      have f0 := hkB.frozen 0
      have f1 := hkB.frozen 1
      have HKB := hide hkB
      have HKI := hide hkI
      have l0 := hkB.lt
      clear hkB hkI hr hgk h0
      have s1 : (st == 0) = false := by simpa using hst0
      have HKL := hide hkl
      clear hkl
      go_upto_region 6 with (fail)
      clear q0 q1 c0 c1 f0 f1
      generalize hW3 : (W2.setCell ⟨w.heap.size + 1 + 1, 0, none⟩ (Value.int IntKind.u8 st)).setCell ⟨w.heap.size + 1 + 1, 1, none⟩ (Value.int IntKind.u8 (k.size : Nat)) = W3
      have kB3 : Blk W3 (w.heap.size + 1 + 1) 191 ((pad64 [UInt8.ofNat st.toNat, UInt8.ofNat k.size]).map byteV).toArray := by
        rw [← hW3, ← head64 st k.size hor (by omega)]
        exact (HKB.out.set_ 0 _).set_ 1 _
      have kI3 : Blk W3 w.heap.size 108 _ := hW3 ▸ (HKI.out.far (p := ⟨w.heap.size + 1 + 1, 0, none⟩) (by simp; omega) _).far (p := ⟨w.heap.size + 1 + 1, 1, none⟩) (by simp; omega) _
      have kR3 : Blk W3 (w.heap.size + 1) 191 _ := hW3 ▸ (HKR.out.far (p := ⟨w.heap.size + 1 + 1, 0, none⟩) (by simp) _).far (p := ⟨w.heap.size + 1 + 1, 1, none⟩) (by simp) _
      have hb3 : Below w.heap.size w W3 := hW3 ▸ (hbw2.setCell (p := ⟨w.heap.size + 1 + 1, 0, none⟩) (by simp; omega) _).setCell (p := ⟨w.heap.size + 1 + 1, 1, none⟩) (by simp; omega) _
      clear hW3 HKB HKI HKR
      have HKB := hide kB3
      have HKI := hide kI3
      have HKR := hide kR3
      clear kB3 kI3 kR3
      refine wp_region_inv_tail 3 [fun v _ => v = .slice (some ⟨w.heap.size + 1 + 1, 2, none⟩) 62 62, fun v _ => v = .pointer (some ⟨w.heap.size, 1, none⟩), fun v _ => v = .string k] (by kernel_rfl) (by kernel_rfl) (by kernel_rfl) (by kernel_rfl) (by kernel_rfl) (by simp) (by kernel_rfl) ?st ?steps ?fin
      case st =>
        intro i v W W' _ h
        match i with
        | 0 => exact h
        | 1 => exact h
        | 2 => exact h
        | (i + 3) => exact h
      case steps =>
        simp only [stepsT, List.take_succ_cons, List.take_zero]
        refine ⟨?_, ?_, ?_, trivial⟩
        · intro f W hbW hdp
          simp only [fillF, Act.put, List.setIfInBounds_toArray, List.set_cons_succ, List.set_cons_zero]
          go_wp2
          exact ⟨rfl, _, rfl, rfl, Below.refl _ _⟩
        · intro f W hbW hdp
          simp only [fillF, Act.put, List.setIfInBounds_toArray, List.set_cons_succ, List.set_cons_zero]
          go_wp2
          exact ⟨rfl, _, rfl, rfl, Below.refl _ _⟩
        · intro f W hbW hdp
          have q1 := (Blk.via hbW HKI.out).cell 1
          have e1 : f 1 = .pointer (some ⟨w.heap.size, 1, none⟩) := hdp ⟨1, .data⟩ (mfl (by simp) rfl)
          simp only [fillF, Act.put, List.setIfInBounds_toArray, List.set_cons_succ, List.set_cons_zero, e1]
          go_wp2
          exact ⟨rfl, _, rfl, rfl, Below.refl _ _⟩
      case fin =>
        intro f W hbW hA
        have e0 : f 0 = .slice (some ⟨w.heap.size + 1 + 1, 2, none⟩) 62 62 := hA 0 (by omega)
        have e2 : f 2 = .string k := hA 2 (by omega)
        simp only [List.drop_succ_cons, List.drop_zero, fillF, List.take_succ_cons, List.take_zero, Act.put, List.setIfInBounds_toArray, List.set_cons_succ, List.set_cons_zero, e0, e2]
        have kb := Blk.via hbW HKB.out
        refine wpList_copy_rowS rfl _ _ _ _ rfl 5 Tryz.underlying36 size_u8 (w.heap.size + 1 + 1) 2 62 62 rfl k rfl _ _ kb (by omega) (by simp only [List.size_toArray, List.length_map]; rw [pad64_length (by simp)]; omega) ?_
        have HC2 := hide (pad64_cells (bs := [UInt8.ofNat st.toNat, UInt8.ofNat k.size]) (cs := k.data.toList) (n := 2) rfl (by rw [HKL.out]; simp; omega))
        rw [HKL.out] at HC2
        rw [HC2.out]
        have kB4 : Blk (W.setRow (w.heap.size + 1 + 1) ((pad64 ([UInt8.ofNat st.toNat, UInt8.ofNat k.size] ++ k.data.toList)).map byteV).toArray) (w.heap.size + 1 + 1) 191 ((pad64 ([UInt8.ofNat st.toNat, UInt8.ofNat k.size] ++ k.data.toList)).map byteV).toArray := setRow_heap W (w.heap.size + 1 + 1) _ _ _ _ kb
        have tT := touch_setRow W (w.heap.size + 1 + 1) ((pad64 ([UInt8.ofNat st.toNat, UInt8.ofNat k.size] ++ k.data.toList)).map byteV).toArray
        generalize W.setRow (w.heap.size + 1 + 1) ((pad64 ([UInt8.ofNat st.toNat, UInt8.ofNat k.size] ++ k.data.toList)).map byteV).toArray = W4 at *
        have kI4 := tT.blk (Blk.via hbW HKI.out) (by omega)
        have kR4 := tT.blk (Blk.via hbW HKR.out) (by omega)
        have hb4 : Below w.heap.size w W4 := tT.below (below_via hb3 hbW hb3.size) (by omega)
        have hz4 := hb4.size
        clear tT kb hA e0 e2 HKB HKI HKR
        have HKB := hide kB4
        have HKI := hide kI4
        have HKR := hide kR4
        clear kB4 kI4 kR4 HC2
        generalize f (0 + 1) = v23
        clear hbW hb3
        go_frame
        go_upto_region 7 with (fail)
        have HP := hide (fun W (hb : Below w.heap.size w W) => cellPut_any d A n c B W (Nat.le_trans hB hb.size) HN.out ((by obtain ⟨A', n', c', e, _, _, _, _, hr⟩ := HA.out.below hb hB; injection e with e1 e2 e3; subst e1 e2; exact hr)))
        refine wp_region_inv_tail 8 [fun v _ => v = .pointer (some ⟨w.heap.size, 1, none⟩), fun v _ => v = .string k, fun v _ => v = .int .i64 (k.size : Nat), fun v _ => v = .int .i64 (2 + (k.size : Nat)),
          fun v _ => ∃ m : Nat, m + (2 + k.size) = 64 ∧ v = .slice (some ⟨w.heap.size + 1 + 1, 2 + k.size, none⟩) m m, fun v _ => v = .pointer (some ⟨w.heap.size, 2, none⟩), fun v _ => v = .agg #[.int .i64 d.kind, .slice A n c, .int .i64 d.lo, .int .i64 d.hi, .int .i64 d.val],
          fun v W => ∃ A' c', v = .slice A' (cellB d).length c' ∧ Reads W W.heap.size 1 A' (cellB d).length ((cellB d).map byteV)] (by kernel_rfl) (by kernel_rfl) (by kernel_rfl) (by kernel_rfl) (by kernel_rfl) (by simp) (by kernel_rfl) ?st2 ?steps2 ?fin2
        case st2 =>
          intro i v W W' hb h
          match i with
          | 0 => exact h
          | 1 => exact h
          | 2 => exact h
          | 3 => exact h
          | 4 => exact h
          | 5 => exact h
          | 6 => exact h
          | 7 =>
            obtain ⟨A', c', e, hr⟩ := h
            exact ⟨A', c', e, (hr.below hb (Nat.le_refl _)).more hb.size⟩
          | (i + 8) => exact h
        case steps2 =>
          simp only [stepsT, List.take_succ_cons, List.take_zero]
          refine ⟨?_, ?_, ?_, ?_, ?_, ?_, ?_, ?_, trivial⟩
          · intro f W hbW hdp
            simp only [fillF, Act.put, List.setIfInBounds_toArray, List.set_cons_succ, List.set_cons_zero]
            go_wp2
            exact ⟨rfl, _, rfl, rfl, Below.refl _ _⟩
          · intro f W hbW hdp
            have q1 := (Blk.via hbW HKI.out).cell 1
            have e1 : f 0 = .pointer (some ⟨w.heap.size, 1, none⟩) := hdp ⟨0, .data⟩ (mfl (by simp) rfl)
            simp only [fillF, Act.put, List.setIfInBounds_toArray, List.set_cons_succ, List.set_cons_zero, e1]
            go_wp2
            exact ⟨rfl, _, rfl, rfl, Below.refl _ _⟩
          · intro f W hbW hdp
            have e1 : f 1 = .string k := hdp ⟨1, .data⟩ (mfl (by simp) rfl)
            simp only [fS, Nat.reduceAdd, e1]
            go_wp2
            exact ⟨rfl, _, rfl, rfl, Below.refl _ _⟩
          · intro f W hbW hdp
            have e1 : f 2 = .int .i64 (k.size : Nat) := hdp ⟨2, .data⟩ (mfl (by simp) rfl)
            simp only [fS, Nat.reduceAdd, e1]
            go_wp2
            exact ⟨rfl, _, rfl, rfl, Below.refl _ _⟩
          · intro f W hbW hdp
            obtain ⟨j, hj⟩ : ∃ j : Nat, j = 2 + k.size := ⟨_, rfl⟩
            have e1 : f 3 = .int .i64 (j : Nat) := by
              have h : f 3 = .int .i64 (2 + (k.size : Nat)) := hdp ⟨3, .data⟩ (mfl (by simp) rfl)
              rw [h, hj, Int.natCast_add]
              rfl
            have HJ := hide hj
            have b1 : (0 : Int) ≤ j := by omega
            have b2 : (j : Int) ≤ 64 := by omega
            have b3 : j ≤ 64 := by omega
            have b4 : ¬ 64 = j := by omega
            clear hj
            simp only [fS, Nat.reduceAdd, e1]
            go_wp2
            have hj := HJ.out
            subst hj
            exact ⟨rfl, _, rfl, ⟨64 - (2 + k.size), by omega, rfl⟩, Below.refl _ _⟩
          · intro f W hbW hdp
            simp only [fillF, Act.put, List.setIfInBounds_toArray, List.set_cons_succ, List.set_cons_zero]
            go_wp2
            exact ⟨rfl, _, rfl, rfl, Below.refl _ _⟩
          · intro f W hbW hdp
            have kI5 := Blk.via hbW HKI.out
            have q2 := kI5.cell 2
            have q3 := kI5.cell 3
            have q4 := kI5.cell 4
            have q5 := kI5.cell 5
            have q6 := kI5.cell 6
            have e1 : f 5 = .pointer (some ⟨w.heap.size, 2, none⟩) := hdp ⟨5, .data⟩ (mfl (by simp) rfl)
            simp only [fS, Nat.reduceAdd, e1]
            go_wp2
            exact ⟨rfl, _, rfl, rfl, Below.refl _ _⟩
          · intro f W hbW hdp
            have e1 : f 6 = .agg #[.int .i64 d.kind, .slice A n c, .int .i64 d.lo, .int .i64 d.hi, .int .i64 d.val] := hdp ⟨6, .data⟩ (mfl (by simp) rfl)
            simp only [fS, Nat.reduceAdd, e1]
            go_wp2_with fail
            refine (HP.out _ (below_via hb4 hbW hb4.size)).mono ?_
            rintro e W6 ⟨A6, c6, rfl, _, _, hr6, hb6⟩
            have HR6 := hide hr6
            clear hr6
            go_wp2_with fail
            exact ⟨rfl, _, rfl, ⟨A6, c6, rfl, HR6.out⟩, hb6⟩
        case fin2 =>
          intro f W hbW hA
          obtain ⟨m, hm, e4⟩ : ∃ m : Nat, m + (2 + k.size) = 64 ∧ f 4 = .slice (some ⟨w.heap.size + 1 + 1, 2 + k.size, none⟩) m m := hA 4 (by omega)
          obtain ⟨A', c', e7, hr7⟩ : ∃ A' c', f 7 = .slice A' (cellB d).length c' ∧ Reads W W.heap.size 1 A' (cellB d).length ((cellB d).map byteV) := hA 7 (by omega)
          obtain ⟨ad, rfl, _, hrd⟩ := hr7.2 hpos
          simp only [List.drop_succ_cons, List.drop_zero, fillF, List.take_succ_cons, List.take_zero, Act.put, List.setIfInBounds_toArray, List.set_cons_succ, List.set_cons_zero, Nat.reduceAdd, e4, e7]
          have kb := Blk.via hbW HKB.out
          have hmin : Nat.min (cellB d).length m = (cellB d).length := Nat.min_eq_left (by omega)
          refine wpList_copy_blk rfl _ _ _ _ rfl 5 1 Tryz.underlying36 size_u8 (w.heap.size + 1 + 1) (2 + k.size) 191 _ ((cellB d).map byteV) m m (cellB d).length c' ad rfl rfl kb (by rw [List.length_map, hmin, Nat.mul_one]) hrd (by rw [List.length_map, List.length_map, pad64_length (by simp [HKL.out]; omega)]; omega) (bytes_one _) ?_
          intro v' W5 hk5 ht5
          have hsp : (spl ((pad64 ([UInt8.ofNat st.toNat, UInt8.ofNat k.size] ++ k.data.toList)).map byteV) (2 + k.size) ((cellB d).map byteV)).toArray = ((pad64 ([UInt8.ofNat st.toNat, UInt8.ofNat k.size] ++ k.data.toList ++ cellB d)).map byteV).toArray := by
            rw [← pad64_cells (n := 2 + k.size) (by simp [HKL.out]; omega) (by simp [HKL.out]; omega)]
            unfold spl
            rw [List.length_map, List.append_assoc]
            rfl
          rw [hsp] at hk5
          have HKB := hide hk5
          have HKR := hide (ht5.blk (Blk.via hbW HKR.out) (by omega))
          have hb5 : Below w.heap.size w W5 := ht5.below (below_via hb4 hbW hb4.size) (by omega)
          generalize f 0 = u0
          generalize f 1 = u1
          generalize f 2 = u2
          generalize f 3 = u3
          generalize f 5 = u5
          generalize f 6 = u6
          clear hk5 ht5 kb hA e4 e7 hrd hr7 hbW hb4 hsp
          go_frame
          have HI := hide (row64_info ([UInt8.ofNat st.toNat, UInt8.ofNat k.size] ++ k.data.toList ++ cellB d) (by simp [HKL.out]; omega))
          have H1 := hide (row_one (pad64 ([UInt8.ofNat st.toNat, UInt8.ofNat k.size] ++ k.data.toList ++ cellB d)))
          have HO := hide (show ((pad64 []).map byteV).toArray.size = ((pad64 ([UInt8.ofNat st.toNat, UInt8.ofNat k.size] ++ k.data.toList ++ cellB d)).map byteV).toArray.size by (simp only [List.size_toArray, List.length_map]) <;> exact (pad64_length (bs := []) (by simp)).trans (pad64_length (by simp [HKL.out]; omega)).symm)
          generalize hX : ((pad64 ([UInt8.ofNat st.toNat, UInt8.ofNat k.size] ++ k.data.toList ++ cellB d)).map byteV).toArray = X at *
          have HX := hide hX
          clear hX
          have hK2 : Blk (W5.setRow (w.heap.size + 1) X) (w.heap.size + 1) 191 X := setRow_heap W5 (w.heap.size + 1) _ _ _ _ HKR.out
          have hb2 : Below w.heap.size w (W5.setRow (w.heap.size + 1) X) := (touch_setRow W5 (w.heap.size + 1) _).below hb5 (by omega)
          have HK2 := hide hK2
          clear hK2
          go_wp2_with (first
            | (refine wpList_load_row rfl 191 (.tmp 3) rfl (w.heap.size + 1 + 1) rfl 191 X (0, 0) _ HKB.out Tryz.underlying191 rfl HI.out ?_)
            | (refine wpList_store_row rfl 191 (.tmp 2) (.tmp 35) rfl (w.heap.size + 1) X rfl rfl 191 _ HKR.out HI.out HO.out H1.out ?_))
          exact bodyPost_ret (results_cell_row Tryz.results122 _ _ (w.heap.size + 1) 191 X (0, 0) _ rfl HK2.out Tryz.underlying191 rfl HI.out) rfl ⟨by rw [HIB.out, HX.out], hb2⟩
  · have HIB := hide (show itemB st k d = [] by unfold itemB; rw [if_neg (fun h => h.1 (by simpa using h0))])
    go_upto_region 3 with (fail)
    have HI := hide (row64_info [] (by simp))
    have H1 := hide (row_one (pad64 []))
    have HO := hide (show ((pad64 []).map byteV).toArray.size = ((pad64 []).map byteV).toArray.size by (simp only [List.size_toArray, List.length_map]) <;> exact (pad64_length (bs := []) (by simp)).trans (pad64_length (by simp)).symm)
    generalize hX : ((pad64 []).map byteV).toArray = X at *
    have HX := hide hX
    clear hX
    have hK2 : Blk (W1.setRow (w.heap.size + 1) X) (w.heap.size + 1) 191 X := setRow_heap W1 (w.heap.size + 1) _ _ _ _ HKR.out
    have hb2 : Below w.heap.size w (W1.setRow (w.heap.size + 1) X) := (touch_setRow W1 (w.heap.size + 1) _).below hb1 (by omega)
    have HK2 := hide hK2
    clear hK2
    go_wp2_with (first
      | (refine wpList_load_row rfl 191 (.tmp 3) rfl (w.heap.size + 1 + 1) rfl 191 X (0, 0) _ HKB.out Tryz.underlying191 rfl HI.out ?_)
      | (refine wpList_store_row rfl 191 (.tmp 2) (.tmp 12) rfl (w.heap.size + 1) X rfl rfl 191 _ HKR.out HI.out HO.out H1.out ?_))
    exact bodyPost_ret (results_cell_row Tryz.results122 _ _ (w.heap.size + 1) 191 X (0, 0) _ rfl HK2.out Tryz.underlying191 rfl HI.out) rfl ⟨by rw [HIB.out, HX.out], hb2⟩
end Go.Proofs.YtceocfeckipihaaGreatDoor
namespace Go.Proofs.YtceocfeckipihaaGreatDoor
open Go.RowKit
theorem own_via {w w' : World} {base n size : Nat} {t : TypeId} {v : Value} {xs : List Value} (h : w.ownsRow base t size v n xs) (hb : Below w.heap.size w w') : w'.ownsRow base t size v n xs := row_keep h fun q hq => hb.block q (World.ownsRow.lt h q hq).2
end Go.Proofs.YtceocfeckipihaaGreatDoor
namespace Go.Proofs.YtceocfeckipihaaGreatDoor
open Go.RowKit
theorem own_far {W : World} {base n size : Nat} {t : TypeId} {v : Value} {xs : List Value} (h : W.ownsRow base t size v n xs) {p : Addr} (hp : ∀ q, v.ownBlock = some q → q ≠ p.block) (u : Value) : (W.setCell p u).ownsRow base t size v n xs := row_keep h fun q hq => Below.heap_setCell W p u q (hp q hq)
end Go.Proofs.YtceocfeckipihaaGreatDoor
namespace Go.Proofs.YtceocfeckipihaaGreatDoor
open Go.RowKit
structure Turn (S : Nat → Prop) (w w' : World) : Prop where
  os : w'.os = w.os
  tape : w'.tape = w.tape
  output : w'.output = w.output
  size : w.heap.size ≤ w'.heap.size
  block : ∀ k, k < w.heap.size → ¬ S k → w'.heap[k]? = w.heap[k]?
theorem Turn.of_below {S : Nat → Prop} {w w' : World} (h : Below w.heap.size w w') : Turn S w w' := ⟨h.os, h.tape, h.output, h.size, fun k hk _ => h.block k hk⟩
theorem Turn.trans {S : Nat → Prop} {a b c : World} (h : Turn S a b) (k : Turn S b c) : Turn S a c := ⟨k.os.trans h.os, k.tape.trans h.tape, k.output.trans h.output, Nat.le_trans h.size k.size, fun i hi hn => (k.block i (Nat.lt_of_lt_of_le hi h.size) hn).trans (h.block i hi hn)⟩
theorem Turn.set {S : Nat → Prop} {a w : World} (h : Turn S a w) {p : Addr} (hp : S p.block ∨ a.heap.size ≤ p.block) (u : Value) : Turn S a (w.setCell p u) :=
  ⟨h.os, h.tape, h.output, by simpa [World.setCell] using h.size, fun k hk hn => (Below.heap_setCell w p u k (fun e => by
    rcases hp with hp | hp
    · exact hn (e ▸ hp)
    · omega)).trans (h.block k hk hn)⟩
end Go.Proofs.YtceocfeckipihaaGreatDoor
namespace Go.Proofs.YtceocfeckipihaaGreatDoor
open Go.RowKit
theorem results_row_2 {fn : Func} {p t2 t3 : Tmp} {ty : TypeId} (h : fn.results = #[.cell p ty, .tmp t2, .tmp t3]) (tmps : Array Value) (w : World) (g : Nat) (cs : Array Value)
    (hp : tmps.getD p undef = .pointer (some ⟨g, 0, none⟩)) (hl : (loadVar ty ⟨g, 0, none⟩).run Tryz.prog w = .ok (.agg cs) w) :
    (results fn tmps).run Tryz.prog w = .ok (.tuple #[.agg cs, tmps.getD t2 undef, tmps.getD t3 undef]) w := by
  have hp' : tmps[p]?.getD undef = .pointer (some ⟨g, 0, none⟩) := by simpa using hp
  simp [results, h, hp', asAddr, hl]
end Go.Proofs.YtceocfeckipihaaGreatDoor
namespace Go.Proofs.YtceocfeckipihaaGreatDoor
open Go.RowKit
theorem numI_one (bs : List UInt8) (i : Nat) (x : UInt8) (h : bs[i]? = some x) : numI (cutB bs i 1) = (x.toNat : Nat) := by
  have h1 : cutB bs i 1 = [x] := by
    have := cutB_succ (bs := bs) (at_ := i) (k := 0) (by simpa using h)
    rw [this]
    simp [cutB]
  have hx := x.toNat_lt
  rw [h1]
  unfold numI
  rw [show numB [x] = x.toNat by simp [numB]]
  unfold wrap64
  omega
def cellG (bs : List UInt8) : Option CellD :=
  if (bs.getD 0 0).toNat = 1 then (if (bs.getD 1 0).toNat ≤ 32 then some ⟨1, cutB bs 2 (bs.getD 1 0).toNat, 0, 0, 0⟩ else none)
  else if (bs.getD 0 0).toNat = 2 then (if numI (cutB bs 1 8) ≤ numI (cutB bs 17 8) ∧ numI (cutB bs 17 8) ≤ numI (cutB bs 9 8) then some ⟨2, [], numI (cutB bs 1 8), numI (cutB bs 9 8), numI (cutB bs 17 8)⟩ else none)
  else none
def CellGP (w : World) (o : Option CellD) (e : Ending) (w' : World) : Prop :=
  ((o = none ∧ ∃ sz er, e = .returned (.tuple #[.agg #[.int .i64 0, .slice none 0 0, .int .i64 0, .int .i64 0, .int .i64 0], .int .i64 sz, .int .i64 er]) ∧ er ≠ 0) ∨ (∃ d A n c sz, o = some d ∧ e = .returned (.tuple #[.agg #[.int .i64 d.kind, .slice A n c, .int .i64 d.lo, .int .i64 d.hi, .int .i64 d.val], .int .i64 sz, .int .i64 0]) ∧ BytesAt w' w'.heap.size (.slice A n c) d.data)) ∧ Below w.heap.size w w'
theorem info_cellK : (Tryz.prog.info? 46).map (·.size) = some 5 := by kernel_rfl
theorem cellGet_any (A : Option Addr) (n c : Nat) (bs : List UInt8) (B : Nat) (w : World) (hB : B ≤ w.heap.size) (hm : 46 ≤ n) (hm2 : n ≤ 64) (hnc : n ≤ c) (hn : n = bs.length) (hr : Reads w B 1 A n (bs.map byteV)) :
    Calls Tryz.prog 120 #[.slice A n c] w (CellGP w (cellG bs)) := by
  have HNUM := hide (fun (at_ width : Nat) (W : World) (h1 : 1 ≤ width) (h8 : width ≤ 8) (hin : at_ + width ≤ n) (hb : Below w.heap.size w W) => num_any A n c bs at_ width B W (by omega) hnc hn (hr.below hb hB) h1 h8 hin)
  have HRD := hide (fun (W : World) (hb : Below w.heap.size w W) => hr.below hb hB)
  have HN := hide hn
  obtain ⟨b, o, rfl, hbB, _⟩ := hr.plain (by omega) (by omega)
  clear hr
  obtain ⟨x0, hx0⟩ : ∃ x, bs[0]? = some x := ⟨_, List.getElem?_eq_getElem (by omega)⟩
  obtain ⟨x1, hx1⟩ : ∃ x, bs[1]? = some x := ⟨_, List.getElem?_eq_getElem (by omega)⟩
  have H0 := hide (numI_one bs 0 x0 hx0)
  have H1 := hide (numI_one bs 1 x1 hx1)
  have HG := hide (show cellG bs = (if x0.toNat = 1 then (if x1.toNat ≤ 32 then some ⟨1, cutB bs 2 x1.toNat, 0, 0, 0⟩ else none)
    else if x0.toNat = 2 then (if numI (cutB bs 1 8) ≤ numI (cutB bs 17 8) ∧ numI (cutB bs 17 8) ≤ numI (cutB bs 9 8) then some ⟨2, [], numI (cutB bs 1 8), numI (cutB bs 9 8), numI (cutB bs 17 8)⟩ else none) else none) by
    unfold cellG
    rw [show bs.getD 0 0 = x0 by rw [List.getD_eq_getElem?_getD, hx0]; rfl, show bs.getD 1 0 = x1 by rw [List.getD_eq_getElem?_getD, hx1]; rfl])
  have hxl0 := x0.toNat_lt
  have hxl1 := x1.toNat_lt
  generalize x0.toNat = k0 at *
  generalize x1.toNat = k1 at *
  clear hn hx0 hx1
  go_enter Tryz.func120, Tryz.ntmps120
  go_upto_region 1 with (fail)
  refine gen1 (R := fun W => Code.wp _ _ _ _ W) (fun W1 kb hb1 hz1 => ?_)
  have HB1 := hide hb1
  have HKB := hide kb
  clear kb hb1
  have HC0 := hide (HNUM.out 0 1 W1 (by omega) (by omega) (by omega) HB1.out)
  rw [H0.out] at HC0
  go_upto_region 5 with (go_at_call 56; refine HC0.out.mono ?_; rintro e w' ⟨rfl, hw'⟩; obtain rfl := hw'.symm)
  refine gen1 (R := fun W => Code.wp _ _ _ _ W) (fun W2 kc hb2 hz2 => ?_)
  have HL2 := hide (HB1.out.trans (hb2.mono HB1.out.size))
  have HKB2 := hide (Blk.via hb2 HKB.out)
  have HKC := hide kc
  have hzz := HB1.out.size
  clear kc hb2
  by_cases hk1 : k0 = 1
  · subst hk1
    have HC1 := hide (HNUM.out 1 1 W2 (by omega) (by omega) (by omega) HL2.out)
    rw [H1.out] at HC1
    by_cases hsz : (n : Int) < 2 + (k1 : Int)
    · have HNO := hide (show cellG bs = none by rw [HG.out, if_pos rfl, if_neg (by omega)])
      have c20 := (HKB2.out).cell 0
      have c21 := (HKB2.out).cell 1
      have c22 := (HKB2.out).cell 2
      have c23 := (HKB2.out).cell 3
      have c24 := (HKB2.out).cell 4
      have f20 := (HKB2.out).frozen 0
      have f21 := (HKB2.out).frozen 1
      have f22 := (HKB2.out).frozen 2
      have f23 := (HKB2.out).frozen 3
      have f24 := (HKB2.out).frozen 4
      have l20 := (HKB2.out).lt
      go_wp2_with (go_at_call 56; refine HC1.out.mono ?_; rintro e w' ⟨rfl, hw'⟩; obtain rfl := hw'.symm)
      refine bodyPost_ret (results_row_2 Tryz.results120 _ _ w.heap.size #[.int .i64 0, .slice none 0 0, .int .i64 0, .int .i64 0, .int .i64 0] rfl (run_loadVar_row _ _ _ _ #[.int .i64 0, .slice none 0 0, .int .i64 0, .int .i64 0, .int .i64 0] (0, 0) _ (((((Blk.set_ HKB2.out 0 _).set_ 1 _).set_ 2 _).set_ 3 _).set_ 4 _) Tryz.underlying46 rfl info_cellK)) rfl ⟨?_, (((((Below.setCell HL2.out (p := ⟨w.heap.size, 0, none⟩) (Nat.le_refl _) _).setCell (p := ⟨w.heap.size, 1, none⟩) (Nat.le_refl _) _).setCell (p := ⟨w.heap.size, 2, none⟩) (Nat.le_refl _) _).setCell (p := ⟨w.heap.size, 3, none⟩) (Nat.le_refl _) _).setCell (p := ⟨w.heap.size, 4, none⟩) (Nat.le_refl _) _)⟩
      exact .inl ⟨HNO.out, _, _, rfl, by omega⟩
    · have hszn : 2 + k1 ≤ n := by omega
      go_upto_region 12 with (go_at_call 56; refine HC1.out.mono ?_; rintro e w' ⟨rfl, hw'⟩; obtain rfl := hw'.symm)
      obtain ⟨i0, hi, hz0, hz1', hz2'⟩ := info_parts info_u8R
      have hcut : ((bs.map byteV).drop (2 * 1)).take (k1 * 1) = (cutB bs 2 k1).map byteV := by
        unfold cutB
        rw [Nat.mul_one, Nat.mul_one, List.map_take, List.map_drop]
      have hclen : (cutB bs 2 k1).length = k1 := by
        unfold cutB
        rw [List.length_take, List.length_drop, ← HN.out]
        omega
      have hrd : Reads W2 B 1 (some ⟨b, o + 2, none⟩) k1 ((cutB bs 2 k1).map byteV) := by
        have h := ((HRD.out W2 HL2.out).cut (k := 2) (cap := c) (by omega) hnc).take (k := k1) (by omega)
        rw [if_neg (by omega), Option.map_some, add_plain, hcut] at h
        exact h
      have g1 : (2 : Int) + k1 ≤ c := by omega
      have g2 : (2 : Int) ≤ 2 + k1 := by omega
      have g3 : ¬ (c = 2) := by omega
      have HRDX := hide hrd
      have HCLEN := hide hclen
      clear hrd hcut hclen
      go_wp2_with (at_builtin; refine heldG ?_)
      refine unheldG ?_
      at_builtin
      rw [show 2 + k1 - 2 = k1 by omega]
      refine wpList_append_any _ rfl _ _ _ rfl W2.heap.size 5 i0 _ 1 1 Tryz.underlying36 hi hz0 hz1' hz2' rfl (by omega) (.slice none 0 0) 0 [] rfl (World.ownsRow_nil _ _ _ _) B (some ⟨b, o + 2, none⟩) k1 (c - 2) ((cutB bs 2 k1).map byteV) rfl HRDX.out (bytes_one _) (by unfold maxLen; omega) (by omega) (Nat.le_refl _) ?_
      intro v3 w3 hown hg _
      simp only [Nat.zero_add, List.nil_append] at hown
      obtain ⟨A3, c3, rfl, hnc3, hcm3, hnil3, _⟩ := own_slice hown
      have hb3 : Below W2.heap.size W2 w3 := (Below.refl _ _).grown hg (Nat.le_refl _) (fun q hq => by cases hq)
      have kc3 := Blk.via hb3 HKC.out
      have e1 := kc3.cell 1
      have f1 := kc3.frozen 1
      have l1 := kc3.lt
      have HKC3 := hide kc3
      have HB3 := hide hb3
      have HOW := hide hown
      clear hown hg hb3 kc3
      go_upto_region 20 with (fail)
      refine nameW (w := World.setCell _ _ _) (R := fun W => Code.wp _ _ _ _ W) (fun W4 hW4 => ?_)
      have kc4 : Blk W4 W1.heap.size 46 #[.int .i64 1, .slice A3 k1 c3, .int .i64 0, .int .i64 0, .int .i64 0] := hW4 ▸ HKC3.out.set_ 1 _
      have kb4 : Blk W4 w.heap.size 46 #[.int .i64 0, .slice none 0 0, .int .i64 0, .int .i64 0, .int .i64 0] := hW4 ▸ (Blk.via HB3.out HKB2.out).far (by simp; omega) _
      have hl3 : Below w.heap.size w w3 := HL2.out.trans (HB3.out.mono HL2.out.size)
      have hl4 : Below w.heap.size w W4 := hW4 ▸ hl3.setCell (p := ⟨W1.heap.size, 1, none⟩) (by simp; omega) _
      have ho4 : W4.ownsRow W2.heap.size 5 1 (.slice A3 k1 c3) k1 ((cutB bs 2 k1).map byteV) := hW4 ▸ row_keep HOW.out (fun q hq => Below.heap_setCell _ _ _ _ (by
        have := (World.ownsRow.lt HOW.out q hq).1
        have := HKC.out.lt
        simp; omega))
      have hz24 : w.heap.size < W2.heap.size := by omega
      have HKC4 := hide kc4
      have HKB4 := hide kb4
      have HL4 := hide hl4
      have HO4 := hide ho4
      clear hW4 kc4 kb4 hl3 hl4 ho4 e1 f1 l1
      have HCK := hide (cellCheck_any ⟨1, cutB bs 2 k1, 0, 0, 0⟩ A3 k1 c3 W4 HCLEN.out.symm)
      have z0 := HKC4.out.cell 0
      have z1 := HKC4.out.cell 1
      have z2 := HKC4.out.cell 2
      have z3 := HKC4.out.cell 3
      have z4 := HKC4.out.cell 4
      by_cases hok : k1 ≤ 32
      · have HE := hide (show cellE ⟨1, cutB bs 2 k1, 0, 0, 0⟩ = 0 from by unfold cellE rightC; rw [if_pos (by simp [HCLEN.out]; omega)])
        have HGG := hide (show cellG bs = some ⟨1, cutB bs 2 k1, 0, 0, 0⟩ from by rw [HG.out, if_pos (by trivial), if_pos hok])
        rw [HE.out] at HCK
        clear hok
        go_upto_region 22 with (go_at_call 157; refine HCK.out.mono ?_; rintro e W5 ⟨rfl, hb5⟩; have HB5 := hide hb5; clear hb5)
        have kc5 := Blk.via HB5.out HKC4.out
        have kb5 := Blk.via HB5.out HKB4.out
        have y0 := kc5.cell 0
        have y1 := kc5.cell 1
        have y2 := kc5.cell 2
        have y3 := kc5.cell 3
        have y4 := kc5.cell 4
        have HKB5 := hide kb5
        have hl5 : Below w.heap.size w W5 := HL4.out.trans (HB5.out.mono HL4.out.size)
        have HL5 := hide hl5
        clear kc5 kb5 hl5
        have c20 := (HKB5.out).cell 0
        have c21 := (HKB5.out).cell 1
        have c22 := (HKB5.out).cell 2
        have c23 := (HKB5.out).cell 3
        have c24 := (HKB5.out).cell 4
        have f20 := (HKB5.out).frozen 0
        have f21 := (HKB5.out).frozen 1
        have f22 := (HKB5.out).frozen 2
        have f23 := (HKB5.out).frozen 3
        have f24 := (HKB5.out).frozen 4
        have l20 := (HKB5.out).lt
        go_wp2_with fail
        refine bodyPost_ret (results_row_2 Tryz.results120 _ _ w.heap.size #[.int .i64 (⟨1, cutB bs 2 k1, 0, 0, 0⟩ : CellD).kind, .slice A3 k1 c3, .int .i64 (⟨1, cutB bs 2 k1, 0, 0, 0⟩ : CellD).lo, .int .i64 (⟨1, cutB bs 2 k1, 0, 0, 0⟩ : CellD).hi, .int .i64 (⟨1, cutB bs 2 k1, 0, 0, 0⟩ : CellD).val] rfl (run_loadVar_row _ _ _ _ #[.int .i64 (⟨1, cutB bs 2 k1, 0, 0, 0⟩ : CellD).kind, .slice A3 k1 c3, .int .i64 (⟨1, cutB bs 2 k1, 0, 0, 0⟩ : CellD).lo, .int .i64 (⟨1, cutB bs 2 k1, 0, 0, 0⟩ : CellD).hi, .int .i64 (⟨1, cutB bs 2 k1, 0, 0, 0⟩ : CellD).val] (0, 0) _ (((((Blk.set_ HKB5.out 0 _).set_ 1 _).set_ 2 _).set_ 3 _).set_ 4 _) Tryz.underlying46 rfl info_cellK)) rfl ⟨?_, (((((Below.setCell HL5.out (p := ⟨w.heap.size, 0, none⟩) (Nat.le_refl _) _).setCell (p := ⟨w.heap.size, 1, none⟩) (Nat.le_refl _) _).setCell (p := ⟨w.heap.size, 2, none⟩) (Nat.le_refl _) _).setCell (p := ⟨w.heap.size, 3, none⟩) (Nat.le_refl _) _).setCell (p := ⟨w.heap.size, 4, none⟩) (Nat.le_refl _) _)⟩
        refine .inr ⟨_, A3, k1, c3, _, HGG.out, rfl, ?_⟩
        have ho5 := own_via HO4.out HB5.out
        have hne5 : ∀ q, (Value.slice A3 k1 c3).ownBlock = some q → q ≠ w.heap.size := fun q hq => by have := (World.ownsRow.lt HO4.out q hq).1; omega
        exact BytesAt.of_own (own_far (p := ⟨w.heap.size, 4, none⟩) (own_far (p := ⟨w.heap.size, 3, none⟩) (own_far (p := ⟨w.heap.size, 2, none⟩) (own_far (p := ⟨w.heap.size, 1, none⟩) (own_far (p := ⟨w.heap.size, 0, none⟩) ho5 hne5 _) hne5 _) hne5 _) hne5 _) hne5 _)
      · have HE := hide (show cellE ⟨1, cutB bs 2 k1, 0, 0, 0⟩ = 1 from by unfold cellE rightC; rw [if_neg (by simp [HCLEN.out]; omega)])
        have HGG := hide (show cellG bs = none from by rw [HG.out, if_pos (by trivial), if_neg hok])
        rw [HE.out] at HCK
        clear hok
        go_upto_region 21 with (go_at_call 157; refine HCK.out.mono ?_; rintro e W5 ⟨rfl, hb5⟩; have HB5 := hide hb5; clear hb5)
        have kb5 := Blk.via HB5.out HKB4.out
        have HKB5 := hide kb5
        have hl5 : Below w.heap.size w W5 := HL4.out.trans (HB5.out.mono HL4.out.size)
        have HL5 := hide hl5
        clear kb5 hl5
        have c20 := (HKB5.out).cell 0
        have c21 := (HKB5.out).cell 1
        have c22 := (HKB5.out).cell 2
        have c23 := (HKB5.out).cell 3
        have c24 := (HKB5.out).cell 4
        have f20 := (HKB5.out).frozen 0
        have f21 := (HKB5.out).frozen 1
        have f22 := (HKB5.out).frozen 2
        have f23 := (HKB5.out).frozen 3
        have f24 := (HKB5.out).frozen 4
        have l20 := (HKB5.out).lt
        go_wp2_with fail
        refine bodyPost_ret (results_row_2 Tryz.results120 _ _ w.heap.size #[.int .i64 0, .slice none 0 0, .int .i64 0, .int .i64 0, .int .i64 0] rfl (run_loadVar_row _ _ _ _ #[.int .i64 0, .slice none 0 0, .int .i64 0, .int .i64 0, .int .i64 0] (0, 0) _ (((((Blk.set_ HKB5.out 0 _).set_ 1 _).set_ 2 _).set_ 3 _).set_ 4 _) Tryz.underlying46 rfl info_cellK)) rfl ⟨?_, (((((Below.setCell HL5.out (p := ⟨w.heap.size, 0, none⟩) (Nat.le_refl _) _).setCell (p := ⟨w.heap.size, 1, none⟩) (Nat.le_refl _) _).setCell (p := ⟨w.heap.size, 2, none⟩) (Nat.le_refl _) _).setCell (p := ⟨w.heap.size, 3, none⟩) (Nat.le_refl _) _).setCell (p := ⟨w.heap.size, 4, none⟩) (Nat.le_refl _) _)⟩
        exact .inl ⟨HGG.out, _, _, rfl, by omega⟩
  · by_cases hk2 : k0 = 2
    · subst hk2
      obtain ⟨lo, hlo⟩ : ∃ lo, lo = numI (cutB bs 1 8) := ⟨_, rfl⟩
      obtain ⟨hi, hhi⟩ : ∃ hi, hi = numI (cutB bs 9 8) := ⟨_, rfl⟩
      obtain ⟨va, hva⟩ : ∃ va, va = numI (cutB bs 17 8) := ⟨_, rfl⟩
      have HG2 := HG.out
      rw [← hlo, ← hhi, ← hva] at HG2
      have HG := hide HG2
      have hz1c := HKC.out.lt
      have n1 := fun (W : World) (hb : Below w.heap.size w W) => HNUM.out 1 8 W (by omega) (by omega) (by omega) hb
      have n2 := fun (W : World) (hb : Below w.heap.size w W) => HNUM.out 9 8 W (by omega) (by omega) (by omega) hb
      have n3 := fun (W : World) (hb : Below w.heap.size w W) => HNUM.out 17 8 W (by omega) (by omega) (by omega) hb
      rw [← hlo] at n1
      rw [← hhi] at n2
      rw [← hva] at n3
      have HN1 := hide n1
      have HN2 := hide n2
      have HN3 := hide n3
      clear HG2 n1 n2 n3 hlo hhi hva
      have hw1 : w.heap.size ≤ W1.heap.size := hzz
      have y2 := HKC.out.cell 2
      have y3 := HKC.out.cell 3
      have y4 := HKC.out.cell 4
      have p2 := HKC.out.frozen 2
      have p3 := HKC.out.frozen 3
      have p4 := HKC.out.frozen 4
      go_upto_region 18 with (go_at_call 56; refine (HN1.out _ HL2.out).mono ?_; rintro e w' ⟨rfl, hw'⟩; obtain rfl := hw'.symm)
      go_upto_region 19 with (go_at_call 56; refine (HN2.out _ (HL2.out.setCell (p := ⟨W1.heap.size, 2, none⟩) hw1 _)).mono ?_; rintro e w' ⟨rfl, hw'⟩; obtain rfl := hw'.symm)
      go_upto_region 20 with (go_at_call 56; refine (HN3.out _ ((HL2.out.setCell (p := ⟨W1.heap.size, 2, none⟩) hw1 _).setCell (p := ⟨W1.heap.size, 3, none⟩) hw1 _)).mono ?_; rintro e w' ⟨rfl, hw'⟩; obtain rfl := hw'.symm)
      refine nameW (w := World.setCell _ _ _) (R := fun W => Code.wp _ _ _ _ W) (fun W4 hW4 => ?_)
      have kc4 : Blk W4 W1.heap.size 46 #[.int .i64 2, .slice none 0 0, .int .i64 lo, .int .i64 hi, .int .i64 va] := hW4 ▸ (((HKC.out.set_ 2 _).set_ 3 _).set_ 4 _)
      have kb4 : Blk W4 w.heap.size 46 #[.int .i64 0, .slice none 0 0, .int .i64 0, .int .i64 0, .int .i64 0] := hW4 ▸ (((HKB2.out.far (by simp; omega) _).far (by simp; omega) _).far (by simp; omega) _)
      have hl4 : Below w.heap.size w W4 := hW4 ▸ (((HL2.out.setCell (p := ⟨W1.heap.size, 2, none⟩) hw1 _).setCell (p := ⟨W1.heap.size, 3, none⟩) hw1 _).setCell (p := ⟨W1.heap.size, 4, none⟩) hw1 _)
      have ho4 : W4.ownsRow W2.heap.size 5 1 (.slice none 0 0) 0 (([] : List UInt8).map byteV) := World.ownsRow_nil _ _ _ _
      have hz24 : w.heap.size < W2.heap.size := by omega
      have HKC4 := hide kc4
      have HKB4 := hide kb4
      have HL4 := hide hl4
      have HO4 := hide ho4
      clear hW4 kc4 kb4 hl4 ho4 y2 y3 y4 p2 p3 p4
      have HCK := hide (cellCheck_any ⟨2, [], lo, hi, va⟩ none 0 0 W4 rfl)
      have z0 := HKC4.out.cell 0
      have z1 := HKC4.out.cell 1
      have z2 := HKC4.out.cell 2
      have z3 := HKC4.out.cell 3
      have z4 := HKC4.out.cell 4
      by_cases hok : lo ≤ va ∧ va ≤ hi
      · have HE := hide (show cellE ⟨2, [], lo, hi, va⟩ = 0 from by unfold cellE rightC; rw [if_pos (by simpa using hok)])
        have HGG := hide (show cellG bs = some ⟨2, [], lo, hi, va⟩ from by rw [HG.out, if_neg (by decide), if_pos (by trivial), if_pos hok])
        rw [HE.out] at HCK
        clear hok
        go_upto_region 22 with (go_at_call 157; refine HCK.out.mono ?_; rintro e W5 ⟨rfl, hb5⟩; have HB5 := hide hb5; clear hb5)
        have kc5 := Blk.via HB5.out HKC4.out
        have kb5 := Blk.via HB5.out HKB4.out
        have y0 := kc5.cell 0
        have y1 := kc5.cell 1
        have y2 := kc5.cell 2
        have y3 := kc5.cell 3
        have y4 := kc5.cell 4
        have HKB5 := hide kb5
        have hl5 : Below w.heap.size w W5 := HL4.out.trans (HB5.out.mono HL4.out.size)
        have HL5 := hide hl5
        clear kc5 kb5 hl5
        have c20 := (HKB5.out).cell 0
        have c21 := (HKB5.out).cell 1
        have c22 := (HKB5.out).cell 2
        have c23 := (HKB5.out).cell 3
        have c24 := (HKB5.out).cell 4
        have f20 := (HKB5.out).frozen 0
        have f21 := (HKB5.out).frozen 1
        have f22 := (HKB5.out).frozen 2
        have f23 := (HKB5.out).frozen 3
        have f24 := (HKB5.out).frozen 4
        have l20 := (HKB5.out).lt
        go_wp2_with fail
        refine bodyPost_ret (results_row_2 Tryz.results120 _ _ w.heap.size #[.int .i64 (⟨2, [], lo, hi, va⟩ : CellD).kind, .slice none 0 0, .int .i64 (⟨2, [], lo, hi, va⟩ : CellD).lo, .int .i64 (⟨2, [], lo, hi, va⟩ : CellD).hi, .int .i64 (⟨2, [], lo, hi, va⟩ : CellD).val] rfl (run_loadVar_row _ _ _ _ #[.int .i64 (⟨2, [], lo, hi, va⟩ : CellD).kind, .slice none 0 0, .int .i64 (⟨2, [], lo, hi, va⟩ : CellD).lo, .int .i64 (⟨2, [], lo, hi, va⟩ : CellD).hi, .int .i64 (⟨2, [], lo, hi, va⟩ : CellD).val] (0, 0) _ (((((Blk.set_ HKB5.out 0 _).set_ 1 _).set_ 2 _).set_ 3 _).set_ 4 _) Tryz.underlying46 rfl info_cellK)) rfl ⟨?_, (((((Below.setCell HL5.out (p := ⟨w.heap.size, 0, none⟩) (Nat.le_refl _) _).setCell (p := ⟨w.heap.size, 1, none⟩) (Nat.le_refl _) _).setCell (p := ⟨w.heap.size, 2, none⟩) (Nat.le_refl _) _).setCell (p := ⟨w.heap.size, 3, none⟩) (Nat.le_refl _) _).setCell (p := ⟨w.heap.size, 4, none⟩) (Nat.le_refl _) _)⟩
        refine .inr ⟨_, none, 0, 0, _, HGG.out, rfl, ?_⟩
        have ho5 := own_via HO4.out HB5.out
        have hne5 : ∀ q, (Value.slice none 0 0).ownBlock = some q → q ≠ w.heap.size := fun q hq => by have := (World.ownsRow.lt HO4.out q hq).1; omega
        exact BytesAt.of_own (own_far (p := ⟨w.heap.size, 4, none⟩) (own_far (p := ⟨w.heap.size, 3, none⟩) (own_far (p := ⟨w.heap.size, 2, none⟩) (own_far (p := ⟨w.heap.size, 1, none⟩) (own_far (p := ⟨w.heap.size, 0, none⟩) ho5 hne5 _) hne5 _) hne5 _) hne5 _) hne5 _)
      · have HE := hide (show cellE ⟨2, [], lo, hi, va⟩ = 1 from by unfold cellE rightC; rw [if_neg (by simpa using hok)])
        have HGG := hide (show cellG bs = none from by rw [HG.out, if_neg (by decide), if_pos (by trivial), if_neg hok])
        rw [HE.out] at HCK
        clear hok
        go_upto_region 21 with (go_at_call 157; refine HCK.out.mono ?_; rintro e W5 ⟨rfl, hb5⟩; have HB5 := hide hb5; clear hb5)
        have kb5 := Blk.via HB5.out HKB4.out
        have HKB5 := hide kb5
        have hl5 : Below w.heap.size w W5 := HL4.out.trans (HB5.out.mono HL4.out.size)
        have HL5 := hide hl5
        clear kb5 hl5
        have c20 := (HKB5.out).cell 0
        have c21 := (HKB5.out).cell 1
        have c22 := (HKB5.out).cell 2
        have c23 := (HKB5.out).cell 3
        have c24 := (HKB5.out).cell 4
        have f20 := (HKB5.out).frozen 0
        have f21 := (HKB5.out).frozen 1
        have f22 := (HKB5.out).frozen 2
        have f23 := (HKB5.out).frozen 3
        have f24 := (HKB5.out).frozen 4
        have l20 := (HKB5.out).lt
        go_wp2_with fail
        refine bodyPost_ret (results_row_2 Tryz.results120 _ _ w.heap.size #[.int .i64 0, .slice none 0 0, .int .i64 0, .int .i64 0, .int .i64 0] rfl (run_loadVar_row _ _ _ _ #[.int .i64 0, .slice none 0 0, .int .i64 0, .int .i64 0, .int .i64 0] (0, 0) _ (((((Blk.set_ HKB5.out 0 _).set_ 1 _).set_ 2 _).set_ 3 _).set_ 4 _) Tryz.underlying46 rfl info_cellK)) rfl ⟨?_, (((((Below.setCell HL5.out (p := ⟨w.heap.size, 0, none⟩) (Nat.le_refl _) _).setCell (p := ⟨w.heap.size, 1, none⟩) (Nat.le_refl _) _).setCell (p := ⟨w.heap.size, 2, none⟩) (Nat.le_refl _) _).setCell (p := ⟨w.heap.size, 3, none⟩) (Nat.le_refl _) _).setCell (p := ⟨w.heap.size, 4, none⟩) (Nat.le_refl _) _)⟩
        exact .inl ⟨HGG.out, _, _, rfl, by omega⟩
    · have b1 : (((k0 : Nat) : Int) == 1) = false := by rw [beq_eq_false_iff_ne]; omega
      have b2 : (((k0 : Nat) : Int) == 2) = false := by rw [beq_eq_false_iff_ne]; omega
      have HRC := hide (show rightC ⟨(k0 : Nat), [], 0, 0, 0⟩ = false by
        unfold rightC
        rw [if_neg (by simp; omega)]
        simp
        omega)
      have HNN := hide (show cellG bs = none by rw [HG.out, if_neg hk1, if_neg hk2])
      have HKC4 := HKC
      have HKB4 := HKB2
      have HL4 := HL2
      have HCK := hide (cellCheck_any ⟨(k0 : Nat), [], 0, 0, 0⟩ none 0 0 W2 rfl)
      clear hk1 hk2
      go_upto_region 20 with (fail)
      have z0 := HKC4.out.cell 0
      have z1 := HKC4.out.cell 1
      have z2 := HKC4.out.cell 2
      have z3 := HKC4.out.cell 3
      have z4 := HKC4.out.cell 4
      have HE := hide (show cellE ⟨(k0 : Nat), [], 0, 0, 0⟩ = 1 from by unfold cellE; rw [HRC.out]; rfl)
      have HGG := hide (show cellG bs = none from HNN.out)
      rw [HE.out] at HCK
      go_upto_region 21 with (go_at_call 157; refine HCK.out.mono ?_; rintro e W5 ⟨rfl, hb5⟩; have HB5 := hide hb5; clear hb5)
      have kb5 := Blk.via HB5.out HKB4.out
      have HKB5 := hide kb5
      have hl5 : Below w.heap.size w W5 := HL4.out.trans (HB5.out.mono HL4.out.size)
      have HL5 := hide hl5
      clear kb5 hl5
      have c20 := (HKB5.out).cell 0
      have c21 := (HKB5.out).cell 1
      have c22 := (HKB5.out).cell 2
      have c23 := (HKB5.out).cell 3
      have c24 := (HKB5.out).cell 4
      have f20 := (HKB5.out).frozen 0
      have f21 := (HKB5.out).frozen 1
      have f22 := (HKB5.out).frozen 2
      have f23 := (HKB5.out).frozen 3
      have f24 := (HKB5.out).frozen 4
      have l20 := (HKB5.out).lt
      go_wp2_with fail
      refine bodyPost_ret (results_row_2 Tryz.results120 _ _ w.heap.size #[.int .i64 0, .slice none 0 0, .int .i64 0, .int .i64 0, .int .i64 0] rfl (run_loadVar_row _ _ _ _ #[.int .i64 0, .slice none 0 0, .int .i64 0, .int .i64 0, .int .i64 0] (0, 0) _ (((((Blk.set_ HKB5.out 0 _).set_ 1 _).set_ 2 _).set_ 3 _).set_ 4 _) Tryz.underlying46 rfl info_cellK)) rfl ⟨?_, (((((Below.setCell HL5.out (p := ⟨w.heap.size, 0, none⟩) (Nat.le_refl _) _).setCell (p := ⟨w.heap.size, 1, none⟩) (Nat.le_refl _) _).setCell (p := ⟨w.heap.size, 2, none⟩) (Nat.le_refl _) _).setCell (p := ⟨w.heap.size, 3, none⟩) (Nat.le_refl _) _).setCell (p := ⟨w.heap.size, 4, none⟩) (Nat.le_refl _) _)⟩
      exact .inl ⟨HGG.out, _, _, rfl, by omega⟩
end Go.Proofs.YtceocfeckipihaaGreatDoor
namespace Go.Proofs.YtceocfeckipihaaGreatDoor
open Go.RowKit
structure ItemD where
  st : Int
  key : ByteArray
  cell : CellD
def item0 : ItemD := ⟨0, ⟨#[]⟩, ⟨0, [], 0, 0, 0⟩⟩
def slotS (bs : List UInt8) : Nat := (bs.getD 0 0).toNat
def slotN (bs : List UInt8) : Nat := (bs.getD 1 0).toNat
def slotK (bs : List UInt8) : ByteArray := ⟨(cutB bs 2 (slotN bs)).toArray⟩
def slotOk (bs : List UInt8) (d : CellD) : Prop := rightI (slotS bs) (slotK bs) d = true ∧ pad64 (itemB (slotS bs) (slotK bs) d) = bs
instance (bs : List UInt8) (d : CellD) : Decidable (slotOk bs d) := inferInstanceAs (Decidable (_ ∧ _))
def slotD (bs : List UInt8) : Option CellD → Option ItemD
  | none => none
  | some d => if slotOk bs d then some ⟨slotS bs, slotK bs, d⟩ else none
def slotG (bs : List UInt8) : Option ItemD :=
  if bs = List.replicate 64 0 then some item0 else if 16 < slotN bs then none else slotD bs (cellG (bs.drop (2 + slotN bs)))
def slotB (bs : List UInt8) (i : Nat) : List UInt8 := cutB bs (32 + 64 * i) 64
theorem slotB_length {bs : List UInt8} (hl : bs.length = 512) {i : Nat} (hi : i < 7) : (slotB bs i).length = 64 := by
  unfold slotB cutB
  rw [List.length_take, List.length_drop]
  omega
def slotsOk (bs : List UInt8) : Nat → Bool
  | 0 => true
  | i + 1 => slotsOk bs i && (slotG (slotB bs i)).isSome
theorem slotsOk_iff {bs : List UInt8} (n : Nat) : slotsOk bs n = true ↔ ∀ i, i < n → (slotG (slotB bs i)).isSome = true := by
  induction n with
  | zero => simp [slotsOk]
  | succ n ih =>
    simp only [slotsOk, Bool.and_eq_true, ih]
    constructor
    · rintro ⟨h1, h2⟩ i hi
      rcases Nat.lt_or_ge i n with h | h
      · exact h1 i h
      · obtain rfl : i = n := by omega
        exact h2
    · intro h
      exact ⟨fun i hi => h i (by omega), h n (by omega)⟩
theorem slotsOk_no {bs : List UInt8} {i n : Nat} (hi : i < n) (h : slotG (slotB bs i) = none) : slotsOk bs n = false := by
  cases hs : slotsOk bs n with
  | false => rfl
  | true => have := (slotsOk_iff n).1 hs i hi; rw [h] at this; cases this
def rightP (bs : List UInt8) (no : Int) : Bool :=
  (numI (cutB bs 0 4) == ((moreD 0 (bs.drop 4) : Nat) : Int)) && ((numI (cutB bs 12 2) == no) && ((cutB bs 24 8 == List.replicate 8 0) && ((bs.drop 480 == List.replicate 32 0) && slotsOk bs 7)))
end Go.Proofs.YtceocfeckipihaaGreatDoor
namespace Go.Proofs.YtceocfeckipihaaGreatDoor
open Go.RowKit
theorem bytes_at {bs : List UInt8} {i : Nat} (h : i < bs.length) : ((bs.map byteV).toArray)[i]? = some (.int .u8 (((bs.getD i 0).toNat : Nat) : Int)) := by
  rw [List.getElem?_toArray, List.getElem?_map, List.getElem?_eq_getElem h, List.getD_eq_getElem?_getD, List.getElem?_eq_getElem h]
  rfl
theorem run_eqItemsB {P : Program} (w : World) (d : Nat) (e : TypeId) (he : P.underlying e = some (.int .u8)) (xs bs : List UInt8) (hl : xs.length = bs.length) : ∀ is : List Nat, (∀ i ∈ is, i < xs.length) →
    (Op.eqItems (d + 1) e 1 (xs.map byteV).toArray (bs.map byteV).toArray is).run P w = .ok (is.all fun i => xs.getD i 0 == bs.getD i 0) w
  | [], _ => by simp [Op.eqItems]
  | i :: is, h => by
    have hi : i < xs.length := h i List.mem_cons_self
    have hp : P.plainKey e = true := by simp [Program.plainKey, he]
    have ih := run_eqItemsB w d e he xs bs hl is (fun j hj => h j (List.mem_cons_of_mem _ hj))
    have hx : (((xs.getD i 0).toNat : Int) == ((bs.getD i 0).toNat : Int)) = (xs.getD i 0 == bs.getD i 0) := by
      rw [Bool.eq_iff_iff, beq_iff_eq, beq_iff_eq]
      constructor
      · intro h
        exact UInt8.toNat_inj.1 (by omega)
      · intro h
        rw [h]
    unfold Op.eqItems
    rw [Nat.mul_one]
    simp only [Sem.run_bind, run_part_plain w hp (bytes_at hi), run_part_plain w hp (bytes_at (hl ▸ hi)), Result.andThen_ok, run_equalIn_int w d e .u8 .u8 _ _ he, List.all_cons, hx]
    cases hb : (xs.getD i 0 == bs.getD i 0)
    · simp
    · simpa using ih
theorem all_getD {xs bs : List UInt8} {n : Nat} (ha : xs.length = n) (hb : bs.length = n) : ((List.range n).all fun i => xs.getD i 0 == bs.getD i 0) = (xs == bs) := by
  rw [Bool.eq_iff_iff, List.all_eq_true, beq_iff_eq]
  constructor
  · intro h
    refine List.ext_getElem (by omega) (fun i h1 h2 => ?_)
    have := h i (List.mem_range.2 (by omega))
    rw [beq_iff_eq, List.getD_eq_getElem?_getD, List.getD_eq_getElem?_getD, List.getElem?_eq_getElem h1, List.getElem?_eq_getElem h2] at this
    exact this
  · rintro rfl i _
    simp
theorem info_u8X : (Tryz.prog.info? 5).map (·.size) = some 1 := by kernel_rfl
theorem run_eqB (t : TypeId) (n d : Nat) (ht : Tryz.prog.underlying t = some (.array n 5)) (xs bs : List UInt8) (ha : xs.length = n) (hb : bs.length = n) (w : World) :
    (Op.equalIn (d + 2) t (.agg (xs.map byteV).toArray) (.agg (bs.map byteV).toArray)).run Tryz.prog w = .ok (xs == bs) w := by
  obtain ⟨i, hi, hs⟩ := Option.map_eq_some_iff.1 info_u8X
  rw [run_equalIn_array w (d + 1) _ _ ht hi]
  have hc : Tryz.prog.cellsOf 5 = 1 := by rw [Program.cellsOf, hi]; exact hs
  rw [hc, run_eqItemsB w d 5 Tryz.underlying5 xs bs (by omega) _ (fun i hi => by have := List.mem_range.1 hi; omega), all_getD ha hb]
theorem itemB_le (st : Int) (k : ByteArray) (d : CellD) : (itemB st k d).length ≤ 64 := by
  unfold itemB
  split
  · rename_i hh
    have h2 := hh.2
    unfold rightI at h2
    rw [if_neg hh.1] at h2
    simp only [Bool.and_eq_true] at h2
    have h3 := h2.2.1
    unfold goodKey at h3
    simp only [Bool.and_eq_true, decide_eq_true_eq] at h3
    have h4 := cellB_le34 h2.2.2
    have h5 : k.data.toList.length = k.size := by rw [Array.length_toList]; rfl
    simp only [List.length_append, List.length_cons, List.length_nil]
    omega
  · simp
theorem wpList_load_rowG {P : Program} {ops : Array Oper} {rest : List Oper} {o : Oper} {a : Act} {w : World} {Q : Exit → Act → World → Prop} (hw : Region.wanted o (yielded ops a.tmps) = true) (ty : TypeId) (x : Operand) (ho : o.op = .load ty x)
    (g : Nat) (hx : a.eval x = .pointer (some ⟨g, 0, none⟩)) (t : TypeId) (cs : Array Value) (fr : Nat × Nat) (d : TypeDesc) (hg : w.heap[g]? = some (.cells cs t fr)) (hu : P.underlying ty = some d) (hd : (match d with | .struct _ | .array _ _ => true | _ => false) = true) (hi : (P.info? ty).map (·.size) = some cs.size)
    (h : wpList P ops Q rest (a.put o.dst (.agg cs)) w) : wpList P ops Q (o :: rest) a w := by
  unfold wpList
  rw [if_pos hw]
  exact .inl (wp_load_row ty x ho g hx t cs fr d hg hu hd hi h)
def isU8 : Value → Bool
  | .int .u8 _ => true
  | _ => false
theorem not_u8 {cs : Array Value} (h : cs.toList.all (fun v => !isU8 v) = true) (i : Nat) (x : UInt8) : cs[i]? ≠ some (byteV x) := by
  intro hi
  rw [List.all_eq_true] at h
  have := h _ (Array.mem_toList_iff.2 (Array.mem_of_getElem? hi))
  simp [isU8, byteV] at this
theorem BytesAt.setOther {w : World} {B : Nat} {v : Value} {bs : List UInt8} (h : BytesAt w B v bs) {g : Nat} {t : TypeId} {cs : Array Value} (k : Blk w g t cs) (hc : cs.toList.all (fun v => !isU8 v) = true) (i : Nat) (u : Value) : BytesAt (w.setCell ⟨g, i, none⟩ u) B v bs := by
  obtain ⟨A, n, c, rfl, h2, h3, h4, h5, h6, h7⟩ := h
  refine ⟨A, n, c, rfl, h2, h3, h4, h5, h6, fun hn => ?_⟩
  obtain ⟨ad, rfl, hb, hcell⟩ := h7 hn
  refine ⟨ad, rfl, hb, fun j u' hu => ?_⟩
  have h1 := hcell j u' hu
  rw [List.getElem?_map] at hu
  obtain ⟨x, hx, rfl⟩ := Option.map_eq_some_iff.1 hu
  refine (World.cell?_setCell_other w _ _ _ ?_).trans h1
  intro e
  rw [← e, k.cell] at h1
  exact not_u8 hc i x h1
end Go.Proofs.YtceocfeckipihaaGreatDoor
namespace Go.Proofs.YtceocfeckipihaaGreatDoor
open Go.RowKit
structure RowV where
  v : Value
  xs : List OpV
def RowV.cells (r : RowV) : List Value := [r.v]
theorem RowV.cells_length (r : RowV) : r.cells.length = 1 := rfl
def OpRows (w : World) (B : Nat) (v : Value) (rs : List RowV) : Prop := SliceAt w B 1 v rs.length (rs.flatMap RowV.cells) ∧ ∀ r ∈ rs, Ops w B r.v r.xs
def callD (p n : Int) : Int := p + 5 + 2 * (if n < 0 then 0 else n)
def conf5 (a p f c l : Int) : Array Value := #[.int .i64 a, .int .i64 p, .int .i64 f, .int .i64 c, .int .i64 l]
theorem info_conf5 : (Tryz.prog.info? 23).map (·.size) = some 5 := by kernel_rfl
theorem call_any (a p f c l n : Int) (hp0 : 0 ≤ p) (hp : p ≤ 1099511627776) (hn : n ≤ 1099511627776) (w : World) : Calls Tryz.prog 8 #[.agg (conf5 a p f c l), .int .i64 n] w fun e w' => e = .returned (.int .i64 (callD p n)) ∧ Below w.heap.size w w' := by
  unfold conf5
  by_cases h : n < 0
  · have HC := hide (show callD p n = p + 5 by unfold callD; rw [if_pos h]; omega)
    have h2 : ¬ 0 < n := by omega
    go_enter Tryz.func8, Tryz.ntmps8
    go_wp2
    go_ret
    exact ⟨by rw [HC.out]; rfl, (Below.refl _ _).alloc (Nat.le_refl _) _⟩
  · have HC := hide (show callD p n = p + 5 + 2 * n by unfold callD; rw [if_neg h])
    by_cases h3 : n = 0
    · subst h3
      have HC := hide (show callD p 0 = p + 5 by rw [HC.out]; omega)
      go_enter Tryz.func8, Tryz.ntmps8
      go_wp2
      go_ret
      exact ⟨by rw [HC.out]; rfl, (Below.refl _ _).alloc (Nat.le_refl _) _⟩
    · have h2 : 0 < n := by omega
      go_enter Tryz.func8, Tryz.ntmps8
      go_wp2
      go_ret
      exact ⟨by rw [HC.out]; rfl, (Below.refl _ _).alloc (Nat.le_refl _) _⟩
theorem callR_any (a p f c l n : Int) (hp0 : 0 ≤ p) (hp : p ≤ 1099511627776) (hn : n ≤ 1099511627776) (w : World) : Calls Tryz.prog 9 #[.agg (conf5 a p f c l), .int .i64 n] w fun e w' => e = .returned (.int .i64 (callD p n)) ∧ Below w.heap.size w w' := by
  unfold conf5
  by_cases h : n < 0
  · have HC := hide (show callD p n = p + 5 by unfold callD; rw [if_pos h]; omega)
    go_enter Tryz.func9, Tryz.ntmps9
    go_wp2
    go_ret
    exact ⟨by rw [HC.out]; rfl, (Below.refl _ _).alloc (Nat.le_refl _) _⟩
  · have HC := hide (show callD p n = p + 5 + n + n by unfold callD; rw [if_neg h]; omega)
    have h2 : 0 ≤ n := by omega
    go_enter Tryz.func9, Tryz.ntmps9
    go_wp2
    go_ret
    exact ⟨by rw [HC.out]; rfl, (Below.refl _ _).alloc (Nat.le_refl _) _⟩
theorem callD_bound {p n : Int} (h0 : 0 ≤ p) (h : p ≤ 1099511627776) (hn : n ≤ 30) : 0 ≤ callD p n ∧ callD p n ≤ 1099511627841 := by
  unfold callD
  by_cases hz : n < 0
  · rw [if_pos hz]; omega
  · rw [if_neg hz]; omega
def rowS (p : Int) : Nat → Int
  | 0 => 0
  | k + 1 => rowS p k + callD p k
def totS (p : Int) : List RowV → Int
  | [] => 0
  | r :: l => rowS p r.xs.length + totS p l
theorem totS_snoc (p : Int) (r : RowV) : ∀ a : List RowV, totS p (a ++ [r]) = totS p a + rowS p r.xs.length
  | [] => by simp [totS]
  | b :: a => by
    have := totS_snoc p r a
    simp only [totS, List.cons_append, this]
    omega
theorem totS_take {p : Int} {rs : List RowV} {k : Nat} {r : RowV} (h : rs[k]? = some r) : totS p (rs.take (k + 1)) = totS p (rs.take k) + rowS p r.xs.length := by
  obtain ⟨l1, e1⟩ := List.getElem?_eq_some_iff.1 h
  rw [List.take_succ_eq_append_getElem l1, e1, totS_snoc]
def Much37P (rs : List RowV) (w : World) (e : Ending) (w' : World) : Prop := ∃ b, e = .returned (.bool b) ∧ (b = false → rs.length ≤ 16 ∧ ∀ r ∈ rs, r.xs.length ≤ 30) ∧ w' = w
theorem much37_any (v : Value) (rs : List RowV) (B : Nat) (w : World) (h : OpRows w B v rs) : Calls Tryz.prog 4 #[v] w (Much37P rs w) := by
  have HSA := hide h.1
  have HD := hide h.2
  obtain ⟨A, c, hpv, hc, hm, hnil, _⟩ := h.1
  subst hpv
  obtain ⟨m, hm'⟩ : ∃ m, m = rs.length := ⟨_, rfl⟩
  have HML := hide hm'
  rw [← hm']
  unfold maxLen at hm
  have hmm : (m : Int) ≤ 9223372036854775807 := by omega
  clear h hm' hc hm hnil
  go_enter Tryz.func4, Tryz.ntmps4
  go_wp2
  go_loopw [3] (fun iv wr => ∃ k : Nat, k ≤ m ∧ k ≤ 20 ∧ iv = .int .i64 k ∧ Hid (∀ r ∈ rs.take k, r.xs.length ≤ 30) ∧ wr = w) (fun iv _ => m - (intOf iv).toNat)
  case atStart => exact ⟨0, Nat.zero_le _, by omega, rfl, hide (by simp), rfl⟩
  case round =>
    obtain ⟨k, hk, hk20, rfl, HT, rfl⟩ := hrel
    by_cases hlt : (k : Int) < m
    · by_cases h20 : (k : Int) < 20
      · have hlt' : k < rs.length := by have := HML.out; omega
        obtain ⟨b, o, c', r, e0, hb, hx, _, _, hcell⟩ := SliceAt.at_ RowV.cells_length (by omega) HSA.out hlt'
        injection e0 with e1 e2 e3
        subst e1 e3
        have HR := hide (HD.out r (List.mem_of_getElem? hx))
        obtain ⟨Ar, cr, hrv, _, hrm, _, _⟩ := HR.out.1
        have HM := hide (refMuch_any _ _ _ _ HR.out)
        rw [hrv] at HM
        obtain ⟨q, hq⟩ : ∃ q, q = r.xs.length := ⟨_, rfl⟩
        have HQ := hide hq
        have c0 : wr.cell? ⟨b, o + k, none⟩ = some (.slice Ar q cr) := by
          have := hcell 0 _ rfl
          rw [hrv] at this
          rw [hq]
          simpa using this
        rw [← hq] at HM
        have HX := hide hx
        have u0 : (0 : Int) ≤ k := by omega
        have u1 : (k : Int) < m := by omega
        clear hx hcell hrv hq
        go_wp2_with fail
        refine HM.out.mono ?_
        rintro e w' ⟨⟨b, rfl⟩, hw'⟩
        obtain rfl := hw'.symm
        cases b with
        | true =>
          go_wp2
          go_ret
          exact ⟨_, rfl, by simp, rfl⟩
        | false =>
          by_cases h30 : (30 : Int) < q
          · go_wp2
            go_ret
            exact ⟨_, rfl, by simp, rfl⟩
          · have HT2 := hide (show ∀ r ∈ rs.take (k + 1), r.xs.length ≤ 30 by
              obtain ⟨l1, e1⟩ := List.getElem?_eq_some_iff.1 HX.out
              rw [List.take_succ_eq_append_getElem l1, e1]
              intro y hy
              rcases List.mem_append.1 hy with hy | hy
              · exact HT.out y hy
              · rw [List.mem_singleton] at hy
                subst hy
                have := HQ.out
                omega)
            have hk1 : k + 1 ≤ 20 := by omega
            clear HT
            go_wp2
            go_roundw
            case rel => exact ⟨k + 1, by omega, hk1, by go_num, HT2, by trivial⟩
            case measure => simp [intOf] <;> omega
      · have hm16 : (16 : Int) < m := by omega
        go_wp2
        go_ret
        exact ⟨_, rfl, by simp, rfl⟩
    · have HA := hide (show ∀ r ∈ rs, r.xs.length ≤ 30 by
        have h1 := HT.out
        rw [List.take_of_length_le (by have := HML.out; omega)] at h1
        exact h1)
      by_cases hm16 : (16 : Int) < m
      · go_wp2
        go_ret
        exact ⟨_, rfl, by simp, rfl⟩
      · have HM16 := hide (show rs.length ≤ 16 by have := HML.out; omega)
        go_wp2
        go_ret
        exact ⟨_, rfl, fun _ => ⟨HM16.out, HA.out⟩, rfl⟩
end Go.Proofs.YtceocfeckipihaaGreatDoor
