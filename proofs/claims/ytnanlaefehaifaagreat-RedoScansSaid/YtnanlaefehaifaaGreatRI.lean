/-
  DRAWN REGIONS, OPERATION BY OPERATION: each slot under an assertion that outlives whatever the others do. One walk for each operation serves every order; a callee may hand out memory of its own.
-/
import Derived.Test.YtnanlaefehaifaaGreatMem
import Derived.StillTail
namespace Go.Proofs.YtnanlaefehaifaaGreat
open Go.RowKit

theorem wp_strict {P : Program} {o : Oper} {a : Act} {w : World} {K K' : Act → World → Prop} {Q Q2 : Exit → Act → World → Prop} (hQ : ∀ x a w, Q2 x a w → x = .normal) (hK : ∀ a w, K a w → K' a w) (h : o.wp P a w K Q2) : o.wp P a w K' Q := by
  unfold Oper.wp at *
  generalize (execOp a.eval o).run P w = r at *
  cases r with
  | ok n w' =>
    cases n <;> simp only [Oper.upon] at h ⊢
    case enter f args =>
      refine Calls.mono h (fun e w'' he => ?_)
      cases e with
      | returned v => exact hK _ _ he
      | panicked c => exact absurd (hQ _ _ _ he) (by simp)
      | outgrown =>
        obtain ⟨a', w', he⟩ := he
        exact absurd (hQ _ _ _ he) (by simp)
    case row r args => exact Rows.mono h fun _ _ he => hK _ _ he
    all_goals exact hK _ _ h
  | halt x w' =>
    cases x <;> simp only [Oper.upon] at h ⊢
    case panic v => exact absurd (hQ _ _ _ h) (by simp)
/-- The slots of a region's operations hold f. -/
def fillF : List Oper → (Nat → Value) → Nat → Act → Act
  | [], _, _, a => a
  | o :: r, f, k, a => fillF r f (k + 1) (a.put o.dst (f k))
/-- No two operations write one slot; each waits for earlier ones alone. -/
def distB : List Oper → Bool
  | [] => true
  | o :: r => r.all (fun p => p.dst == none || p.dst != o.dst) && distB r
def aftB : List Oper → Nat → Bool
  | [], _ => true
  | o :: r, k => o.after.all (fun e => decide (e.on < k)) && aftB r (k + 1)
theorem put_put (a : Act) (x : Option Tmp) (u v : Value) : (a.put x u).put x v = a.put x v := by
  cases x with
  | none => rfl
  | some d => simp [Act.put]
theorem fill_comm {x : Option Tmp} {v : Value} : ∀ (l : List Oper) (f : Nat → Value) (k : Nat) (a : Act), (∀ p ∈ l, p.dst = none ∨ p.dst ≠ x) → (fillF l f k a).put x v = fillF l f k (a.put x v)
  | [], _, _, _, _ => rfl
  | o :: r, f, k, a, h => by
    unfold fillF
    rw [fill_comm r f (k + 1) _ (fun p hp => h p (List.mem_cons_of_mem _ hp))]
    congr 1
    rcases h o List.mem_cons_self with h1 | h1
    · rw [h1]; rfl
    · exact Act.put_comm a _ _ (fun d hd he => h1 (hd.trans he.symm))
theorem fill_congr : ∀ (l : List Oper) (f g : Nat → Value) (k : Nat) (a : Act), (∀ j, k ≤ j → f j = g j) → fillF l f k a = fillF l g k a
  | [], _, _, _, _, _ => rfl
  | o :: r, f, g, k, a, h => by
    unfold fillF
    rw [h k (Nat.le_refl _)]
    exact fill_congr r f g (k + 1) _ (fun j hj => h j (by omega))
theorem fill_put {v : Value} {o : Oper} : ∀ (l : List Oper) (f : Nat → Value) (k i : Nat) (a : Act), distB l = true → l[i]? = some o → (fillF l f k a).put o.dst v = fillF l (fun j => if j = k + i then v else f j) k a
  | [], _, _, _, _, _, h => by simp at h
  | p :: r, f, k, i, a, hd, h => by
    simp only [distB, Bool.and_eq_true, List.all_eq_true, Bool.or_eq_true, beq_iff_eq, bne_iff_ne] at hd
    cases i with
    | zero =>
      obtain rfl : p = o := by simpa using h
      unfold fillF
      rw [fill_comm r f (k + 1) _ hd.1, put_put]
      simp only [Nat.add_zero, if_true]
      exact fill_congr r _ _ (k + 1) _ (fun j hj => by simp only [if_neg (show ¬ j = k by omega)])
    | succ i =>
      have h' : r[i]? = some o := by simpa using h
      unfold fillF
      rw [fill_put r f (k + 1) i _ hd.2 h']
      simp only [if_neg (show ¬ k = k + (i + 1) by omega)]
      refine fill_congr r _ _ (k + 1) _ (fun j _ => ?_)
      simp only [show (k + 1 + i) = k + (i + 1) by omega]
theorem fill_self : ∀ (l : List Oper) (k : Nat) (a : Act), ∃ f, fillF l f k a = a
  | [], _, _ => ⟨fun _ => undef, rfl⟩
  | o :: r, k, a => by
    obtain ⟨f, hf⟩ := fill_self r (k + 1) a
    have hp : a.put o.dst (match o.dst with | some d => a.tmps.getD d undef | none => undef) = a := by
      cases o.dst with
      | none => rfl
      | some d =>
        simp only [Act.put]
        have : a.tmps.setIfInBounds d (a.tmps.getD d undef) = a.tmps := by
          refine Array.ext (by simp) (fun i h1 h2 => ?_)
          rw [Array.getElem_setIfInBounds]
          split
          · rename_i e
            subst e
            simp [Array.getD, h2]
          · rfl
        rw [this]
    refine ⟨fun j => if j = k then (match o.dst with | some d => a.tmps.getD d undef | none => undef) else f j, ?_⟩
    unfold fillF
    simp only [if_true]
    rw [hp, fill_congr r _ f (k + 1) a (fun j hj => by simp only [if_neg (show ¬ j = k by omega)]), hf]
/-- The assertion of slot i. -/
def atI (As : List (Value → World → Prop)) (i : Nat) (v : Value) (W : World) : Prop := match As[i]? with | some p => p v W | none => True
/-- What an operation waits for. -/
def depsI (As : List (Value → World → Prop)) (f : Nat → Value) (W : World) (l : List Edge) : Prop := ∀ e ∈ l, atI As e.on (f e.on) W
/-- An operation is done: its slot holds what it promises. -/
def DoneI (a : Act) (d : Option Tmp) (p : Value → World → Prop) (W : World) (x : Exit) (a'' : Act) (W'' : World) : Prop := x = .normal ∧ ∃ v, a'' = a.put d v ∧ p v W'' ∧ Below W.heap.size W W''
/-- One operation gives what its slot promises. -/
def stepI (P : Program) (ops : List Oper) (As : List (Value → World → Prop)) (a : Act) (w : World) (k : Nat) (o : Oper) : Prop :=
  ∀ f W, Below w.heap.size w W → depsI As f W (o.after.toList.filter (fun e => Region.binds .any e)) → wpList P ops.toArray (DoneI (fillF ops f 0 a) o.dst (atI As k) W) [o] (fillF ops f 0 a) W
def stepsI (P : Program) (ops : List Oper) (As : List (Value → World → Prop)) (a : Act) (w : World) : List Oper → Nat → Prop
  | [], _ => True
  | o :: r, k => stepI P ops As a w k o ∧ stepsI P ops As a w r (k + 1)
theorem steps_at {P : Program} {ops : List Oper} {As : List (Value → World → Prop)} {a : Act} {w : World} : ∀ (l : List Oper) (k i : Nat) (o : Oper), stepsI P ops As a w l k → l[i]? = some o → stepI P ops As a w (k + i) o
  | [], _, _, _, _, h => by simp at h
  | p :: r, k, i, o, hs, h => by
    cases i with
    | zero =>
      obtain rfl : p = o := by simpa using h
      exact hs.1
    | succ i =>
      have := steps_at r (k + 1) i o hs.2 (by simpa using h)
      rwa [show k + 1 + i = k + (i + 1) by omega] at this
theorem aft_at : ∀ (l : List Oper) (k i : Nat) (o : Oper), aftB l k = true → l[i]? = some o → ∀ e ∈ o.after, e.on < k + i
  | [], _, _, _, _, h => by simp at h
  | p :: r, k, i, o, hs, h => by
    simp only [aftB, Bool.and_eq_true, Array.all_eq_true_iff_forall_mem, decide_eq_true_eq] at hs
    cases i with
    | zero =>
      obtain rfl : p = o := by simpa using h
      exact hs.1
    | succ i =>
      have := aft_at r (k + 1) i o hs.2 (by simpa using h)
      rwa [show k + 1 + i = k + (i + 1) by omega] at this
theorem wpAny_inv {P : Program} {Q : Exit → Act → World → Prop} {a : Act} {w : World} {l : List Oper} (As : List (Value → World → Prop)) (hd : distB l = true) (ha : aftB l 0 = true)
    (hst : ∀ i v W W', Below W.heap.size W W' → atI As i v W → atI As i v W') (hs : stepsI P l As a w l 0) (h : ∀ f W, Below w.heap.size w W → (∀ i, i < l.length → atI As i (f i) W) → Q .normal (fillF l f 0 a) W) :
    ∀ (fuel : Nat) (listed : Array Bool) (f : Nat → Value) (W : World) (u : List Nat), listed.size = l.length → u.Nodup → u.length = fuel → (∀ i, i ∈ u ↔ (i < l.length ∧ listed.getD i true = false)) → Below w.heap.size w W →
      (∀ i, i < l.length → listed.getD i true = true → atI As i (f i) W) → wpAny P .any l.toArray Q fuel listed (fillF l f 0 a) W := by
  intro fuel
  induction fuel with
  | zero =>
    intro listed f W u hz hn hl hu hb hA
    obtain rfl := List.eq_nil_of_length_eq_zero hl
    refine ⟨?_, h f W hb (fun i hi => hA i hi ?_)⟩
    · rw [List.eq_nil_iff_forall_not_mem]
      intro i hi
      obtain ⟨h1, o, ho, _⟩ := mem_ready.1 hi
      have := (hu i).2 ⟨by have := (Array.getElem?_eq_some_iff.1 ho).1; simpa using this, h1⟩
      cases this
    · cases hb' : listed.getD i true with
      | true => rfl
      | false => exact absurd ((hu i).2 ⟨hi, hb'⟩) (by simp)
  | succ fuel ih =>
    intro listed f W u hz hn hl hu hb hA
    refine ⟨fun hnil => ?_, fun i hi => ?_⟩
    · exfalso
      -- the least one that is not listed is ready
      have hex : ∃ i, i < l.length ∧ listed.getD i true = false := by
        cases u with
        | nil => simp at hl
        | cons x r => exact ⟨x, (hu x).1 List.mem_cons_self⟩
      have key : ∀ n, ∀ i, i < n → i < l.length → listed.getD i true = false → False := by
        intro n
        induction n with
        | zero => intro i hi; omega
        | succ n ihn =>
          intro i hi hil hun
          obtain ⟨o, ho⟩ : ∃ o, l[i]? = some o := ⟨_, List.getElem?_eq_getElem hil⟩
          have : i ∈ Region.ready .any l.toArray listed := by
            refine mem_ready.2 ⟨hun, o, by simpa using ho, fun e he _ => ?_⟩
            have hlt := aft_at l 0 i o ha ho e he
            cases hb' : listed.getD e.on false with
            | true => rfl
            | false =>
              exfalso
              refine ihn e.on (by omega) (by omega) ?_
              have hin : e.on < listed.size := by omega
              simp only [Array.getD, hin, dif_pos] at hb' ⊢
              exact hb'
          rw [hnil] at this
          cases this
      obtain ⟨i, h1, h2⟩ := hex
      exact key (i + 1) i (by omega) h1 h2
    · obtain ⟨hun, o, ho, hall⟩ := mem_ready.1 hi
      have ho' : l[i]? = some o := by simpa using ho
      have hil : i < l.length := (List.getElem?_eq_some_iff.1 ho').1
      have hstep := steps_at l 0 i o hs ho'
      rw [Nat.zero_add] at hstep
      have hq := hstep f W hb (by
        intro e he
        rw [List.mem_filter] at he
        have he1 : e ∈ o.after := by simpa using he.1
        have hlt := aft_at l 0 i o ha ho' e he1
        have hll := hall e he1 he.2
        refine hA e.on (by omega) ?_
        have hin : e.on < listed.size := by omega
        simp only [Array.getD, hin, dif_pos] at hll ⊢
        exact hll)
      have hnext : ∀ (a'' : Act) (W'' : World), (∃ v, a'' = (fillF l f 0 a).put o.dst v ∧ atI As i v W'' ∧ Below W.heap.size W W'') → wpAny P .any l.toArray Q fuel (listed.setIfInBounds i true) a'' W'' := by
        rintro a'' W'' ⟨v, rfl, hv, hb2⟩
        rw [fill_put l f 0 i a hd ho']
        refine ih _ _ _ (u.erase i) (by simpa using hz) (hn.erase _) (by rw [List.length_erase_of_mem ((hu i).2 ⟨hil, hun⟩)]; omega) (fun j => ?_) (below_via hb hb2 hb.size) (fun j hj hlj => ?_)
        · rw [hn.mem_erase_iff, hu j]
          constructor
          · rintro ⟨h1, h2, h3⟩
            exact ⟨h2, by rw [getD_set_ne true (Ne.symm h1)]; exact h3⟩
          · rintro ⟨h2, h3⟩
            have hne : j ≠ i := by
              rintro rfl
              have hin : j < listed.size := by omega
              simp [Array.getD, hin] at h3
            exact ⟨hne, h2, by rwa [getD_set_ne true (Ne.symm hne)] at h3⟩
        · by_cases hji : j = i
          · subst hji
            simp only [Nat.zero_add, if_true]
            exact hv
          · simp only [Nat.zero_add, if_neg hji]
            refine hst j _ W W'' hb2 (hA j hj ?_)
            rwa [getD_set_ne true (Ne.symm hji)] at hlj
      unfold wpOp
      simp only [ho]
      unfold wpList at hq
      split
      · rename_i hw
        rw [if_pos hw] at hq
        rcases hq with hq | ⟨_, a', w', he, _⟩
        · exact .inl (wp_strict (fun _ _ _ h => h.1) (fun a'' w'' h => hnext a'' w'' (show _ ∧ _ from h).2) hq)
        · cases he
      · rename_i hw
        rw [if_neg hw] at hq
        exact hnext _ _ (show _ ∧ _ from hq).2
/-- The region: each operation once. -/
theorem wp_region_inv {P : Program} {id : Nat} {Q : Exit → Act → World → Prop} {a : Act} {w : World} {l : List Oper} (As : List (Value → World → Prop)) (hm : P.follows .mixedOrders = true) (hd : distB l = true) (ha : aftB l 0 = true)
    (hst : ∀ i v W W', Below W.heap.size W W' → atI As i v W → atI As i v W') (hs : stepsI P l As a w l 0) (h : ∀ f W, Below w.heap.size w W → (∀ i, i < l.length → atI As i (f i) W) → Q .normal (fillF l f 0 a) W) : (Code.region id l.toArray true).wp P Q a w := by
  refine wp_region_any hm ?_
  obtain ⟨f, hf⟩ := fill_self l 0 a
  have := wpAny_inv (Q := Q) As hd ha hst hs h l.length (Array.replicate l.length false) f w.drew (List.range l.length) (by simp) List.nodup_range (by simp) (fun i => ?_) (Below.refl _ _).drew (fun i hi hl => ?_)
  · rw [hf] at this
    simpa using this
  · rw [List.mem_range]
    constructor
    · intro hi; exact ⟨hi, by simp [Array.getD, hi]⟩
    · intro hi; exact hi.1
  · simp [Array.getD, hi] at hl
/-- .. of a region with a tail. -/
def stepT (P : Program) (full : Array Oper) (ops : List Oper) (As : List (Value → World → Prop)) (a : Act) (w : World) (k : Nat) (o : Oper) : Prop :=
  ∀ f W, Below w.heap.size w W → depsI As f W (o.after.toList.filter (fun e => Region.binds .any e)) → wpList P full (DoneI (fillF ops f 0 a) o.dst (atI As k) W) [o] (fillF ops f 0 a) W
def stepsT (P : Program) (full : Array Oper) (ops : List Oper) (As : List (Value → World → Prop)) (a : Act) (w : World) : List Oper → Nat → Prop
  | [], _ => True
  | o :: r, k => stepT P full ops As a w k o ∧ stepsT P full ops As a w r (k + 1)
theorem stepsT_at {P : Program} {full : Array Oper} {ops : List Oper} {As : List (Value → World → Prop)} {a : Act} {w : World} : ∀ (l : List Oper) (k i : Nat) (o : Oper), stepsT P full ops As a w l k → l[i]? = some o → stepT P full ops As a w (k + i) o
  | [], _, _, _, _, h => by simp at h
  | p :: r, k, i, o, hs, h => by
    cases i with
    | zero =>
      obtain rfl : p = o := by simpa using h
      exact hs.1
    | succ i =>
      have := stepsT_at r (k + 1) i o hs.2 (by simpa using h)
      rwa [show k + 1 + i = k + (i + 1) by omega] at this
/-- n listed, g not. -/
def doneA (n g : Nat) : Array Bool := (List.replicate n true ++ List.replicate g false).toArray
theorem doneA_eq {n g : Nat} {listed : Array Bool} (hz : listed.size = n + g) (h1 : ∀ i, i < n → listed.getD i true = true) (h2 : ∀ i, n ≤ i → i < n + g → listed.getD i true = false) : listed = doneA n g := by
  refine Array.ext (by simp [doneA, hz]) (fun i hi hi' => ?_)
  have hg : listed.getD i true = listed[i] := by simp [Array.getD, hi]
  rw [← hg]
  by_cases h : i < n
  · rw [h1 i h]
    simp [doneA, h]
  · rw [h2 i (by omega) (by omega)]
    simp [doneA, List.getElem_append, h]
theorem wpHead_inv {P : Program} {Q : Exit → Act → World → Prop} {a : Act} {w : World} {l : List Oper} (n : Nat) (As : List (Value → World → Prop)) (hd : distB (l.take n) = true) (ha : aftB l 0 = true)
    (hS : Region.sinkB .any l.toArray n = true) (hC : Region.chainB .any l.toArray n = true) (hn : n < l.length) (hseq : Region.seqB .any l.toArray (l.length - n) n (doneA n (l.length - n)) = true)
    (hst : ∀ i v W W', Below W.heap.size W W' → atI As i v W → atI As i v W') (hs : stepsT P l.toArray (l.take n) As a w (l.take n) 0) (h : ∀ f W, Below w.heap.size w W → (∀ i, i < n → atI As i (f i) W) → wpList P l.toArray Q (l.drop n) (fillF (l.take n) f 0 a) W) :
    ∀ (fuel : Nat) (listed : Array Bool) (f : Nat → Value) (W : World) (u : List Nat), HeadInv .any l.toArray n listed → u.Nodup → u.length = fuel → (∀ i, i ∈ u ↔ (i < n ∧ listed.getD i true = false)) → Below w.heap.size w W →
      (∀ i, i < n → listed.getD i true = true → atI As i (f i) W) → wpAny P .any l.toArray Q (fuel + (l.length - n)) listed (fillF (l.take n) f 0 a) W := by
  intro fuel
  induction fuel with
  | zero =>
    intro listed f W u inv hnd hl hu hb hA
    obtain rfl := List.eq_nil_of_length_eq_zero hl
    have hall : ∀ i, i < n → listed.getD i true = true := fun i hi => by
      cases hb' : listed.getD i true with
      | true => rfl
      | false => exact absurd ((hu i).2 ⟨hi, hb'⟩) (by simp)
    have hz : listed.size = l.length := by have := inv.size; simpa using this
    obtain rfl : listed = doneA n (l.length - n) := doneA_eq (by omega) hall (fun i h1 h2 => inv.tail i h1 (by simp; omega))
    rw [Nat.zero_add]
    have hdl : (l.drop n).length = l.length - n := by simp
    have := wpAny_of_seq (md := .any) (Q' := Q) (l.drop n) n _ (fillF (l.take n) f 0 a) W (fun j => by simp [List.getElem?_drop]) (by rw [hdl]; exact hseq) (h f W hb (fun i hi => hA i hi (hall i hi)))
    rwa [hdl] at this
  | succ fuel ih =>
    intro listed f W u inv hnd hl hu hb hA
    have hz : listed.size = l.length := by have := inv.size; simpa using this
    have hex : ∃ i, i < n ∧ listed.getD i true = false := by
      cases u with
      | nil => simp at hl
      | cons x r => exact ⟨x, (hu x).1 List.mem_cons_self⟩
    rw [show fuel + 1 + (l.length - n) = (fuel + (l.length - n)) + 1 by omega]
    refine ⟨fun hnil => ?_, fun i hi => ?_⟩
    · exfalso
      have key : ∀ m, ∀ i, i < m → i < n → listed.getD i true = false → False := by
        intro m
        induction m with
        | zero => intro i hi; omega
        | succ m ihn =>
          intro i hi hil hun
          obtain ⟨o, ho⟩ : ∃ o, l[i]? = some o := ⟨_, List.getElem?_eq_getElem (show i < l.length by omega)⟩
          have : i ∈ Region.ready .any l.toArray listed := by
            refine mem_ready.2 ⟨hun, o, by simpa using ho, fun e he _ => ?_⟩
            have hlt := aft_at l 0 i o ha ho e he
            cases hb' : listed.getD e.on false with
            | true => rfl
            | false =>
              exfalso
              refine ihn e.on (by omega) (by omega) ?_
              have hin : e.on < listed.size := by omega
              simp only [Array.getD, hin, dif_pos] at hb' ⊢
              exact hb'
          rw [hnil] at this
          cases this
      obtain ⟨i, h1, h2⟩ := hex
      exact key (i + 1) i (by omega) h1 h2
    · have hin : i < n := by
        obtain ⟨i0, h1, h2⟩ := hex
        exact Nat.lt_of_not_le fun hge => absurd hi (tail_waits hS hC (by simpa using hn) inv _ i0 rfl h1 h2 i hge)
      obtain ⟨hun, o, ho, hall⟩ := mem_ready.1 hi
      have ho' : l[i]? = some o := by simpa using ho
      have ho2 : (l.take n)[i]? = some o := by rw [List.getElem?_take, if_pos hin, ho']
      have hstep := stepsT_at (l.take n) 0 i o hs ho2
      rw [Nat.zero_add] at hstep
      have hq := hstep f W hb (by
        intro e he
        rw [List.mem_filter] at he
        have he1 : e ∈ o.after := by simpa using he.1
        have hlt := aft_at l 0 i o ha ho' e he1
        have hll := hall e he1 he.2
        refine hA e.on (by omega) ?_
        have hin : e.on < listed.size := by omega
        simp only [Array.getD, hin, dif_pos] at hll ⊢
        exact hll)
      have hnext : ∀ (a'' : Act) (W'' : World), (∃ v, a'' = (fillF (l.take n) f 0 a).put o.dst v ∧ atI As i v W'' ∧ Below W.heap.size W W'') → wpAny P .any l.toArray Q (fuel + (l.length - n)) (listed.setIfInBounds i true) a'' W'' := by
        rintro a'' W'' ⟨v, rfl, hv, hb2⟩
        rw [fill_put (l.take n) f 0 i a hd ho2]
        refine ih _ _ _ (u.erase i) (inv.set hi hin) (hnd.erase _) (by rw [List.length_erase_of_mem ((hu i).2 ⟨hin, hun⟩)]; omega) (fun j => ?_) (below_via hb hb2 hb.size) (fun j hj hlj => ?_)
        · rw [hnd.mem_erase_iff, hu j]
          constructor
          · rintro ⟨h1, h2, h3⟩
            exact ⟨h2, by rw [getD_set_ne true (Ne.symm h1)]; exact h3⟩
          · rintro ⟨h2, h3⟩
            have hne : j ≠ i := by
              rintro rfl
              have hin : j < listed.size := by omega
              simp [Array.getD, hin] at h3
            exact ⟨hne, h2, by rwa [getD_set_ne true (Ne.symm hne)] at h3⟩
        · by_cases hji : j = i
          · subst hji
            simp only [Nat.zero_add, if_true]
            exact hv
          · simp only [Nat.zero_add, if_neg hji]
            refine hst j _ W W'' hb2 (hA j hj ?_)
            rwa [getD_set_ne true (Ne.symm hji)] at hlj
      unfold wpOp
      simp only [ho]
      unfold wpList at hq
      split
      · rename_i hw
        rw [if_pos hw] at hq
        rcases hq with hq | ⟨_, a', w', he, _⟩
        · exact .inl (wp_strict (fun _ _ _ h => h.1) (fun a'' w'' h => hnext a'' w'' (show _ ∧ _ from h).2) hq)
        · cases he
      · rename_i hw
        rw [if_neg hw] at hq
        exact hnext _ _ (show _ ∧ _ from hq).2
/-- The region: each operation of its head once, then its tail in order. -/
theorem wp_region_inv_tail {P : Program} {id : Nat} {Q : Exit → Act → World → Prop} {a : Act} {w : World} {l : List Oper} (n : Nat) (As : List (Value → World → Prop)) (hm : P.follows .mixedOrders = true) (hd : distB (l.take n) = true) (ha : aftB l 0 = true)
    (hS : Region.sinkB .any l.toArray n = true) (hC : Region.chainB .any l.toArray n = true) (hn : n < l.length) (hseq : Region.seqB .any l.toArray (l.length - n) n (doneA n (l.length - n)) = true)
    (hst : ∀ i v W W', Below W.heap.size W W' → atI As i v W → atI As i v W') (hs : stepsT P l.toArray (l.take n) As a w (l.take n) 0) (h : ∀ f W, Below w.heap.size w W → (∀ i, i < n → atI As i (f i) W) → wpList P l.toArray Q (l.drop n) (fillF (l.take n) f 0 a) W) : (Code.region id l.toArray true).wp P Q a w := by
  refine wp_region_any hm ?_
  obtain ⟨f, hf⟩ := fill_self (l.take n) 0 a
  have inv0 : HeadInv .any l.toArray n (Array.replicate l.toArray.size false) :=
    ⟨by simp, fun j oj _ hl => (by rw [getD_replicate_false] at hl; cases hl), fun t _ ht => getD_in (by simpa using ht) (getD_replicate_false _ _)⟩
  have := wpHead_inv (Q := Q) n As hd ha hS hC hn hseq hst hs h n (Array.replicate l.toArray.size false) f w.drew (List.range n) inv0 List.nodup_range (by simp) (fun i => ?_) (Below.refl _ _).drew (fun i hi hl => ?_)
  · rw [hf, show n + (l.length - n) = l.length by omega] at this
    simpa using this
  · rw [List.mem_range]
    constructor
    · intro hi; exact ⟨hi, by simp [Array.getD, show i < l.length by omega]⟩
    · intro hi; exact hi.1
  · simp [Array.getD, show i < l.length by omega] at hl
end Go.Proofs.YtnanlaefehaifaaGreat
