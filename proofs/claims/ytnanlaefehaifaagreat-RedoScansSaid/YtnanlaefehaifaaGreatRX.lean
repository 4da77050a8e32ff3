/-
  DRAWN REGIONS, OPERATION BY OPERATION, over any relation of worlds (not Below alone): a head whose operations may write what the relation lets turn, then a tail.
-/
import Derived.Test.YtnanlaefehaifaaGreatRI
namespace Go.Proofs.YtnanlaefehaifaaGreat
open Go.RowKit

/-- An operation is done: its slot holds what it promises. -/
def DoneE (a : Act) (d : Option Tmp) (p : Value → World → Prop) (E : World → World → Prop) (W : World) (x : Exit) (a'' : Act) (W'' : World) : Prop := x = .normal ∧ ∃ v, a'' = a.put d v ∧ p v W'' ∧ E W W''
/-- .. of a region with a tail. -/
def stepE (P : Program) (full : Array Oper) (ops : List Oper) (As : List (Value → World → Prop)) (G : World → Prop) (Pre : Nat → World → Prop) (E : Nat → World → World → Prop) (a : Act) (k : Nat) (o : Oper) : Prop :=
  ∀ f W, G W → Pre k W → depsI As f W (o.after.toList.filter (fun e => Region.binds .any e)) → wpList P full (DoneE (fillF ops f 0 a) o.dst (atI As k) (E k) W) [o] (fillF ops f 0 a) W
def stepsE (P : Program) (full : Array Oper) (ops : List Oper) (As : List (Value → World → Prop)) (G : World → Prop) (Pre : Nat → World → Prop) (E : Nat → World → World → Prop) (a : Act) : List Oper → Nat → Prop
  | [], _ => True
  | o :: r, k => stepE P full ops As G Pre E a k o ∧ stepsE P full ops As G Pre E a r (k + 1)
theorem stepsE_at {P : Program} {full : Array Oper} {ops : List Oper} {As : List (Value → World → Prop)} {G : World → Prop} {Pre : Nat → World → Prop} {E : Nat → World → World → Prop} {a : Act} : ∀ (l : List Oper) (k i : Nat) (o : Oper), stepsE P full ops As G Pre E a l k → l[i]? = some o → stepE P full ops As G Pre E a (k + i) o
  | [], _, _, _, _, h => by simp at h
  | p :: r, k, i, o, hs, h => by
    cases i with
    | zero =>
      obtain rfl : p = o := by simpa using h
      exact hs.1
    | succ i =>
      have := stepsE_at r (k + 1) i o hs.2 (by simpa using h)
      rwa [show k + 1 + i = k + (i + 1) by omega] at this
theorem wpHead_invE {P : Program} {Q : Exit → Act → World → Prop} {a : Act} {l : List Oper} (n : Nat) (As : List (Value → World → Prop)) (G : World → Prop) (Pre : Nat → World → Prop) (E : Nat → World → World → Prop) (hG : ∀ k W W', G W → E k W W' → G W') (hPr : ∀ i j W W', i ≠ j → E j W W' → Pre i W → Pre i W') (hd : distB (l.take n) = true) (ha : aftB l 0 = true)
    (hS : Region.sinkB .any l.toArray n = true) (hC : Region.chainB .any l.toArray n = true) (hn : n < l.length) (hseq : Region.seqB .any l.toArray (l.length - n) n (doneA n (l.length - n)) = true)
    (hst : ∀ i j v W W', i ≠ j → E j W W' → atI As i v W → atI As i v W') (hs : stepsE P l.toArray (l.take n) As G Pre E a (l.take n) 0) (h : ∀ f W, G W → (∀ i, i < n → atI As i (f i) W) → wpList P l.toArray Q (l.drop n) (fillF (l.take n) f 0 a) W) :
    ∀ (fuel : Nat) (listed : Array Bool) (f : Nat → Value) (W : World) (u : List Nat), HeadInv .any l.toArray n listed → u.Nodup → u.length = fuel → (∀ i, i ∈ u ↔ (i < n ∧ listed.getD i true = false)) → G W → (∀ i, i < n → listed.getD i true = false → Pre i W) →
      (∀ i, i < n → listed.getD i true = true → atI As i (f i) W) → wpAny P .any l.toArray Q (fuel + (l.length - n)) listed (fillF (l.take n) f 0 a) W := by
  intro fuel
  induction fuel with
  | zero =>
    intro listed f W u inv hnd hl hu hb hPW hA
    obtain rfl := List.eq_nil_of_length_eq_zero hl
    have hall : ∀ i, i < n → listed.getD i true = true := fun i hi => by
      cases hb' : listed.getD i true with
      | true => rfl
      | false => exact absurd ((hu i).2 ⟨hi, hb'⟩) (by simp)
    have hz : listed.size = l.length := by have := inv.size; simpa using this
    obtain rfl : listed = doneA n (l.length - n) := doneA_eq (by omega) hall (fun i h1 h2 => inv.tail i h1 (by simp; omega))
    rw [Nat.zero_add]
    have hdl : (l.drop n).length = l.length - n := by simp
    have := wpAny_of_seq (md := .any) (Q' := Q) (l.drop n) n _ (fillF (l.take n) f 0 a) W (fun j => by simp [List.getElem?_drop]) (by rw [hdl]; exact hseq) (h f W hb (fun i hi => hA i hi (hall i hi)))
    rwa [hdl] at this
  | succ fuel ih =>
    intro listed f W u inv hnd hl hu hb hPW hA
    have hz : listed.size = l.length := by have := inv.size; simpa using this
    have hex : ∃ i, i < n ∧ listed.getD i true = false := by
      cases u with
      | nil => simp at hl
      | cons x r => exact ⟨x, (hu x).1 List.mem_cons_self⟩
    rw [show fuel + 1 + (l.length - n) = (fuel + (l.length - n)) + 1 by omega]
    refine ⟨fun hnil => ?_, fun i hi => ?_⟩
    · exfalso
      have key : ∀ m, ∀ i, i < m → i < n → listed.getD i true = false → False := by
        intro m
        induction m with
        | zero => intro i hi; omega
        | succ m ihn =>
          intro i hi hil hun
          obtain ⟨o, ho⟩ : ∃ o, l[i]? = some o := ⟨_, List.getElem?_eq_getElem (show i < l.length by omega)⟩
          have : i ∈ Region.ready .any l.toArray listed := by
            refine mem_ready.2 ⟨hun, o, by simpa using ho, fun e he _ => ?_⟩
            have hlt := aft_at l 0 i o ha ho e he
            cases hb' : listed.getD e.on false with
            | true => rfl
            | false =>
              exfalso
              refine ihn e.on (by omega) (by omega) ?_
              have hin : e.on < listed.size := by omega
              simp only [Array.getD, hin, dif_pos] at hb' ⊢
              exact hb'
          rw [hnil] at this
          cases this
      obtain ⟨i, h1, h2⟩ := hex
      exact key (i + 1) i (by omega) h1 h2
    · have hin : i < n := by
        obtain ⟨i0, h1, h2⟩ := hex
        exact Nat.lt_of_not_le fun hge => absurd hi (tail_waits hS hC (by simpa using hn) inv _ i0 rfl h1 h2 i hge)
      obtain ⟨hun, o, ho, hall⟩ := mem_ready.1 hi
      have ho' : l[i]? = some o := by simpa using ho
      have ho2 : (l.take n)[i]? = some o := by rw [List.getElem?_take, if_pos hin, ho']
      have hstep := stepsE_at (l.take n) 0 i o hs ho2
      rw [Nat.zero_add] at hstep
      have hq := hstep f W hb (hPW i hin hun) (by
        intro e he
        rw [List.mem_filter] at he
        have he1 : e ∈ o.after := by simpa using he.1
        have hlt := aft_at l 0 i o ha ho' e he1
        have hll := hall e he1 he.2
        refine hA e.on (by omega) ?_
        have hin : e.on < listed.size := by omega
        simp only [Array.getD, hin, dif_pos] at hll ⊢
        exact hll)
      have hnext : ∀ (a'' : Act) (W'' : World), (∃ v, a'' = (fillF (l.take n) f 0 a).put o.dst v ∧ atI As i v W'' ∧ E i W W'') → wpAny P .any l.toArray Q (fuel + (l.length - n)) (listed.setIfInBounds i true) a'' W'' := by
        rintro a'' W'' ⟨v, rfl, hv, hb2⟩
        rw [fill_put (l.take n) f 0 i a hd ho2]
        refine ih _ _ _ (u.erase i) (inv.set hi hin) (hnd.erase _) (by rw [List.length_erase_of_mem ((hu i).2 ⟨hin, hun⟩)]; omega) (fun j => ?_) (hG _ _ _ hb hb2) (fun j hj hlj => ?_) (fun j hj hlj => ?_)
        · rw [hnd.mem_erase_iff, hu j]
          constructor
          · rintro ⟨h1, h2, h3⟩
            exact ⟨h2, by rw [getD_set_ne true (Ne.symm h1)]; exact h3⟩
          · rintro ⟨h2, h3⟩
            have hne : j ≠ i := by
              rintro rfl
              have hin : j < listed.size := by omega
              simp [Array.getD, hin] at h3
            exact ⟨hne, h2, by rwa [getD_set_ne true (Ne.symm hne)] at h3⟩
        · have hji : j ≠ i := by
            rintro rfl
            have hin : j < listed.size := by have := inv.size; simp at this; omega
            simp [Array.getD, hin] at hlj
          exact hPr j i _ _ hji hb2 (hPW j hj (by rwa [getD_set_ne true (Ne.symm hji)] at hlj))
        · by_cases hji : j = i
          · subst hji
            simp only [Nat.zero_add, if_true]
            exact hv
          · simp only [Nat.zero_add, if_neg hji]
            refine hst j i _ W W'' hji hb2 (hA j hj ?_)
            rwa [getD_set_ne true (Ne.symm hji)] at hlj
      unfold wpOp
      simp only [ho]
      unfold wpList at hq
      split
      · rename_i hw
        rw [if_pos hw] at hq
        rcases hq with hq | ⟨_, a', w', he, _⟩
        · exact .inl (wp_strict (fun _ _ _ h => h.1) (fun a'' w'' h => hnext a'' w'' (show _ ∧ _ from h).2) hq)
        · cases he
      · rename_i hw
        rw [if_neg hw] at hq
        exact hnext _ _ (show _ ∧ _ from hq).2
/-- The region: each operation of its head once, then its tail in order. -/
theorem wp_region_inv_tailE {P : Program} {id : Nat} {Q : Exit → Act → World → Prop} {a : Act} {w : World} {l : List Oper} (n : Nat) (As : List (Value → World → Prop)) (G : World → Prop) (Pre : Nat → World → Prop) (E : Nat → World → World → Prop) (hG : ∀ k W W', G W → E k W W' → G W') (hPr : ∀ i j W W', i ≠ j → E j W W' → Pre i W → Pre i W') (hdr : G w.drew) (hp0 : ∀ i, Pre i w.drew) (hm : P.follows .mixedOrders = true) (hd : distB (l.take n) = true) (ha : aftB l 0 = true)
    (hS : Region.sinkB .any l.toArray n = true) (hC : Region.chainB .any l.toArray n = true) (hn : n < l.length) (hseq : Region.seqB .any l.toArray (l.length - n) n (doneA n (l.length - n)) = true)
    (hst : ∀ i j v W W', i ≠ j → E j W W' → atI As i v W → atI As i v W') (hs : stepsE P l.toArray (l.take n) As G Pre E a (l.take n) 0) (h : ∀ f W, G W → (∀ i, i < n → atI As i (f i) W) → wpList P l.toArray Q (l.drop n) (fillF (l.take n) f 0 a) W) : (Code.region id l.toArray true).wp P Q a w := by
  refine wp_region_any hm ?_
  obtain ⟨f, hf⟩ := fill_self (l.take n) 0 a
  have inv0 : HeadInv .any l.toArray n (Array.replicate l.toArray.size false) :=
    ⟨by simp, fun j oj _ hl => (by rw [getD_replicate_false] at hl; cases hl), fun t _ ht => getD_in (by simpa using ht) (getD_replicate_false _ _)⟩
  have := wpHead_invE (Q := Q) n As G Pre E hG hPr hd ha hS hC hn hseq hst hs h n (Array.replicate l.toArray.size false) f w.drew (List.range n) inv0 List.nodup_range (by simp) (fun i => ?_) hdr (fun i _ _ => hp0 i) (fun i hi hl => ?_)
  · rw [hf, show n + (l.length - n) = l.length by omega] at this
    simpa using this
  · rw [List.mem_range]
    constructor
    · intro hi; exact ⟨hi, by simp [Array.getD, show i < l.length by omega]⟩
    · intro hi; exact hi.1
  · simp [Array.getD, show i < l.length by omega] at hl
end Go.Proofs.YtnanlaefehaifaaGreat
