/-
  Texts of this claim, joined: DN0.
-/
import Derived.Test.YtnanlaefehaifaaGreatAu04
set_option maxHeartbeats 6400000
set_option maxRecDepth 100000
namespace Go.Proofs.YtnanlaefehaifaaGreat
open Go.RowKit
def aftG : List Oper → Nat → Bool
  | [], _ => true
  | o :: r, k => o.after.all (fun e => !Region.binds .any e || decide (e.on < k)) && aftG r (k + 1)
theorem aftG_at : ∀ (l : List Oper) (k i : Nat) (o : Oper), aftG l k = true → l[i]? = some o → ∀ e ∈ o.after, Region.binds .any e = true → e.on < k + i
  | [], _, _, _, _, h => by simp at h
  | p :: r, k, i, o, hs, h => by
    simp only [aftG, Bool.and_eq_true, Array.all_eq_true_iff_forall_mem] at hs
    cases i with
    | zero =>
      obtain rfl : p = o := by simpa using h
      intro e he hb
      have := hs.1 e he
      rw [hb] at this
      simpa using this
    | succ i =>
      have := aftG_at r (k + 1) i o hs.2 (by simpa using h)
      rwa [show k + 1 + i = k + (i + 1) by omega] at this
theorem wpAny_invG {P : Program} {Q : Exit → Act → World → Prop} {a : Act} {w : World} {l : List Oper} (As : List (Value → World → Prop)) (hd : distB l = true) (ha : aftG l 0 = true)
    (hst : ∀ i v W W', Below W.heap.size W W' → atI As i v W → atI As i v W') (hs : stepsI P l As a w l 0) (h : ∀ f W, Below w.heap.size w W → (∀ i, i < l.length → atI As i (f i) W) → Q .normal (fillF l f 0 a) W) :
    ∀ (fuel : Nat) (listed : Array Bool) (f : Nat → Value) (W : World) (u : List Nat), listed.size = l.length → u.Nodup → u.length = fuel → (∀ i, i ∈ u ↔ (i < l.length ∧ listed.getD i true = false)) → Below w.heap.size w W →
      (∀ i, i < l.length → listed.getD i true = true → atI As i (f i) W) → wpAny P .any l.toArray Q fuel listed (fillF l f 0 a) W := by
  intro fuel
  induction fuel with
  | zero =>
    intro listed f W u hz hn hl hu hb hA
    obtain rfl := List.eq_nil_of_length_eq_zero hl
    refine ⟨?_, h f W hb (fun i hi => hA i hi ?_)⟩
    · rw [List.eq_nil_iff_forall_not_mem]
      intro i hi
      obtain ⟨h1, o, ho, _⟩ := mem_ready.1 hi
      have := (hu i).2 ⟨by have := (Array.getElem?_eq_some_iff.1 ho).1; simpa using this, h1⟩
      cases this
    · cases hb' : listed.getD i true with
      | true => rfl
      | false => exact absurd ((hu i).2 ⟨hi, hb'⟩) (by simp)
  | succ fuel ih =>
    intro listed f W u hz hn hl hu hb hA
    refine ⟨fun hnil => ?_, fun i hi => ?_⟩
    · exfalso
      have hex : ∃ i, i < l.length ∧ listed.getD i true = false := by
        cases u with
        | nil => simp at hl
        | cons x r => exact ⟨x, (hu x).1 List.mem_cons_self⟩
      have key : ∀ n, ∀ i, i < n → i < l.length → listed.getD i true = false → False := by
        intro n
        induction n with
        | zero => intro i hi; omega
        | succ n ihn =>
          intro i hi hil hun
          obtain ⟨o, ho⟩ : ∃ o, l[i]? = some o := ⟨_, List.getElem?_eq_getElem hil⟩
          have : i ∈ Region.ready .any l.toArray listed := by
            refine mem_ready.2 ⟨hun, o, by simpa using ho, fun e he hbd => ?_⟩
            have hlt := aftG_at l 0 i o ha ho e he hbd
            cases hb' : listed.getD e.on false with
            | true => rfl
            | false =>
              exfalso
              refine ihn e.on (by omega) (by omega) ?_
              have hin : e.on < listed.size := by omega
              simp only [Array.getD, hin, dif_pos] at hb' ⊢
              exact hb'
          rw [hnil] at this
          cases this
      obtain ⟨i, h1, h2⟩ := hex
      exact key (i + 1) i (by omega) h1 h2
    · obtain ⟨hun, o, ho, hall⟩ := mem_ready.1 hi
      have ho' : l[i]? = some o := by simpa using ho
      have hil : i < l.length := (List.getElem?_eq_some_iff.1 ho').1
      have hstep := steps_at l 0 i o hs ho'
      rw [Nat.zero_add] at hstep
      have hq := hstep f W hb (by
        intro e he
        rw [List.mem_filter] at he
        have he1 : e ∈ o.after := by simpa using he.1
        have hlt := aftG_at l 0 i o ha ho' e he1 he.2
        have hll := hall e he1 he.2
        refine hA e.on (by omega) ?_
        have hin : e.on < listed.size := by omega
        simp only [Array.getD, hin, dif_pos] at hll ⊢
        exact hll)
      have hnext : ∀ (a'' : Act) (W'' : World), (∃ v, a'' = (fillF l f 0 a).put o.dst v ∧ atI As i v W'' ∧ Below W.heap.size W W'') → wpAny P .any l.toArray Q fuel (listed.setIfInBounds i true) a'' W'' := by
        rintro a'' W'' ⟨v, rfl, hv, hb2⟩
        rw [fill_put l f 0 i a hd ho']
        refine ih _ _ _ (u.erase i) (by simpa using hz) (hn.erase _) (by rw [List.length_erase_of_mem ((hu i).2 ⟨hil, hun⟩)]; omega) (fun j => ?_) (below_via hb hb2 hb.size) (fun j hj hlj => ?_)
        · rw [hn.mem_erase_iff, hu j]
          constructor
          · rintro ⟨h1, h2, h3⟩
            exact ⟨h2, by rw [getD_set_ne true (Ne.symm h1)]; exact h3⟩
          · rintro ⟨h2, h3⟩
            have hne : j ≠ i := by
              rintro rfl
              have hin : j < listed.size := by omega
              simp [Array.getD, hin] at h3
            exact ⟨hne, h2, by rwa [getD_set_ne true (Ne.symm hne)] at h3⟩
        · by_cases hji : j = i
          · subst hji
            simp only [Nat.zero_add, if_true]
            exact hv
          · simp only [Nat.zero_add, if_neg hji]
            refine hst j _ W W'' hb2 (hA j hj ?_)
            rwa [getD_set_ne true (Ne.symm hji)] at hlj
      unfold wpOp
      simp only [ho]
      unfold wpList at hq
      split
      · rename_i hw
        rw [if_pos hw] at hq
        rcases hq with hq | ⟨_, a', w', he, _⟩
        · exact .inl (wp_strict (fun _ _ _ h => h.1) (fun a'' w'' h => hnext a'' w'' (show _ ∧ _ from h).2) hq)
        · cases he
      · rename_i hw
        rw [if_neg hw] at hq
        exact hnext _ _ (show _ ∧ _ from hq).2
theorem wp_region_invG {P : Program} {id : Nat} {Q : Exit → Act → World → Prop} {a : Act} {w : World} {l : List Oper} (As : List (Value → World → Prop)) (hm : P.follows .mixedOrders = true) (hd : distB l = true) (ha : aftG l 0 = true)
    (hst : ∀ i v W W', Below W.heap.size W W' → atI As i v W → atI As i v W') (hs : stepsI P l As a w l 0) (h : ∀ f W, Below w.heap.size w W → (∀ i, i < l.length → atI As i (f i) W) → Q .normal (fillF l f 0 a) W) : (Code.region id l.toArray true).wp P Q a w := by
  refine wp_region_any hm ?_
  obtain ⟨f, hf⟩ := fill_self l 0 a
  have := wpAny_invG (Q := Q) As hd ha hst hs h l.length (Array.replicate l.length false) f w.drew (List.range l.length) (by simp) List.nodup_range (by simp) (fun i => ?_) (Below.refl _ _).drew (fun i hi hl => ?_)
  · rw [hf] at this
    simpa using this
  · rw [List.mem_range]
    constructor
    · intro hi; exact ⟨hi, by simp [Array.getD, hi]⟩
    · intro hi; exact hi.1
  · simp [Array.getD, hi] at hl
end Go.Proofs.YtnanlaefehaifaaGreat
