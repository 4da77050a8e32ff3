/-
  Texts of this claim, joined: RK, RI, RM, RS, LD, CA.
-/
import Derived.StillTail
import Derived.Lib.BufferWrite
import Derived.Lib.AppendStr
import Derived.Test.YtdbgppknggaooaaGreatDoorBk02
set_option maxHeartbeats 6400000
set_option maxRecDepth 100000
namespace Go.Proofs.YtdbgppknggaooaaGreatDoor
open Go.RowKit
def itemV (st : Int) (k : ByteArray) (d : CellD) (cv : Value) : Value := .agg #[.int .i64 st, .string k, .int .i64 d.kind, cv, .int .i64 d.lo, .int .i64 d.hi, .int .i64 d.val]
theorem bytes_none (w : World) (B : Nat) : BytesAt w B (.slice none 0 0) [] := ⟨none, 0, 0, rfl, Nat.le_refl _, Nat.zero_le _, rfl, fun _ => rfl, Reads.none_⟩
theorem slotSame_any (st st' : Int) (k k' : ByteArray) (a b : CellD) (av bv : Value) (B : Nat) (w : World) (hB : B ≤ w.heap.size) (ha : BytesAt w B av a.data) (hb : BytesAt w B bv b.data) :
    Calls Tryz.prog 249 #[itemV st k a av, itemV st' k' b bv] w fun e w' => e = .returned (.bool ((st == st') && (k.toList == k'.toList) && cellEq a b)) ∧ Below w.heap.size w w' := by
  have hb2 := fun o1 o2 => below2 w o1 o2
  have HS := hide (fun o1 o2 => cSame_any a b av bv B ((w.alloc o1).alloc o2) (by simp; omega) (ha.below (hb2 o1 o2) hB) (hb.below (hb2 o1 o2) hB))
  obtain ⟨A, n, c, rfl, junk⟩ := ha
  obtain ⟨A', n', c', rfl, junk'⟩ := hb
  clear junk junk'
  unfold itemV
  cases h1 : (st == st')
  · go_enter Tryz.func249, Tryz.ntmps249
    go_wp2
    go_ret
    exact ⟨by simp, hb2 _ _⟩
  · cases h2 : (k.toList == k'.toList)
    · go_enter Tryz.func249, Tryz.ntmps249
      go_wp2
      go_ret
      exact ⟨by simp, hb2 _ _⟩
    · go_enter Tryz.func249, Tryz.ntmps249
      go_wp2_with (refine (HS.out _ _).mono ?_; rintro e w' ⟨rfl, hb3⟩)
      go_ret
      exact ⟨by simp, below_via (hb2 _ _) hb3 (by simp; omega)⟩
def itemZ (st : Int) (k : ByteArray) (d : CellD) : Bool := (st == 0) && (k.toList == ByteArray.empty.toList) && cellEq d cell0
def rightI (st : Int) (k : ByteArray) (d : CellD) : Bool := if st = 0 then itemZ st k d else decide (st = 1 ∨ st = 2) && (goodKey k && rightC d)
def itemE (st : Int) (k : ByteArray) (d : CellD) : Int := if rightI st k d = true then 0 else 1
theorem slotCheck_any (st : Int) (k : ByteArray) (d : CellD) (dv : Value) (B : Nat) (w : World) (hk : k.size ≤ 1000000) (hB : B ≤ w.heap.size) (ha : BytesAt w B dv d.data) :
    Calls Tryz.prog 208 #[itemV st k d dv] w fun e w' => e = .returned (.int .i64 (itemE st k d)) ∧ Below w.heap.size w w' := by
  have hb1 := fun o => (Below.refl w.heap.size w).alloc (Nat.le_refl _) o
  have HS := hide (fun o => (show Calls Tryz.prog 249 #[itemV st k d dv, .agg #[.int .i64 0, .string ⟨#[]⟩, .int .i64 0, .slice none 0 0, .int .i64 0, .int .i64 0, .int .i64 0]] (w.alloc o) (fun e w' => e = .returned (.bool (itemZ st k d)) ∧ Below (w.alloc o).heap.size (w.alloc o) w') from slotSame_any st 0 k .empty d cell0 dv (.slice none 0 0) B (w.alloc o) (by simp; omega) (ha.below (hb1 o) hB) (bytes_none _ _)))
  have HK := hide (fun W => keyCheck_any k W (by omega))
  obtain ⟨A, n, c, rfl, _, _, hn, hn'⟩ := ha
  have HC := hide (fun W => cellCheck_any d A n c W hn)
  clear hn
  unfold itemV at *
  have HE0 := hide (show itemE st k d = if (if st = 0 then itemZ st k d else decide (st = 1 ∨ st = 2) && (goodKey k && rightC d)) = true then 0 else 1 from rfl)
  have HK1 := hide (show keyE k = if goodKey k = true then 0 else 1 from rfl)
  have HC1 := hide (show cellE d = if rightC d = true then 0 else 1 from rfl)
  generalize itemZ st k d = z at *
  generalize itemE st k d = ie at *
  generalize keyE k = ke at *
  generalize cellE d = ce at *
  generalize goodKey k = g at *
  generalize rightC d = r at *
  go_enter Tryz.func208, Tryz.ntmps208
  go_wp2_with (first
    | (refine (HS.out _).mono ?_; rintro e w' ⟨rfl, hb3⟩; have hb3' := below_via (hb1 _) hb3 (by simp); clear hb3)
    | (refine (HK.out _).mono ?_; rintro e w1 ⟨rfl, hb3⟩; have kb := Blk.via hb3 (Blk.new w 27 _); have q2 : w1.cell? ⟨w.heap.size, 2, none⟩ = some _ := kb.cell 2; have q3 : w1.cell? ⟨w.heap.size, 3, none⟩ = some _ := kb.cell 3; have q4 : w1.cell? ⟨w.heap.size, 4, none⟩ = some _ := kb.cell 4; have q5 : w1.cell? ⟨w.heap.size, 5, none⟩ = some _ := kb.cell 5; have q6 : w1.cell? ⟨w.heap.size, 6, none⟩ = some _ := kb.cell 6; have hb3' := below_via (hb1 _) hb3 (by simp); clear kb hb3)
    | (refine (HC.out _).mono ?_; rintro e w2 ⟨rfl, hb4⟩; have hb4' := below_via hb3' hb4 hb3'.size; clear hb4))
  all_goals
    go_ret
    refine ⟨ret_int ?_, by first | assumption | exact hb1 _⟩
    have h1 := HE0.out
    have h2 := HK1.out
    have h3 := HC1.out
    clear HE0 HK1 HC1 HS HK HC
    try clear q2 q3 q4 q5 q6
    rw [h1]
    clear h1 hb1
    subst h2 h3
    clear hn' hk
    cases z <;> cases g <;> cases r <;> simp_all <;> omega
end Go.Proofs.YtdbgppknggaooaaGreatDoor
namespace Go.Proofs.YtdbgppknggaooaaGreatDoor
open Go.RowKit
theorem wp_strict {P : Program} {o : Oper} {a : Act} {w : World} {K K' : Act → World → Prop} {Q Q2 : Exit → Act → World → Prop} (hQ : ∀ x a w, Q2 x a w → x = .normal) (hK : ∀ a w, K a w → K' a w) (h : o.wp P a w K Q2) : o.wp P a w K' Q := by
  unfold Oper.wp at *
  generalize (execOp a.eval o).run P w = r at *
  cases r with
  | ok n w' =>
    cases n <;> simp only [Oper.upon] at h ⊢
    case enter f args =>
      refine Calls.mono h (fun e w'' he => ?_)
      cases e with
      | returned v => exact hK _ _ he
      | panicked c => exact absurd (hQ _ _ _ he) (by simp)
      | outgrown =>
        obtain ⟨a', w', he⟩ := he
        exact absurd (hQ _ _ _ he) (by simp)
    case row r args => exact Rows.mono h fun _ _ he => hK _ _ he
    all_goals exact hK _ _ h
  | halt x w' =>
    cases x <;> simp only [Oper.upon] at h ⊢
    case panic v => exact absurd (hQ _ _ _ h) (by simp)
def fillF : List Oper → (Nat → Value) → Nat → Act → Act
  | [], _, _, a => a
  | o :: r, f, k, a => fillF r f (k + 1) (a.put o.dst (f k))
def distB : List Oper → Bool
  | [] => true
  | o :: r => r.all (fun p => p.dst == none || p.dst != o.dst) && distB r
def aftB : List Oper → Nat → Bool
  | [], _ => true
  | o :: r, k => o.after.all (fun e => decide (e.on < k)) && aftB r (k + 1)
theorem mfl {α : Type} {p : α → Bool} {l : List α} {a : α} (h : a ∈ l) (h' : p a = true) : a ∈ l.filter p := List.mem_filter.2 ⟨h, h'⟩
theorem fS : (∀ (f : Nat → Value) (k : Nat) (a : Act), fillF [] f k a = a) ∧ (∀ (o : Oper) (r : List Oper) (f : Nat → Value) (k : Nat) (a : Act), fillF (o :: r) f k a = fillF r f (k + 1) (a.put o.dst (f k))) ∧ (∀ (a : Act) (v : Value), a.put none v = a) ∧ (∀ (a : Act) (d : Tmp) (v : Value), a.put (some d) v = { a with tmps := a.tmps.setIfInBounds d v }) ∧ (∀ (l : List Value) (i : Nat) (v : Value), l.toArray.setIfInBounds i v = (l.set i v).toArray) ∧ (∀ (x : Value) (l : List Value) (i : Nat) (v : Value), (x :: l).set (i + 1) v = x :: l.set i v) ∧ (∀ (x : Value) (l : List Value) (v : Value), (x :: l).set 0 v = v :: l) := ⟨fun _ _ _ => rfl, fun _ _ _ _ _ => rfl, fun _ _ => rfl, fun _ _ _ => rfl, fun _ _ _ => List.setIfInBounds_toArray .., fun _ _ _ _ => rfl, fun _ _ _ => rfl⟩
theorem put_put (a : Act) (x : Option Tmp) (u v : Value) : (a.put x u).put x v = a.put x v := by
  cases x with
  | none => rfl
  | some d => simp [Act.put]
theorem fill_comm {x : Option Tmp} {v : Value} : ∀ (l : List Oper) (f : Nat → Value) (k : Nat) (a : Act), (∀ p ∈ l, p.dst = none ∨ p.dst ≠ x) → (fillF l f k a).put x v = fillF l f k (a.put x v)
  | [], _, _, _, _ => rfl
  | o :: r, f, k, a, h => by
    unfold fillF
    rw [fill_comm r f (k + 1) _ (fun p hp => h p (List.mem_cons_of_mem _ hp))]
    congr 1
    rcases h o List.mem_cons_self with h1 | h1
    · rw [h1]; rfl
    · exact Act.put_comm a _ _ (fun d hd he => h1 (hd.trans he.symm))
theorem fill_congr : ∀ (l : List Oper) (f g : Nat → Value) (k : Nat) (a : Act), (∀ j, k ≤ j → f j = g j) → fillF l f k a = fillF l g k a
  | [], _, _, _, _, _ => rfl
  | o :: r, f, g, k, a, h => by
    unfold fillF
    rw [h k (Nat.le_refl _)]
    exact fill_congr r f g (k + 1) _ (fun j hj => h j (by omega))
theorem fill_put {v : Value} {o : Oper} : ∀ (l : List Oper) (f : Nat → Value) (k i : Nat) (a : Act), distB l = true → l[i]? = some o → (fillF l f k a).put o.dst v = fillF l (fun j => if j = k + i then v else f j) k a
  | [], _, _, _, _, _, h => by simp at h
  | p :: r, f, k, i, a, hd, h => by
    simp only [distB, Bool.and_eq_true, List.all_eq_true, Bool.or_eq_true, beq_iff_eq, bne_iff_ne] at hd
    cases i with
    | zero =>
      obtain rfl : p = o := by simpa using h
      unfold fillF
      rw [fill_comm r f (k + 1) _ hd.1, put_put]
      simp only [Nat.add_zero, if_true]
      exact fill_congr r _ _ (k + 1) _ (fun j hj => by simp only [if_neg (show ¬ j = k by omega)])
    | succ i =>
      have h' : r[i]? = some o := by simpa using h
      unfold fillF
      rw [fill_put r f (k + 1) i _ hd.2 h']
      simp only [if_neg (show ¬ k = k + (i + 1) by omega)]
      refine fill_congr r _ _ (k + 1) _ (fun j _ => ?_)
      simp only [show (k + 1 + i) = k + (i + 1) by omega]
theorem fill_self : ∀ (l : List Oper) (k : Nat) (a : Act), ∃ f, fillF l f k a = a
  | [], _, _ => ⟨fun _ => undef, rfl⟩
  | o :: r, k, a => by
    obtain ⟨f, hf⟩ := fill_self r (k + 1) a
    have hp : a.put o.dst (match o.dst with | some d => a.tmps.getD d undef | none => undef) = a := by
      cases o.dst with
      | none => rfl
      | some d =>
        simp only [Act.put]
        have : a.tmps.setIfInBounds d (a.tmps.getD d undef) = a.tmps := by
          refine Array.ext (by simp) (fun i h1 h2 => ?_)
          rw [Array.getElem_setIfInBounds]
          split
          · rename_i e
            subst e
            simp [Array.getD, h2]
          · rfl
        rw [this]
    refine ⟨fun j => if j = k then (match o.dst with | some d => a.tmps.getD d undef | none => undef) else f j, ?_⟩
    unfold fillF
    simp only [if_true]
    rw [hp, fill_congr r _ f (k + 1) a (fun j hj => by simp only [if_neg (show ¬ j = k by omega)]), hf]
def atI (As : List (Value → World → Prop)) (i : Nat) (v : Value) (W : World) : Prop := match As[i]? with | some p => p v W | none => True
def depsI (As : List (Value → World → Prop)) (f : Nat → Value) (W : World) (l : List Edge) : Prop := ∀ e ∈ l, atI As e.on (f e.on) W
def DoneI (a : Act) (d : Option Tmp) (p : Value → World → Prop) (W : World) (x : Exit) (a'' : Act) (W'' : World) : Prop := x = .normal ∧ ∃ v, a'' = a.put d v ∧ p v W'' ∧ Below W.heap.size W W''
def stepI (P : Program) (ops : List Oper) (As : List (Value → World → Prop)) (a : Act) (w : World) (k : Nat) (o : Oper) : Prop :=
  ∀ f W, Below w.heap.size w W → depsI As f W (o.after.toList.filter (fun e => Region.binds .any e)) → wpList P ops.toArray (DoneI (fillF ops f 0 a) o.dst (atI As k) W) [o] (fillF ops f 0 a) W
def stepsI (P : Program) (ops : List Oper) (As : List (Value → World → Prop)) (a : Act) (w : World) : List Oper → Nat → Prop
  | [], _ => True
  | o :: r, k => stepI P ops As a w k o ∧ stepsI P ops As a w r (k + 1)
theorem steps_at {P : Program} {ops : List Oper} {As : List (Value → World → Prop)} {a : Act} {w : World} : ∀ (l : List Oper) (k i : Nat) (o : Oper), stepsI P ops As a w l k → l[i]? = some o → stepI P ops As a w (k + i) o
  | [], _, _, _, _, h => by simp at h
  | p :: r, k, i, o, hs, h => by
    cases i with
    | zero =>
      obtain rfl : p = o := by simpa using h
      exact hs.1
    | succ i =>
      have := steps_at r (k + 1) i o hs.2 (by simpa using h)
      rwa [show k + 1 + i = k + (i + 1) by omega] at this
theorem aft_at : ∀ (l : List Oper) (k i : Nat) (o : Oper), aftB l k = true → l[i]? = some o → ∀ e ∈ o.after, e.on < k + i
  | [], _, _, _, _, h => by simp at h
  | p :: r, k, i, o, hs, h => by
    simp only [aftB, Bool.and_eq_true, Array.all_eq_true_iff_forall_mem, decide_eq_true_eq] at hs
    cases i with
    | zero =>
      obtain rfl : p = o := by simpa using h
      exact hs.1
    | succ i =>
      have := aft_at r (k + 1) i o hs.2 (by simpa using h)
      rwa [show k + 1 + i = k + (i + 1) by omega] at this
theorem wpAny_inv {P : Program} {Q : Exit → Act → World → Prop} {a : Act} {w : World} {l : List Oper} (As : List (Value → World → Prop)) (hd : distB l = true) (ha : aftB l 0 = true)
    (hst : ∀ i v W W', Below W.heap.size W W' → atI As i v W → atI As i v W') (hs : stepsI P l As a w l 0) (h : ∀ f W, Below w.heap.size w W → (∀ i, i < l.length → atI As i (f i) W) → Q .normal (fillF l f 0 a) W) :
    ∀ (fuel : Nat) (listed : Array Bool) (f : Nat → Value) (W : World) (u : List Nat), listed.size = l.length → u.Nodup → u.length = fuel → (∀ i, i ∈ u ↔ (i < l.length ∧ listed.getD i true = false)) → Below w.heap.size w W →
      (∀ i, i < l.length → listed.getD i true = true → atI As i (f i) W) → wpAny P .any l.toArray Q fuel listed (fillF l f 0 a) W := by
  intro fuel
  induction fuel with
  | zero =>
    intro listed f W u hz hn hl hu hb hA
    obtain rfl := List.eq_nil_of_length_eq_zero hl
    refine ⟨?_, h f W hb (fun i hi => hA i hi ?_)⟩
    · rw [List.eq_nil_iff_forall_not_mem]
      intro i hi
      obtain ⟨h1, o, ho, _⟩ := mem_ready.1 hi
      have := (hu i).2 ⟨by have := (Array.getElem?_eq_some_iff.1 ho).1; simpa using this, h1⟩
      cases this
    · cases hb' : listed.getD i true with
      | true => rfl
      | false => exact absurd ((hu i).2 ⟨hi, hb'⟩) (by simp)
  | succ fuel ih =>
    intro listed f W u hz hn hl hu hb hA
    refine ⟨fun hnil => ?_, fun i hi => ?_⟩
    · exfalso
      have hex : ∃ i, i < l.length ∧ listed.getD i true = false := by
        cases u with
        | nil => simp at hl
        | cons x r => exact ⟨x, (hu x).1 List.mem_cons_self⟩
      have key : ∀ n, ∀ i, i < n → i < l.length → listed.getD i true = false → False := by
        intro n
        induction n with
        | zero => intro i hi; omega
        | succ n ihn =>
          intro i hi hil hun
          obtain ⟨o, ho⟩ : ∃ o, l[i]? = some o := ⟨_, List.getElem?_eq_getElem hil⟩
          have : i ∈ Region.ready .any l.toArray listed := by
            refine mem_ready.2 ⟨hun, o, by simpa using ho, fun e he _ => ?_⟩
            have hlt := aft_at l 0 i o ha ho e he
            cases hb' : listed.getD e.on false with
            | true => rfl
            | false =>
              exfalso
              refine ihn e.on (by omega) (by omega) ?_
              have hin : e.on < listed.size := by omega
              simp only [Array.getD, hin, dif_pos] at hb' ⊢
              exact hb'
          rw [hnil] at this
          cases this
      obtain ⟨i, h1, h2⟩ := hex
      exact key (i + 1) i (by omega) h1 h2
    · obtain ⟨hun, o, ho, hall⟩ := mem_ready.1 hi
      have ho' : l[i]? = some o := by simpa using ho
      have hil : i < l.length := (List.getElem?_eq_some_iff.1 ho').1
      have hstep := steps_at l 0 i o hs ho'
      rw [Nat.zero_add] at hstep
      have hq := hstep f W hb (by
        intro e he
        rw [List.mem_filter] at he
        have he1 : e ∈ o.after := by simpa using he.1
        have hlt := aft_at l 0 i o ha ho' e he1
        have hll := hall e he1 he.2
        refine hA e.on (by omega) ?_
        have hin : e.on < listed.size := by omega
        simp only [Array.getD, hin, dif_pos] at hll ⊢
        exact hll)
      have hnext : ∀ (a'' : Act) (W'' : World), (∃ v, a'' = (fillF l f 0 a).put o.dst v ∧ atI As i v W'' ∧ Below W.heap.size W W'') → wpAny P .any l.toArray Q fuel (listed.setIfInBounds i true) a'' W'' := by
        rintro a'' W'' ⟨v, rfl, hv, hb2⟩
        rw [fill_put l f 0 i a hd ho']
        refine ih _ _ _ (u.erase i) (by simpa using hz) (hn.erase _) (by rw [List.length_erase_of_mem ((hu i).2 ⟨hil, hun⟩)]; omega) (fun j => ?_) (below_via hb hb2 hb.size) (fun j hj hlj => ?_)
        · rw [hn.mem_erase_iff, hu j]
          constructor
          · rintro ⟨h1, h2, h3⟩
            exact ⟨h2, by rw [getD_set_ne true (Ne.symm h1)]; exact h3⟩
          · rintro ⟨h2, h3⟩
            have hne : j ≠ i := by
              rintro rfl
              have hin : j < listed.size := by omega
              simp [Array.getD, hin] at h3
            exact ⟨hne, h2, by rwa [getD_set_ne true (Ne.symm hne)] at h3⟩
        · by_cases hji : j = i
          · subst hji
            simp only [Nat.zero_add, if_true]
            exact hv
          · simp only [Nat.zero_add, if_neg hji]
            refine hst j _ W W'' hb2 (hA j hj ?_)
            rwa [getD_set_ne true (Ne.symm hji)] at hlj
      unfold wpOp
      simp only [ho]
      unfold wpList at hq
      split
      · rename_i hw
        rw [if_pos hw] at hq
        rcases hq with hq | ⟨_, a', w', he, _⟩
        · exact .inl (wp_strict (fun _ _ _ h => h.1) (fun a'' w'' h => hnext a'' w'' (show _ ∧ _ from h).2) hq)
        · cases he
      · rename_i hw
        rw [if_neg hw] at hq
        exact hnext _ _ (show _ ∧ _ from hq).2
theorem wp_region_inv {P : Program} {id : Nat} {Q : Exit → Act → World → Prop} {a : Act} {w : World} {l : List Oper} (As : List (Value → World → Prop)) (hm : P.follows .mixedOrders = true) (hd : distB l = true) (ha : aftB l 0 = true)
    (hst : ∀ i v W W', Below W.heap.size W W' → atI As i v W → atI As i v W') (hs : stepsI P l As a w l 0) (h : ∀ f W, Below w.heap.size w W → (∀ i, i < l.length → atI As i (f i) W) → Q .normal (fillF l f 0 a) W) : (Code.region id l.toArray true).wp P Q a w := by
  refine wp_region_any hm ?_
  obtain ⟨f, hf⟩ := fill_self l 0 a
  have := wpAny_inv (Q := Q) As hd ha hst hs h l.length (Array.replicate l.length false) f w.drew (List.range l.length) (by simp) List.nodup_range (by simp) (fun i => ?_) (Below.refl _ _).drew (fun i hi hl => ?_)
  · rw [hf] at this
    simpa using this
  · rw [List.mem_range]
    constructor
    · intro hi; exact ⟨hi, by simp [Array.getD, hi]⟩
    · intro hi; exact hi.1
  · simp [Array.getD, hi] at hl
def stepT (P : Program) (full : Array Oper) (ops : List Oper) (As : List (Value → World → Prop)) (a : Act) (w : World) (k : Nat) (o : Oper) : Prop :=
  ∀ f W, Below w.heap.size w W → depsI As f W (o.after.toList.filter (fun e => Region.binds .any e)) → wpList P full (DoneI (fillF ops f 0 a) o.dst (atI As k) W) [o] (fillF ops f 0 a) W
def stepsT (P : Program) (full : Array Oper) (ops : List Oper) (As : List (Value → World → Prop)) (a : Act) (w : World) : List Oper → Nat → Prop
  | [], _ => True
  | o :: r, k => stepT P full ops As a w k o ∧ stepsT P full ops As a w r (k + 1)
theorem stepsT_at {P : Program} {full : Array Oper} {ops : List Oper} {As : List (Value → World → Prop)} {a : Act} {w : World} : ∀ (l : List Oper) (k i : Nat) (o : Oper), stepsT P full ops As a w l k → l[i]? = some o → stepT P full ops As a w (k + i) o
  | [], _, _, _, _, h => by simp at h
  | p :: r, k, i, o, hs, h => by
    cases i with
    | zero =>
      obtain rfl : p = o := by simpa using h
      exact hs.1
    | succ i =>
      have := stepsT_at r (k + 1) i o hs.2 (by simpa using h)
      rwa [show k + 1 + i = k + (i + 1) by omega] at this
def doneA (n g : Nat) : Array Bool := (List.replicate n true ++ List.replicate g false).toArray
theorem doneA_eq {n g : Nat} {listed : Array Bool} (hz : listed.size = n + g) (h1 : ∀ i, i < n → listed.getD i true = true) (h2 : ∀ i, n ≤ i → i < n + g → listed.getD i true = false) : listed = doneA n g := by
  refine Array.ext (by simp [doneA, hz]) (fun i hi hi' => ?_)
  have hg : listed.getD i true = listed[i] := by simp [Array.getD, hi]
  rw [← hg]
  by_cases h : i < n
  · rw [h1 i h]
    simp [doneA, h]
  · rw [h2 i (by omega) (by omega)]
    simp [doneA, List.getElem_append, h]
theorem wpHead_inv {P : Program} {Q : Exit → Act → World → Prop} {a : Act} {w : World} {l : List Oper} (n : Nat) (As : List (Value → World → Prop)) (hd : distB (l.take n) = true) (ha : aftB l 0 = true)
    (hS : Region.sinkB .any l.toArray n = true) (hC : Region.chainB .any l.toArray n = true) (hn : n < l.length) (hseq : Region.seqB .any l.toArray (l.length - n) n (doneA n (l.length - n)) = true)
    (hst : ∀ i v W W', Below W.heap.size W W' → atI As i v W → atI As i v W') (hs : stepsT P l.toArray (l.take n) As a w (l.take n) 0) (h : ∀ f W, Below w.heap.size w W → (∀ i, i < n → atI As i (f i) W) → wpList P l.toArray Q (l.drop n) (fillF (l.take n) f 0 a) W) :
    ∀ (fuel : Nat) (listed : Array Bool) (f : Nat → Value) (W : World) (u : List Nat), HeadInv .any l.toArray n listed → u.Nodup → u.length = fuel → (∀ i, i ∈ u ↔ (i < n ∧ listed.getD i true = false)) → Below w.heap.size w W →
      (∀ i, i < n → listed.getD i true = true → atI As i (f i) W) → wpAny P .any l.toArray Q (fuel + (l.length - n)) listed (fillF (l.take n) f 0 a) W := by
  intro fuel
  induction fuel with
  | zero =>
    intro listed f W u inv hnd hl hu hb hA
    obtain rfl := List.eq_nil_of_length_eq_zero hl
    have hall : ∀ i, i < n → listed.getD i true = true := fun i hi => by
      cases hb' : listed.getD i true with
      | true => rfl
      | false => exact absurd ((hu i).2 ⟨hi, hb'⟩) (by simp)
    have hz : listed.size = l.length := by have := inv.size; simpa using this
    obtain rfl : listed = doneA n (l.length - n) := doneA_eq (by omega) hall (fun i h1 h2 => inv.tail i h1 (by simp; omega))
    rw [Nat.zero_add]
    have hdl : (l.drop n).length = l.length - n := by simp
    have := wpAny_of_seq (md := .any) (Q' := Q) (l.drop n) n _ (fillF (l.take n) f 0 a) W (fun j => by simp [List.getElem?_drop]) (by rw [hdl]; exact hseq) (h f W hb (fun i hi => hA i hi (hall i hi)))
    rwa [hdl] at this
  | succ fuel ih =>
    intro listed f W u inv hnd hl hu hb hA
    have hz : listed.size = l.length := by have := inv.size; simpa using this
    have hex : ∃ i, i < n ∧ listed.getD i true = false := by
      cases u with
      | nil => simp at hl
      | cons x r => exact ⟨x, (hu x).1 List.mem_cons_self⟩
    rw [show fuel + 1 + (l.length - n) = (fuel + (l.length - n)) + 1 by omega]
    refine ⟨fun hnil => ?_, fun i hi => ?_⟩
    · exfalso
      have key : ∀ m, ∀ i, i < m → i < n → listed.getD i true = false → False := by
        intro m
        induction m with
        | zero => intro i hi; omega
        | succ m ihn =>
          intro i hi hil hun
          obtain ⟨o, ho⟩ : ∃ o, l[i]? = some o := ⟨_, List.getElem?_eq_getElem (show i < l.length by omega)⟩
          have : i ∈ Region.ready .any l.toArray listed := by
            refine mem_ready.2 ⟨hun, o, by simpa using ho, fun e he _ => ?_⟩
            have hlt := aft_at l 0 i o ha ho e he
            cases hb' : listed.getD e.on false with
            | true => rfl
            | false =>
              exfalso
              refine ihn e.on (by omega) (by omega) ?_
              have hin : e.on < listed.size := by omega
              simp only [Array.getD, hin, dif_pos] at hb' ⊢
              exact hb'
          rw [hnil] at this
          cases this
      obtain ⟨i, h1, h2⟩ := hex
      exact key (i + 1) i (by omega) h1 h2
    · have hin : i < n := by
        obtain ⟨i0, h1, h2⟩ := hex
        exact Nat.lt_of_not_le fun hge => absurd hi (tail_waits hS hC (by simpa using hn) inv _ i0 rfl h1 h2 i hge)
      obtain ⟨hun, o, ho, hall⟩ := mem_ready.1 hi
      have ho' : l[i]? = some o := by simpa using ho
      have ho2 : (l.take n)[i]? = some o := by rw [List.getElem?_take, if_pos hin, ho']
      have hstep := stepsT_at (l.take n) 0 i o hs ho2
      rw [Nat.zero_add] at hstep
      have hq := hstep f W hb (by
        intro e he
        rw [List.mem_filter] at he
        have he1 : e ∈ o.after := by simpa using he.1
        have hlt := aft_at l 0 i o ha ho' e he1
        have hll := hall e he1 he.2
        refine hA e.on (by omega) ?_
        have hin : e.on < listed.size := by omega
        simp only [Array.getD, hin, dif_pos] at hll ⊢
        exact hll)
      have hnext : ∀ (a'' : Act) (W'' : World), (∃ v, a'' = (fillF (l.take n) f 0 a).put o.dst v ∧ atI As i v W'' ∧ Below W.heap.size W W'') → wpAny P .any l.toArray Q (fuel + (l.length - n)) (listed.setIfInBounds i true) a'' W'' := by
        rintro a'' W'' ⟨v, rfl, hv, hb2⟩
        rw [fill_put (l.take n) f 0 i a hd ho2]
        refine ih _ _ _ (u.erase i) (inv.set hi hin) (hnd.erase _) (by rw [List.length_erase_of_mem ((hu i).2 ⟨hin, hun⟩)]; omega) (fun j => ?_) (below_via hb hb2 hb.size) (fun j hj hlj => ?_)
        · rw [hnd.mem_erase_iff, hu j]
          constructor
          · rintro ⟨h1, h2, h3⟩
            exact ⟨h2, by rw [getD_set_ne true (Ne.symm h1)]; exact h3⟩
          · rintro ⟨h2, h3⟩
            have hne : j ≠ i := by
              rintro rfl
              have hin : j < listed.size := by omega
              simp [Array.getD, hin] at h3
            exact ⟨hne, h2, by rwa [getD_set_ne true (Ne.symm hne)] at h3⟩
        · by_cases hji : j = i
          · subst hji
            simp only [Nat.zero_add, if_true]
            exact hv
          · simp only [Nat.zero_add, if_neg hji]
            refine hst j _ W W'' hb2 (hA j hj ?_)
            rwa [getD_set_ne true (Ne.symm hji)] at hlj
      unfold wpOp
      simp only [ho]
      unfold wpList at hq
      split
      · rename_i hw
        rw [if_pos hw] at hq
        rcases hq with hq | ⟨_, a', w', he, _⟩
        · exact .inl (wp_strict (fun _ _ _ h => h.1) (fun a'' w'' h => hnext a'' w'' (show _ ∧ _ from h).2) hq)
        · cases he
      · rename_i hw
        rw [if_neg hw] at hq
        exact hnext _ _ (show _ ∧ _ from hq).2
theorem wp_region_inv_tail {P : Program} {id : Nat} {Q : Exit → Act → World → Prop} {a : Act} {w : World} {l : List Oper} (n : Nat) (As : List (Value → World → Prop)) (hm : P.follows .mixedOrders = true) (hd : distB (l.take n) = true) (ha : aftB l 0 = true)
    (hS : Region.sinkB .any l.toArray n = true) (hC : Region.chainB .any l.toArray n = true) (hn : n < l.length) (hseq : Region.seqB .any l.toArray (l.length - n) n (doneA n (l.length - n)) = true)
    (hst : ∀ i v W W', Below W.heap.size W W' → atI As i v W → atI As i v W') (hs : stepsT P l.toArray (l.take n) As a w (l.take n) 0) (h : ∀ f W, Below w.heap.size w W → (∀ i, i < n → atI As i (f i) W) → wpList P l.toArray Q (l.drop n) (fillF (l.take n) f 0 a) W) : (Code.region id l.toArray true).wp P Q a w := by
  refine wp_region_any hm ?_
  obtain ⟨f, hf⟩ := fill_self (l.take n) 0 a
  have inv0 : HeadInv .any l.toArray n (Array.replicate l.toArray.size false) :=
    ⟨by simp, fun j oj _ hl => (by rw [getD_replicate_false] at hl; cases hl), fun t _ ht => getD_in (by simpa using ht) (getD_replicate_false _ _)⟩
  have := wpHead_inv (Q := Q) n As hd ha hS hC hn hseq hst hs h n (Array.replicate l.toArray.size false) f w.drew (List.range n) inv0 List.nodup_range (by simp) (fun i => ?_) (Below.refl _ _).drew (fun i hi hl => ?_)
  · rw [hf, show n + (l.length - n) = l.length by omega] at this
    simpa using this
  · rw [List.mem_range]
    constructor
    · intro hi; exact ⟨hi, by simp [Array.getD, show i < l.length by omega]⟩
    · intro hi; exact hi.1
  · simp [Array.getD, show i < l.length by omega] at hl
end Go.Proofs.YtdbgppknggaooaaGreatDoor
namespace Go.Proofs.YtdbgppknggaooaaGreatDoor
open Go.RowKit
def pad64 (bs : List UInt8) : List UInt8 := bs ++ List.replicate (64 - bs.length) 0
theorem pad64_length {bs : List UInt8} (h : bs.length ≤ 64) : (pad64 bs).length = 64 := by simp [pad64]; omega
theorem pad64_app {bs cs : List UInt8} (h : bs.length + cs.length ≤ 64) : (pad64 bs).take bs.length ++ cs ++ (pad64 bs).drop (bs.length + cs.length) = pad64 (bs ++ cs) := by
  unfold pad64
  rw [List.take_append_of_le_length (Nat.le_refl _), List.take_length, List.drop_append, List.drop_of_length_le (by omega), List.nil_append, List.drop_replicate, List.length_append]
  congr 2
  omega
def itemB (st : Int) (k : ByteArray) (d : CellD) : List UInt8 := if st ≠ 0 ∧ rightI st k d = true then [UInt8.ofNat st.toNat, UInt8.ofNat k.size] ++ k.data.toList ++ cellB d else []
theorem step_copy_rowS {P : Program} {ops : Array Oper} {o : Oper} {a : Act} {w : World} {K : Act → World → Prop} {Q : Exit → Act → World → Prop} {E : Prop}
    (hg : o.guard = none) (d x : Operand) (dT sT : TypeId) (hop : o.op = Op.call { callee := Callee.builtin Builtin.copy, args := #[d, x], argTypes := #[dT, sT] })
    (elem : TypeId) (hu : P.underlying dT = some (.slice elem)) (hs : (P.info? elem).map (·.size) = some 1) (g off dLen dCap : Nat) (hd : a.eval d = .slice (some ⟨g, off, none⟩) dLen dCap) (s : ByteArray) (hx : a.eval x = .string s)
    (cur : Array Value) (t : TypeId) (hk : Blk w g t cur) (hle : s.size ≤ dLen) (hfit : off + s.size ≤ cur.size)
    (hK : K (a.put o.dst (goInt s.size)) (w.setRow g (cur.toList.take off ++ Lib.byteCells s.data.toList ++ cur.toList.drop (off + s.size)).toArray)) :
    if Region.wanted o (yielded ops a.tmps) = true then Oper.wp P o a w K Q else E := by
  have hw : Region.wanted o (yielded ops a.tmps) = true := by simp [Region.wanted, hg]
  rw [if_pos hw]
  have hrun := Lib.run_copy_row_string (P := P) w dT sT o.type elem g off dLen dCap s cur t hu hs hk hle hfit
  generalize (cur.toList.take off ++ Lib.byteCells s.data.toList ++ cur.toList.drop (off + s.size)).toArray = X at hrun hK
  unfold Oper.wp
  simp [execOp, hop, resolve, invoke, builtin, hd, hx, hrun, Result.andThen]
  exact hK
theorem wpList_copy_rowS {P : Program} {ops : Array Oper} {rest : List Oper} {o : Oper} {a : Act} {w : World} {Q : Exit → Act → World → Prop}
    (hg : o.guard = none) (d x : Operand) (dT sT : TypeId) (hop : o.op = Op.call { callee := Callee.builtin Builtin.copy, args := #[d, x], argTypes := #[dT, sT] })
    (elem : TypeId) (hu : P.underlying dT = some (.slice elem)) (hs : (P.info? elem).map (·.size) = some 1) (g off dLen dCap : Nat) (hd : a.eval d = .slice (some ⟨g, off, none⟩) dLen dCap) (s : ByteArray) (hx : a.eval x = .string s)
    (cur : Array Value) (t : TypeId) (hk : Blk w g t cur) (hle : s.size ≤ dLen) (hfit : off + s.size ≤ cur.size)
    (hK : wpList P ops Q rest (a.put o.dst (goInt s.size)) (w.setRow g (cur.toList.take off ++ Lib.byteCells s.data.toList ++ cur.toList.drop (off + s.size)).toArray)) : wpList P ops Q (o :: rest) a w :=
  wpList_plain hg fun K hK' => by
    have := step_copy_rowS (ops := ops) (Q := Q) (K := K) (E := False) hg d x dT sT hop elem hu hs g off dLen dCap hd s hx cur t hk hle hfit (hK' _ _ hK)
    have hw : Region.wanted o (yielded ops a.tmps) = true := by simp [Region.wanted, hg]
    rwa [if_pos hw] at this
theorem pad64_cells {bs cs : List UInt8} {n : Nat} (hn : bs.length = n) (h : bs.length + cs.length ≤ 64) : ((((pad64 bs).map byteV).toArray.toList.take n ++ Lib.byteCells cs ++ ((pad64 bs).map byteV).toArray.toList.drop (n + cs.length)).toArray) = ((pad64 (bs ++ cs)).map byteV).toArray := by
  subst hn
  rw [← pad64_app h, List.map_append, List.map_append, List.map_take, List.map_drop]
  rfl
theorem cellB_le34 {d : CellD} (h : rightC d = true) : (cellB d).length ≤ 34 := by
  unfold cellB
  rw [if_pos h]
  have := rightC_kind h
  split
  · simp [beB_length]; omega
  · simp [beB_length]
theorem zeros64 : (#[Value.int IntKind.u8 0, Value.int IntKind.u8 0, Value.int IntKind.u8 0, Value.int IntKind.u8 0, Value.int IntKind.u8 0, Value.int IntKind.u8 0, Value.int IntKind.u8 0, Value.int IntKind.u8 0, Value.int IntKind.u8 0, Value.int IntKind.u8 0, Value.int IntKind.u8 0, Value.int IntKind.u8 0, Value.int IntKind.u8 0, Value.int IntKind.u8 0, Value.int IntKind.u8 0, Value.int IntKind.u8 0, Value.int IntKind.u8 0, Value.int IntKind.u8 0, Value.int IntKind.u8 0, Value.int IntKind.u8 0, Value.int IntKind.u8 0, Value.int IntKind.u8 0, Value.int IntKind.u8 0, Value.int IntKind.u8 0, Value.int IntKind.u8 0, Value.int IntKind.u8 0, Value.int IntKind.u8 0, Value.int IntKind.u8 0, Value.int IntKind.u8 0, Value.int IntKind.u8 0, Value.int IntKind.u8 0, Value.int IntKind.u8 0, Value.int IntKind.u8 0, Value.int IntKind.u8 0, Value.int IntKind.u8 0, Value.int IntKind.u8 0, Value.int IntKind.u8 0, Value.int IntKind.u8 0, Value.int IntKind.u8 0, Value.int IntKind.u8 0, Value.int IntKind.u8 0, Value.int IntKind.u8 0, Value.int IntKind.u8 0, Value.int IntKind.u8 0, Value.int IntKind.u8 0, Value.int IntKind.u8 0, Value.int IntKind.u8 0, Value.int IntKind.u8 0, Value.int IntKind.u8 0, Value.int IntKind.u8 0, Value.int IntKind.u8 0, Value.int IntKind.u8 0, Value.int IntKind.u8 0, Value.int IntKind.u8 0, Value.int IntKind.u8 0, Value.int IntKind.u8 0, Value.int IntKind.u8 0, Value.int IntKind.u8 0, Value.int IntKind.u8 0, Value.int IntKind.u8 0, Value.int IntKind.u8 0, Value.int IntKind.u8 0, Value.int IntKind.u8 0, Value.int IntKind.u8 0] : Array Value) = ((pad64 []).map byteV).toArray := rfl
theorem row64_info (bs : List UInt8) (h : bs.length ≤ 64) : (Tryz.prog.info? 272).map (·.size) = some ((pad64 bs).map byteV).toArray.size := by
  rw [List.size_toArray, List.length_map, pad64_length h]
  kernel_rfl
theorem row_one (bs : List UInt8) : (bs.map byteV).toArray.all (·.oneCell') = true := Array.all_eq_true_iff_forall_mem.2 (fun v hv => by
  have hv : v ∈ bs.map byteV := by simpa using hv
  obtain ⟨x, _, rfl⟩ := List.mem_map.1 hv
  rfl)
theorem byteV_ofNat {m : Nat} (h : m < 256) : Value.int .u8 (m : Int) = byteV (UInt8.ofNat m) := by
  unfold byteV
  rw [UInt8.toNat_ofNat', Nat.mod_eq_of_lt (by omega)]
theorem head64 (st : Int) (m : Nat) (hst : st = 1 ∨ st = 2) (hm : m < 256) : ((((pad64 []).map byteV).toArray.setIfInBounds 0 (.int .u8 st)).setIfInBounds 1 (.int .u8 m)) = ((pad64 [UInt8.ofNat st.toNat, UInt8.ofNat m]).map byteV).toArray := by
  rw [← zeros64, byteV_ofNat hm]
  rcases hst with rfl | rfl <;> rfl
theorem slotPut_any (st : Int) (k : ByteArray) (d : CellD) (A : Option Addr) (n c : Nat) (B : Nat) (w : World) (hk : k.size ≤ 1000000) (hB : B ≤ w.heap.size) (hn : n = d.data.length) (ha : BytesAt w B (.slice A n c) d.data) :
    Calls Tryz.prog 155 #[itemV st k d (.slice A n c)] w fun e w' => e = .returned (.agg ((pad64 (itemB st k d)).map byteV).toArray) ∧ Below w.heap.size w w' := by
  have HC := hide (fun W (hb : Below w.heap.size w W) => slotCheck_any st k d (.slice A n c) B W hk (Nat.le_trans hB hb.size) (ha.below hb hB))
  have HN := hide hn
  have HA := hide ha
  clear hn ha
  unfold itemV at *
  go_enter Tryz.func155, Tryz.ntmps155
  go_upto_region 2 with (fail)
  refine gen3R (R := fun W => Code.wp _ _ _ _ W) (fun W1 kI kR kB hb1 hz1 => ?_)
  rw [zeros64] at kR kB
  have HKI := hide kI
  have HKR := hide kR
  have HKB := hide kB
  have q0 := kI.cell 0
  have q1 := kI.cell 1
  have q2 := kI.cell 2
  have q3 := kI.cell 3
  have q4 := kI.cell 4
  have q5 := kI.cell 5
  have q6 := kI.cell 6
  clear kI kR kB
  cases h0 : (st == 0)
  · have hst0 : st ≠ 0 := by simpa using h0
    cases hr : rightI st k d
    · have HE := hide (show itemE st k d = 1 by unfold itemE; rw [hr]; rfl)
      have HIB := hide (show itemB st k d = [] by unfold itemB; rw [hr, if_neg (by simp)])
      go_wp2_with fail
      refine (HC.out _ hb1).mono ?_
      rintro e W2 ⟨rfl, hb2⟩
      have HKB := hide (Blk.via hb2 HKB.out)
      have HKR := hide (Blk.via hb2 HKR.out)
      have hbw2 := below_via hb1 hb2 hb1.size
      rw [HE.out]
      go_upto_region 3 with (fail)
      have HI := hide (row64_info [] (by simp))
      have H1 := hide (row_one (pad64 []))
      have HO := hide (show ((pad64 []).map byteV).toArray.size = ((pad64 []).map byteV).toArray.size by (simp only [List.size_toArray, List.length_map]) <;> exact (pad64_length (bs := []) (by simp)).trans (pad64_length (by simp)).symm)
      generalize hX : ((pad64 []).map byteV).toArray = X at *
      have HX := hide hX
      clear hX
      have hK2 : Blk (W2.setRow (w.heap.size + 1) X) (w.heap.size + 1) 272 X := setRow_heap W2 (w.heap.size + 1) _ _ _ _ HKR.out
      have hb2 : Below w.heap.size w (W2.setRow (w.heap.size + 1) X) := (touch_setRow W2 (w.heap.size + 1) _).below hbw2 (by omega)
      have HK2 := hide hK2
      clear hK2
      go_wp2_with (first
        | (refine wpList_load_row rfl 272 (.tmp 3) rfl (w.heap.size + 1 + 1) rfl 272 X (0, 0) _ HKB.out Tryz.underlying272 rfl HI.out ?_)
        | (refine wpList_store_row rfl 272 (.tmp 2) (.tmp 12) rfl (w.heap.size + 1) X rfl rfl 272 _ HKR.out HI.out HO.out H1.out ?_))
      exact bodyPost_ret (results_cell_row Tryz.results155 _ _ (w.heap.size + 1) 272 X (0, 0) _ rfl HK2.out Tryz.underlying272 rfl HI.out) rfl ⟨by rw [HIB.out, HX.out], hb2⟩
    · have HE := hide (show itemE st k d = 0 by unfold itemE; rw [hr]; rfl)
      have hor : st = 1 ∨ st = 2 := by
        unfold rightI at hr
        rw [if_neg hst0] at hr
        simp only [Bool.and_eq_true, decide_eq_true_eq] at hr
        exact hr.1
      have hgk : goodKey k = true ∧ rightC d = true := by
        unfold rightI at hr
        rw [if_neg hst0] at hr
        simp only [Bool.and_eq_true, decide_eq_true_eq] at hr
        exact hr.2
      have hk16 : k.size ≤ 16 := by
        have := hgk.1
        unfold goodKey at this
        simp only [Bool.and_eq_true, decide_eq_true_eq] at this
        exact this.2.2
      have hkl : k.data.toList.length = k.size := by rw [Array.length_toList]; rfl
      have HIB := hide (show itemB st k d = [UInt8.ofNat st.toNat, UInt8.ofNat k.size] ++ k.data.toList ++ cellB d by unfold itemB; rw [hr, if_pos ⟨hst0, rfl⟩])
      have hc34 := cellB_le34 hgk.2
      have hpos : 0 < (cellB d).length := by
        unfold cellB
        rw [if_pos hgk.2]
        split <;> simp [beB_length] <;> omega
      go_wp2_with fail
      refine (HC.out _ hb1).mono ?_
      rintro e W2 ⟨rfl, hb2⟩
      have hkB := Blk.via hb2 HKB.out
      have hkI := Blk.via hb2 HKI.out
      have HKR := hide (Blk.via hb2 HKR.out)
      have hbw2 := below_via hb1 hb2 hb1.size
      rw [HE.out]
      clear q0 q1 q2 q3 q4 q5 q6
      have q0 := hkI.cell 0
      have q1 := hkI.cell 1
      have c0 : W2.cell? ⟨w.heap.size + 1 + 1, 0, none⟩ = some (.int .u8 0) := hkB.cell 0
      have c1 : W2.cell? ⟨w.heap.size + 1 + 1, 1, none⟩ = some (.int .u8 0) := hkB.cell 1
      have f0 := hkB.frozen 0
      have f1 := hkB.frozen 1
      have HKB := hide hkB
      have HKI := hide hkI
      have l0 := hkB.lt
      clear hkB hkI hr hgk h0
      have s1 : (st == 0) = false := by simpa using hst0
      have HKL := hide hkl
      clear hkl
      go_upto_region 6 with (fail)
      clear q0 q1 c0 c1 f0 f1
      generalize hW3 : (W2.setCell ⟨w.heap.size + 1 + 1, 0, none⟩ (Value.int IntKind.u8 st)).setCell ⟨w.heap.size + 1 + 1, 1, none⟩ (Value.int IntKind.u8 (k.size : Nat)) = W3
      have kB3 : Blk W3 (w.heap.size + 1 + 1) 272 ((pad64 [UInt8.ofNat st.toNat, UInt8.ofNat k.size]).map byteV).toArray := by
        rw [← hW3, ← head64 st k.size hor (by omega)]
        exact (HKB.out.set_ 0 _).set_ 1 _
      have kI3 : Blk W3 w.heap.size 27 _ := hW3 ▸ (HKI.out.far (p := ⟨w.heap.size + 1 + 1, 0, none⟩) (by simp; omega) _).far (p := ⟨w.heap.size + 1 + 1, 1, none⟩) (by simp; omega) _
      have kR3 : Blk W3 (w.heap.size + 1) 272 _ := hW3 ▸ (HKR.out.far (p := ⟨w.heap.size + 1 + 1, 0, none⟩) (by simp) _).far (p := ⟨w.heap.size + 1 + 1, 1, none⟩) (by simp) _
      have hb3 : Below w.heap.size w W3 := hW3 ▸ (hbw2.setCell (p := ⟨w.heap.size + 1 + 1, 0, none⟩) (by simp; omega) _).setCell (p := ⟨w.heap.size + 1 + 1, 1, none⟩) (by simp; omega) _
      clear hW3 HKB HKI HKR
      have HKB := hide kB3
      have HKI := hide kI3
      have HKR := hide kR3
      clear kB3 kI3 kR3
      refine wp_region_inv_tail 3 [fun v _ => v = .slice (some ⟨w.heap.size + 1 + 1, 2, none⟩) 62 62, fun v _ => v = .pointer (some ⟨w.heap.size, 1, none⟩), fun v _ => v = .string k] (by kernel_rfl) (by kernel_rfl) (by kernel_rfl) (by kernel_rfl) (by kernel_rfl) (by simp) (by kernel_rfl) ?st ?steps ?fin
      case st =>
        intro i v W W' _ h
        match i with
        | 0 => exact h
        | 1 => exact h
        | 2 => exact h
        | (i + 3) => exact h
      case steps =>
        simp only [stepsT, List.take_succ_cons, List.take_zero]
        refine ⟨?_, ?_, ?_, trivial⟩
        · intro f W hbW hdp
          simp only [fillF, Act.put, List.setIfInBounds_toArray, List.set_cons_succ, List.set_cons_zero]
          go_wp2
          exact ⟨rfl, _, rfl, rfl, Below.refl _ _⟩
        · intro f W hbW hdp
          simp only [fillF, Act.put, List.setIfInBounds_toArray, List.set_cons_succ, List.set_cons_zero]
          go_wp2
          exact ⟨rfl, _, rfl, rfl, Below.refl _ _⟩
        · intro f W hbW hdp
          have q1 := (Blk.via hbW HKI.out).cell 1
          have e1 : f 1 = .pointer (some ⟨w.heap.size, 1, none⟩) := hdp ⟨1, .data⟩ (mfl (by simp) rfl)
          simp only [fillF, Act.put, List.setIfInBounds_toArray, List.set_cons_succ, List.set_cons_zero, e1]
          go_wp2
          exact ⟨rfl, _, rfl, rfl, Below.refl _ _⟩
      case fin =>
        intro f W hbW hA
        have e0 : f 0 = .slice (some ⟨w.heap.size + 1 + 1, 2, none⟩) 62 62 := hA 0 (by omega)
        have e2 : f 2 = .string k := hA 2 (by omega)
        simp only [List.drop_succ_cons, List.drop_zero, fillF, List.take_succ_cons, List.take_zero, Act.put, List.setIfInBounds_toArray, List.set_cons_succ, List.set_cons_zero, e0, e2]
        have kb := Blk.via hbW HKB.out
        refine wpList_copy_rowS rfl _ _ _ _ rfl 5 Tryz.underlying23 size_u8 (w.heap.size + 1 + 1) 2 62 62 rfl k rfl _ _ kb (by omega) (by simp only [List.size_toArray, List.length_map]; rw [pad64_length (by simp)]; omega) ?_
        have HC2 := hide (pad64_cells (bs := [UInt8.ofNat st.toNat, UInt8.ofNat k.size]) (cs := k.data.toList) (n := 2) rfl (by rw [HKL.out]; simp; omega))
        rw [HKL.out] at HC2
        rw [HC2.out]
        have kB4 : Blk (W.setRow (w.heap.size + 1 + 1) ((pad64 ([UInt8.ofNat st.toNat, UInt8.ofNat k.size] ++ k.data.toList)).map byteV).toArray) (w.heap.size + 1 + 1) 272 ((pad64 ([UInt8.ofNat st.toNat, UInt8.ofNat k.size] ++ k.data.toList)).map byteV).toArray := setRow_heap W (w.heap.size + 1 + 1) _ _ _ _ kb
        have tT := touch_setRow W (w.heap.size + 1 + 1) ((pad64 ([UInt8.ofNat st.toNat, UInt8.ofNat k.size] ++ k.data.toList)).map byteV).toArray
        generalize W.setRow (w.heap.size + 1 + 1) ((pad64 ([UInt8.ofNat st.toNat, UInt8.ofNat k.size] ++ k.data.toList)).map byteV).toArray = W4 at *
        have kI4 := tT.blk (Blk.via hbW HKI.out) (by omega)
        have kR4 := tT.blk (Blk.via hbW HKR.out) (by omega)
        have hb4 : Below w.heap.size w W4 := tT.below (below_via hb3 hbW hb3.size) (by omega)
        have hz4 := hb4.size
        clear tT kb hA e0 e2 HKB HKI HKR
        have HKB := hide kB4
        have HKI := hide kI4
        have HKR := hide kR4
        clear kB4 kI4 kR4 HC2
        generalize f (0 + 1) = v23
        clear hbW hb3
        go_frame
        go_upto_region 7 with (fail)
        have HP := hide (fun W (hb : Below w.heap.size w W) => cellPut_any d A n c B W (Nat.le_trans hB hb.size) HN.out ((by obtain ⟨A', n', c', e, _, _, _, _, hr⟩ := HA.out.below hb hB; injection e with e1 e2 e3; subst e1 e2; exact hr)))
        refine wp_region_inv_tail 8 [fun v _ => v = .pointer (some ⟨w.heap.size, 1, none⟩), fun v _ => v = .string k, fun v _ => v = .int .i64 (k.size : Nat), fun v _ => v = .int .i64 (2 + (k.size : Nat)),
          fun v _ => ∃ m : Nat, m + (2 + k.size) = 64 ∧ v = .slice (some ⟨w.heap.size + 1 + 1, 2 + k.size, none⟩) m m, fun v _ => v = .pointer (some ⟨w.heap.size, 2, none⟩), fun v _ => v = .agg #[.int .i64 d.kind, .slice A n c, .int .i64 d.lo, .int .i64 d.hi, .int .i64 d.val],
          fun v W => ∃ A' c', v = .slice A' (cellB d).length c' ∧ Reads W W.heap.size 1 A' (cellB d).length ((cellB d).map byteV)] (by kernel_rfl) (by kernel_rfl) (by kernel_rfl) (by kernel_rfl) (by kernel_rfl) (by simp) (by kernel_rfl) ?st2 ?steps2 ?fin2
        case st2 =>
          intro i v W W' hb h
          match i with
          | 0 => exact h
          | 1 => exact h
          | 2 => exact h
          | 3 => exact h
          | 4 => exact h
          | 5 => exact h
          | 6 => exact h
          | 7 =>
            obtain ⟨A', c', e, hr⟩ := h
            exact ⟨A', c', e, (hr.below hb (Nat.le_refl _)).more hb.size⟩
          | (i + 8) => exact h
        case steps2 =>
          simp only [stepsT, List.take_succ_cons, List.take_zero]
          refine ⟨?_, ?_, ?_, ?_, ?_, ?_, ?_, ?_, trivial⟩
          · intro f W hbW hdp
            simp only [fillF, Act.put, List.setIfInBounds_toArray, List.set_cons_succ, List.set_cons_zero]
            go_wp2
            exact ⟨rfl, _, rfl, rfl, Below.refl _ _⟩
          · intro f W hbW hdp
            have q1 := (Blk.via hbW HKI.out).cell 1
            have e1 : f 0 = .pointer (some ⟨w.heap.size, 1, none⟩) := hdp ⟨0, .data⟩ (mfl (by simp) rfl)
            simp only [fillF, Act.put, List.setIfInBounds_toArray, List.set_cons_succ, List.set_cons_zero, e1]
            go_wp2
            exact ⟨rfl, _, rfl, rfl, Below.refl _ _⟩
          · intro f W hbW hdp
            have e1 : f 1 = .string k := hdp ⟨1, .data⟩ (mfl (by simp) rfl)
            simp only [fS, Nat.reduceAdd, e1]
            go_wp2
            exact ⟨rfl, _, rfl, rfl, Below.refl _ _⟩
          · intro f W hbW hdp
            have e1 : f 2 = .int .i64 (k.size : Nat) := hdp ⟨2, .data⟩ (mfl (by simp) rfl)
            simp only [fS, Nat.reduceAdd, e1]
            go_wp2
            exact ⟨rfl, _, rfl, rfl, Below.refl _ _⟩
          · intro f W hbW hdp
            obtain ⟨j, hj⟩ : ∃ j : Nat, j = 2 + k.size := ⟨_, rfl⟩
            have e1 : f 3 = .int .i64 (j : Nat) := by
              have h : f 3 = .int .i64 (2 + (k.size : Nat)) := hdp ⟨3, .data⟩ (mfl (by simp) rfl)
              rw [h, hj, Int.natCast_add]
              rfl
            have HJ := hide hj
            have b1 : (0 : Int) ≤ j := by omega
            have b2 : (j : Int) ≤ 64 := by omega
            have b3 : j ≤ 64 := by omega
            have b4 : ¬ 64 = j := by omega
            clear hj
            simp only [fS, Nat.reduceAdd, e1]
            go_wp2
            have hj := HJ.out
            subst hj
            exact ⟨rfl, _, rfl, ⟨64 - (2 + k.size), by omega, rfl⟩, Below.refl _ _⟩
          · intro f W hbW hdp
            simp only [fillF, Act.put, List.setIfInBounds_toArray, List.set_cons_succ, List.set_cons_zero]
            go_wp2
            exact ⟨rfl, _, rfl, rfl, Below.refl _ _⟩
          · intro f W hbW hdp
            have kI5 := Blk.via hbW HKI.out
            have q2 := kI5.cell 2
            have q3 := kI5.cell 3
            have q4 := kI5.cell 4
            have q5 := kI5.cell 5
            have q6 := kI5.cell 6
            have e1 : f 5 = .pointer (some ⟨w.heap.size, 2, none⟩) := hdp ⟨5, .data⟩ (mfl (by simp) rfl)
            simp only [fS, Nat.reduceAdd, e1]
            go_wp2
            exact ⟨rfl, _, rfl, rfl, Below.refl _ _⟩
          · intro f W hbW hdp
            have e1 : f 6 = .agg #[.int .i64 d.kind, .slice A n c, .int .i64 d.lo, .int .i64 d.hi, .int .i64 d.val] := hdp ⟨6, .data⟩ (mfl (by simp) rfl)
            simp only [fS, Nat.reduceAdd, e1]
            go_wp2_with fail
            refine (HP.out _ (below_via hb4 hbW hb4.size)).mono ?_
            rintro e W6 ⟨A6, c6, rfl, _, _, hr6, hb6⟩
            have HR6 := hide hr6
            clear hr6
            go_wp2_with fail
            exact ⟨rfl, _, rfl, ⟨A6, c6, rfl, HR6.out⟩, hb6⟩
        case fin2 =>
          intro f W hbW hA
          obtain ⟨m, hm, e4⟩ : ∃ m : Nat, m + (2 + k.size) = 64 ∧ f 4 = .slice (some ⟨w.heap.size + 1 + 1, 2 + k.size, none⟩) m m := hA 4 (by omega)
          obtain ⟨A', c', e7, hr7⟩ : ∃ A' c', f 7 = .slice A' (cellB d).length c' ∧ Reads W W.heap.size 1 A' (cellB d).length ((cellB d).map byteV) := hA 7 (by omega)
          obtain ⟨ad, rfl, _, hrd⟩ := hr7.2 hpos
          simp only [List.drop_succ_cons, List.drop_zero, fillF, List.take_succ_cons, List.take_zero, Act.put, List.setIfInBounds_toArray, List.set_cons_succ, List.set_cons_zero, Nat.reduceAdd, e4, e7]
          have kb := Blk.via hbW HKB.out
          have hmin : Nat.min (cellB d).length m = (cellB d).length := Nat.min_eq_left (by omega)
          refine wpList_copy_blk rfl _ _ _ _ rfl 5 1 Tryz.underlying23 size_u8 (w.heap.size + 1 + 1) (2 + k.size) 272 _ ((cellB d).map byteV) m m (cellB d).length c' ad rfl rfl kb (by rw [List.length_map, hmin, Nat.mul_one]) hrd (by rw [List.length_map, List.length_map, pad64_length (by simp [HKL.out]; omega)]; omega) (bytes_one _) ?_
          intro v' W5 hk5 ht5
          have hsp : (spl ((pad64 ([UInt8.ofNat st.toNat, UInt8.ofNat k.size] ++ k.data.toList)).map byteV) (2 + k.size) ((cellB d).map byteV)).toArray = ((pad64 ([UInt8.ofNat st.toNat, UInt8.ofNat k.size] ++ k.data.toList ++ cellB d)).map byteV).toArray := by
            rw [← pad64_cells (n := 2 + k.size) (by simp [HKL.out]; omega) (by simp [HKL.out]; omega)]
            unfold spl
            rw [List.length_map, List.append_assoc]
            rfl
          rw [hsp] at hk5
          have HKB := hide hk5
          have HKR := hide (ht5.blk (Blk.via hbW HKR.out) (by omega))
          have hb5 : Below w.heap.size w W5 := ht5.below (below_via hb4 hbW hb4.size) (by omega)
          generalize f 0 = u0
          generalize f 1 = u1
          generalize f 2 = u2
          generalize f 3 = u3
          generalize f 5 = u5
          generalize f 6 = u6
          clear hk5 ht5 kb hA e4 e7 hrd hr7 hbW hb4 hsp
          go_frame
          have HI := hide (row64_info ([UInt8.ofNat st.toNat, UInt8.ofNat k.size] ++ k.data.toList ++ cellB d) (by simp [HKL.out]; omega))
          have H1 := hide (row_one (pad64 ([UInt8.ofNat st.toNat, UInt8.ofNat k.size] ++ k.data.toList ++ cellB d)))
          have HO := hide (show ((pad64 []).map byteV).toArray.size = ((pad64 ([UInt8.ofNat st.toNat, UInt8.ofNat k.size] ++ k.data.toList ++ cellB d)).map byteV).toArray.size by (simp only [List.size_toArray, List.length_map]) <;> exact (pad64_length (bs := []) (by simp)).trans (pad64_length (by simp [HKL.out]; omega)).symm)
          generalize hX : ((pad64 ([UInt8.ofNat st.toNat, UInt8.ofNat k.size] ++ k.data.toList ++ cellB d)).map byteV).toArray = X at *
          have HX := hide hX
          clear hX
          have hK2 : Blk (W5.setRow (w.heap.size + 1) X) (w.heap.size + 1) 272 X := setRow_heap W5 (w.heap.size + 1) _ _ _ _ HKR.out
          have hb2 : Below w.heap.size w (W5.setRow (w.heap.size + 1) X) := (touch_setRow W5 (w.heap.size + 1) _).below hb5 (by omega)
          have HK2 := hide hK2
          clear hK2
          go_wp2_with (first
            | (refine wpList_load_row rfl 272 (.tmp 3) rfl (w.heap.size + 1 + 1) rfl 272 X (0, 0) _ HKB.out Tryz.underlying272 rfl HI.out ?_)
            | (refine wpList_store_row rfl 272 (.tmp 2) (.tmp 35) rfl (w.heap.size + 1) X rfl rfl 272 _ HKR.out HI.out HO.out H1.out ?_))
          exact bodyPost_ret (results_cell_row Tryz.results155 _ _ (w.heap.size + 1) 272 X (0, 0) _ rfl HK2.out Tryz.underlying272 rfl HI.out) rfl ⟨by rw [HIB.out, HX.out], hb2⟩
  · have HIB := hide (show itemB st k d = [] by unfold itemB; rw [if_neg (fun h => h.1 (by simpa using h0))])
    go_upto_region 3 with (fail)
    have HI := hide (row64_info [] (by simp))
    have H1 := hide (row_one (pad64 []))
    have HO := hide (show ((pad64 []).map byteV).toArray.size = ((pad64 []).map byteV).toArray.size by (simp only [List.size_toArray, List.length_map]) <;> exact (pad64_length (bs := []) (by simp)).trans (pad64_length (by simp)).symm)
    generalize hX : ((pad64 []).map byteV).toArray = X at *
    have HX := hide hX
    clear hX
    have hK2 : Blk (W1.setRow (w.heap.size + 1) X) (w.heap.size + 1) 272 X := setRow_heap W1 (w.heap.size + 1) _ _ _ _ HKR.out
    have hb2 : Below w.heap.size w (W1.setRow (w.heap.size + 1) X) := (touch_setRow W1 (w.heap.size + 1) _).below hb1 (by omega)
    have HK2 := hide hK2
    clear hK2
    go_wp2_with (first
      | (refine wpList_load_row rfl 272 (.tmp 3) rfl (w.heap.size + 1 + 1) rfl 272 X (0, 0) _ HKB.out Tryz.underlying272 rfl HI.out ?_)
      | (refine wpList_store_row rfl 272 (.tmp 2) (.tmp 12) rfl (w.heap.size + 1) X rfl rfl 272 _ HKR.out HI.out HO.out H1.out ?_))
    exact bodyPost_ret (results_cell_row Tryz.results155 _ _ (w.heap.size + 1) 272 X (0, 0) _ rfl HK2.out Tryz.underlying272 rfl HI.out) rfl ⟨by rw [HIB.out, HX.out], hb2⟩
end Go.Proofs.YtdbgppknggaooaaGreatDoor
namespace Go.Proofs.YtdbgppknggaooaaGreatDoor
open Go.RowKit
def recV (x : RecV) : Value := .agg #[.int .i64 x.kind, .int .i64 x.txn, .int .i64 x.prev, .int .i64 x.next, x.pv, .int .i64 x.undo.act, .string x.undo.key, .int .i64 x.undo.state, .string x.undo.ikey, .int .i64 x.undo.cell.kind, x.undo.cv, .int .i64 x.undo.cell.lo, .int .i64 x.undo.cell.hi, .int .i64 x.undo.cell.val, .int .i64 x.undo.n]
end Go.Proofs.YtdbgppknggaooaaGreatDoor
namespace Go.Proofs.YtdbgppknggaooaaGreatDoor
open Go.RowKit
def MuchP (w : World) (ok : Prop) (e : Ending) (w' : World) : Prop := ∃ b, e = .returned (.bool b) ∧ (b = false → ok) ∧ Below w.heap.size w w'
theorem muchR_any (v : Value) (rs : List RunV) (B : Nat) (w : World) (h : Runs w B v rs) :
    Calls Tryz.prog 16 #[v] w (MuchP w (rs.length ≤ 60 ∧ ∀ r ∈ rs, RunSm r)) := by
  have HSA := hide h.1
  have HD := hide h.2
  obtain ⟨A, c, hpv, hc, hm, hnil, _⟩ := h.1
  subst hpv
  obtain ⟨m, hm'⟩ : ∃ m, m = rs.length := ⟨_, rfl⟩
  have HML := hide hm'
  rw [← hm']
  clear h hm' hc hm hnil
  go_enter Tryz.func16, Tryz.ntmps16
  go_wp2
  go_loopw [3] (fun iv wr => ∃ k : Nat, k ≤ m ∧ k ≤ 100 ∧ iv = .int .i64 k ∧ Hid (∀ r ∈ rs.take k, RunSm r) ∧ wr = w) (fun iv _ => m - (intOf iv).toNat)
  case atStart => exact ⟨0, Nat.zero_le _, by omega, rfl, hide (by simp), rfl⟩
  case round =>
    obtain ⟨k, hk, hk100, rfl, hT, rfl⟩ := hrel
    by_cases hlt : (k : Int) < m
    rotate_left
    · have hke : k = m := by omega
      have HKE := hide hke
      clear hke
      go_wp2
      go_ret
      refine ⟨_, rfl, fun hb => ?_, Below.refl _ _⟩
      have h1 := HKE.out
      have h2 := HML.out
      have h3 : ¬ (60 : Int) < m := by simpa using hb
      refine ⟨by omega, fun r hr => hT.out r ?_⟩
      rw [List.take_of_length_le (by omega)]
      exact hr
    · have hkl : k < m := by omega
      by_cases h100 : (k : Int) < 100
      rotate_left
      · have HKE := hide (show 100 ≤ m by omega)
        clear hkl
        go_wp2
        go_ret
        refine ⟨_, rfl, fun hb => ?_, Below.refl _ _⟩
        have h1 := HKE.out
        have h3 : ¬ (60 : Int) < m := by simpa using hb
        omega
      · have hlt' : k < rs.length := by have := HML.out; omega
        obtain ⟨b, o, c', y, e0, hb, hx, _, _, hcell⟩ := SliceAt.at_ RunV.cells_length (by omega) HSA.out hlt'
        injection e0 with e1 e2 e3
        subst e1 e3
        obtain ⟨Ay, ny, cy, hy1, _, _, hy4, _⟩ := HD.out y (List.mem_of_getElem? hx)
        have c1 : wr.cell? ⟨b, o + k * 2 + 1, none⟩ = some (.slice Ay ny cy) := by rw [← hy1]; exact hcell 1 _ rfl
        have HX := hide hx
        have HY := hide hy4
        have u0 : (0 : Int) ≤ k := by omega
        have u1 : (k : Int) < m := by omega
        clear hx hcell hy1 hy4
        by_cases h6 : (600 : Int) < ny
        rotate_left
        · have HN := hide (show ∀ r ∈ rs.take (k + 1), RunSm r by
            obtain ⟨l1, e1⟩ := List.getElem?_eq_some_iff.1 HX.out
            rw [List.take_succ_eq_append_getElem l1, e1]
            intro r hr
            rcases List.mem_append.1 hr with hr | hr
            · exact hT.out r hr
            · obtain rfl : r = y := by simpa using hr
              have := HY.out
              unfold RunSm
              omega)
          have h101 : k + 1 ≤ 100 := by omega
          go_wp2
          go_roundw
          case rel => exact ⟨k + 1, by omega, h101, by go_num, HN, by trivial⟩
          case measure => simp [intOf]; omega
        · go_wp2
          go_ret
          exact ⟨true, rfl, fun h => (by cases h), Below.refl _ _⟩
theorem much_any (x : RecV) (B : Nat) (w : World) (hB : B ≤ w.heap.size) (ha : RecOk w B x) : Calls Tryz.prog 4 #[recV x] w (MuchP w (RecSm x)) := by
  obtain ⟨⟨hsa, hok⟩, hu⟩ := ha
  have HMR := hide (fun (p : PatV) W (hp : p ∈ x.pats) (hb : Below w.heap.size w W) => muchR_any p.rv p.runs B W ((hok p hp).below hb hB))
  have HFM := hide (fun (p : PatV) (hp : p ∈ x.pats) => (hok p hp).1.form)
  have HSA := hide hsa
  obtain ⟨Au, nu, cu, huv, _, _, hul, _⟩ := hu
  obtain ⟨A, c, hpv, hc, hm, hnil, _⟩ := hsa
  obtain ⟨kd, tx, pr, nx, ps, pv, un⟩ := x
  obtain ⟨yu1, yu2, yu3, yu4, ⟨d1, d2, d3, d4, d5⟩, yuv, yu7⟩ := un
  dsimp only at *
  subst hpv huv
  obtain ⟨m, hm'⟩ : ∃ m, m = ps.length := ⟨_, rfl⟩
  have HML := hide hm'
  have HUL := hide hul
  have HSM := hide (show (m ≤ 6 ∧ (∀ p ∈ ps, PatSm p) ∧ yu2.size ≤ 300 ∧ yu4.size ≤ 300 ∧ nu ≤ 300) → RecSm ⟨kd, tx, pr, nx, ps, .slice A ps.length c, ⟨yu1, yu2, yu3, yu4, ⟨d1, d2, d3, d4, d5⟩, .slice Au nu cu, yu7⟩⟩ from by
    rintro ⟨h1, h2, h3, h4, h5⟩
    exact ⟨by rw [← hm']; exact h1, h2, h3, h4, by rw [← hul]; exact h5⟩)
  generalize RecSm ⟨kd, tx, pr, nx, ps, .slice A ps.length c, ⟨yu1, yu2, yu3, yu4, ⟨d1, d2, d3, d4, d5⟩, .slice Au nu cu, yu7⟩⟩ = OK at *
  unfold recV
  dsimp only
  rw [← hm']
  clear hm' hc hm hnil hok hul
  go_enter Tryz.func4, Tryz.ntmps4
  go_upto_region 1 with (fail)
  refine gen1 (R := fun W => Code.wp _ _ _ _ W) (fun W1 kb hb1 hz1 => ?_)
  have HKB := hide kb
  have HB1 := hide hb1
  have hl1 := kb.lt
  clear kb hb1
  go_wp2
  go_loopw [3] (fun iv wr => ∃ k : Nat, k ≤ m ∧ k ≤ 10 ∧ iv = .int .i64 k ∧ Hid (∀ p ∈ ps.take k, PatSm p) ∧ Below W1.heap.size W1 wr) (fun iv _ => m - (intOf iv).toNat)
  case atStart => exact ⟨0, Nat.zero_le _, by omega, rfl, hide (by simp), Below.refl _ _⟩
  case round =>
    obtain ⟨k, hk, hk10, rfl, hT, hbw⟩ := hrel
    have kb := Blk.via hbw HKB.out
    have q4 := kb.cell 4
    have q6 := kb.cell 6
    have q8 := kb.cell 8
    have q10 := kb.cell 10
    have lb := kb.lt
    have HBW := hide hbw
    have hbww := below_via HB1.out hbw HB1.out.size
    have HBWW := hide hbww
    clear kb hbw hbww
    by_cases hlt : (k : Int) < m
    · by_cases h10 : (k : Int) < 10
      · have hlt' : k < ps.length := by have := HML.out; omega
        obtain ⟨b, o, c', y, e0, hb, hx, _, _, hcell⟩ := SliceAt.at_ PatV.cells_length (by omega) (HSA.out.keep (w' := wr) (fun p hp => HBWW.out.cell (by omega))) hlt'
        injection e0 with e1 e2 e3
        subst e1 e3
        obtain ⟨Ay, cy, hy1, _⟩ := HFM.out y (List.mem_of_getElem? hx)
        have c2 : wr.cell? ⟨b, o + k * 3 + 2, none⟩ = some (.slice Ay y.runs.length cy) := by rw [← hy1]; exact hcell 2 _ rfl
        have HX := hide hx
        have HC := HMR.out y wr (List.mem_of_getElem? hx) HBWW.out
        rw [hy1] at HC
        have HC := hide HC
        have u0 : (0 : Int) ≤ k := by omega
        have u1 : (k : Int) < m := by omega
        generalize hyl : y.runs.length = yn at *
        have HYL := hide hyl
        clear hx hcell hy1 hyl
        go_upto_region 4 with (fail)
        go_wp2_with (go_at_call 16; refine HC.out.mono ?_; rintro e W4 ⟨bb, rfl, hbb, hb4⟩; have HBB := hide hbb; have HB4 := hide hb4; clear hbb hb4; cases bb)
        · have HN := hide (show ∀ p ∈ ps.take (k + 1), PatSm p by
            obtain ⟨l1, e1⟩ := List.getElem?_eq_some_iff.1 HX.out
            rw [List.take_succ_eq_append_getElem l1, e1]
            intro r hr
            rcases List.mem_append.1 hr with hr | hr
            · exact hT.out r hr
            · obtain rfl : r = y := by simpa using hr
              have h2 := HBB.out (by first | rfl | trivial)
              exact ⟨by have := HYL.out; omega, h2.2⟩)
          have HB4' := hide (HBW.out.trans (HB4.out.mono HBW.out.size))
          have hk11 : k + 1 ≤ 10 := by omega
          go_roundw
          case rel => exact ⟨k + 1, by omega, hk11, by go_num, HN, HB4'.out⟩
          case measure => simp [intOf]; omega
        · go_ret
          exact ⟨true, rfl, fun h => (by cases h), HBWW.out.trans (HB4.out.mono HBWW.out.size)⟩
      · have h6 : (6 : Int) < m := by omega
        go_wp2
        go_ret
        exact ⟨true, rfl, fun h => (by cases h), HBWW.out⟩
    · have hkm : k = m := by omega
      have HKM := hide hkm
      clear hkm
      by_cases h6 : (6 : Int) < m
      · go_wp2
        go_ret
        exact ⟨true, rfl, fun h => (by cases h), HBWW.out⟩
      · by_cases h7 : (300 : Int) < yu2.size
        · go_wp2
          go_ret
          exact ⟨true, rfl, fun h => (by cases h), HBWW.out⟩
        · by_cases h8 : (300 : Int) < yu4.size
          · go_wp2
            go_ret
            exact ⟨true, rfl, fun h => (by cases h), HBWW.out⟩
          · by_cases h9 : (300 : Int) < nu
            · go_wp2
              go_ret
              exact ⟨true, rfl, fun h => (by cases h), HBWW.out⟩
            · go_wp2
              go_ret
              refine ⟨false, rfl, fun _ => HSM.out ⟨by omega, fun p hp => hT.out p ?_, by omega, by omega, by omega⟩, HBWW.out⟩
              rw [List.take_of_length_le (by have := HML.out; have := HKM.out; omega)]
              exact hp
end Go.Proofs.YtdbgppknggaooaaGreatDoor
namespace Go.Proofs.YtdbgppknggaooaaGreatDoor
open Go.RowKit Go.Shelf Go.Maps
def spineC : Nat → Code → Code
  | k + 1, .seq _ y => spineC k y
  | _, c => c
def codeOf (f : Func) : Code :=
  match f.body with
  | some c => c
  | none => .skip
def nextI (x : RecV) : Int := if x.kind = 2 then x.next else x.prev
def nextB (x : RecV) : Bool := decide (x.kind = 1) && !decide (x.undo.act = 0)
theorem next_any (x : RecV) (w : World) : Calls Tryz.prog 6 #[recV x] w fun e w' => e = .returned (.tuple #[.int .i64 (nextI x), .bool (nextB x)]) ∧ Below w.heap.size w w' := by
  obtain ⟨kd, tx, pr, nx, ps, pv, ⟨ua, uk, us, ui, ⟨uc, ud, ulo, uhi, uval⟩, uv, un⟩⟩ := x
  unfold nextI nextB recV
  dsimp only
  by_cases h1 : kd = 1
  · subst h1
    by_cases h2 : ua = 0
    · subst h2
      go_enter Tryz.func6, Tryz.ntmps6
      go_upto_region 1 with (fail)
      refine gen1 (R := fun W => Code.wp _ _ _ _ W) (fun W1 kb hb1 hz1 => ?_)
      have q0 := kb.cell 0
      have q2 := kb.cell 2
      have q3 := kb.cell 3
      have q5 := kb.cell 5
      have ql := kb.lt
      clear kb
      go_wp2
      go_ret2
      exact ⟨by first | rfl | simp_all, by first | exact hb1 | exact below_drewN hb1 _⟩
    · have h3 : (!decide (ua = 0)) = true := by simp [h2]
      rw [h3]
      go_enter Tryz.func6, Tryz.ntmps6
      go_upto_region 1 with (fail)
      refine gen1 (R := fun W => Code.wp _ _ _ _ W) (fun W1 kb hb1 hz1 => ?_)
      have q0 := kb.cell 0
      have q2 := kb.cell 2
      have q3 := kb.cell 3
      have q5 := kb.cell 5
      have ql := kb.lt
      clear kb
      go_wp2
      go_ret2
      exact ⟨by first | rfl | simp_all, by first | exact hb1 | exact below_drewN hb1 _⟩
  · by_cases h2 : kd = 2
    · subst h2
      go_enter Tryz.func6, Tryz.ntmps6
      go_upto_region 1 with (fail)
      refine gen1 (R := fun W => Code.wp _ _ _ _ W) (fun W1 kb hb1 hz1 => ?_)
      have q0 := kb.cell 0
      have q2 := kb.cell 2
      have q3 := kb.cell 3
      have q5 := kb.cell 5
      have ql := kb.lt
      clear kb
      go_wp2
      go_ret2
      exact ⟨by first | rfl | simp_all, by first | exact hb1 | exact below_drewN hb1 _⟩
    · rw [if_neg h2, decide_eq_false h1]
      go_enter Tryz.func6, Tryz.ntmps6
      go_upto_region 1 with (fail)
      refine gen1 (R := fun W => Code.wp _ _ _ _ W) (fun W1 kb hb1 hz1 => ?_)
      have q0 := kb.cell 0
      have q2 := kb.cell 2
      have q3 := kb.cell 3
      have q5 := kb.cell 5
      have ql := kb.lt
      clear kb
      go_wp2
      go_ret2
      exact ⟨by first | rfl | simp_all, by first | exact hb1 | exact below_drewN hb1 _⟩
theorem rNext27_any (x : RecV) (w : World) : Calls Tryz.prog 7 #[recV x] w fun e w' => e = .returned (.tuple #[.int .i64 (nextI x), .bool (nextB x)]) ∧ Below w.heap.size w w' := by
  obtain ⟨kd, tx, pr, nx, ps, pv, ⟨ua, uk, us, ui, ⟨uc, ud, ulo, uhi, uval⟩, uv, un⟩⟩ := x
  unfold nextI nextB recV
  dsimp only
  by_cases h1 : kd = 1
  · subst h1
    by_cases h2 : ua = 0
    · subst h2
      go_enter Tryz.func7, Tryz.ntmps7
      go_upto_region 1 with (fail)
      refine gen1 (R := fun W => Code.wp _ _ _ _ W) (fun W1 kb hb1 hz1 => ?_)
      have q0 := kb.cell 0
      have q2 := kb.cell 2
      have q3 := kb.cell 3
      have q5 := kb.cell 5
      have ql := kb.lt
      clear kb
      go_wp2
      go_quiet (fail)
      go_wp2
      go_ret2
      exact ⟨by first | rfl | simp_all, by first | exact hb1 | exact below_drewN hb1 _⟩
    · have h3 : (!decide (ua = 0)) = true := by simp [h2]
      rw [h3]
      go_enter Tryz.func7, Tryz.ntmps7
      go_upto_region 1 with (fail)
      refine gen1 (R := fun W => Code.wp _ _ _ _ W) (fun W1 kb hb1 hz1 => ?_)
      have q0 := kb.cell 0
      have q2 := kb.cell 2
      have q3 := kb.cell 3
      have q5 := kb.cell 5
      have ql := kb.lt
      clear kb
      go_wp2
      go_quiet (fail)
      go_wp2
      go_ret2
      exact ⟨by first | rfl | simp_all, by first | exact hb1 | exact below_drewN hb1 _⟩
  · by_cases h2 : kd = 2
    · subst h2
      go_enter Tryz.func7, Tryz.ntmps7
      go_upto_region 1 with (fail)
      refine gen1 (R := fun W => Code.wp _ _ _ _ W) (fun W1 kb hb1 hz1 => ?_)
      have q0 := kb.cell 0
      have q2 := kb.cell 2
      have q3 := kb.cell 3
      have q5 := kb.cell 5
      have ql := kb.lt
      clear kb
      go_wp2
      go_ret2
      exact ⟨by first | rfl | simp_all, by first | exact hb1 | exact below_drewN hb1 _⟩
    · rw [if_neg h2, decide_eq_false h1]
      go_enter Tryz.func7, Tryz.ntmps7
      go_upto_region 1 with (fail)
      refine gen1 (R := fun W => Code.wp _ _ _ _ W) (fun W1 kb hb1 hz1 => ?_)
      have q0 := kb.cell 0
      have q2 := kb.cell 2
      have q3 := kb.cell 3
      have q5 := kb.cell 5
      have ql := kb.lt
      clear kb
      go_wp2
      go_quiet (fail)
      go_wp2
      go_ret2
      exact ⟨by first | rfl | simp_all, by first | exact hb1 | exact below_drewN hb1 _⟩
theorem looks_pre (x : RecV) (lsn txn : Int) (B : Nat) (w : World) (hB : B ≤ w.heap.size) (hx : RecOk w B x) (Opened : Nat → Nat → World → Prop) (IsRest : Code → Prop)
    (hlive : ∀ W, Calls Tryz.prog 5 #[] W fun e w' => e = .returned (.bool true) ∧ Below W.heap.size W w')
    (hopen : ∀ W, w.heap.size ≤ W.heap.size → Calls Tryz.prog 8 #[.agg #[.int .i64 1, .int .i64 3, .int .i64 4, .int .i64 1, .int .i64 4], .int .i64 1] W fun e w' => ∃ bb o, e = .returned (.pointer (some ⟨bb, o, none⟩)) ∧ Opened bb o w' ∧ Below W.heap.size W w')
    (hrest : ∀ (code : Code) (bb o : Nat) (W : World) (act : Act), IsRest code → Opened bb o W → act.tmps.size = Tryz.f3.ntmps → act.tmps.getD 1 undef = .int .i64 lsn → act.tmps.getD 2 undef = .int .i64 txn → act.tmps.getD 11 undef = .pointer (some ⟨bb, o, none⟩) → act.defers = [] → Below w.heap.size w W → code.wp Tryz.prog (bodyPostM Fence.wide 0 Tryz.prog Tryz.f3 (fun e w' => e = .returned (.bool true) ∧ Below w.heap.size w w')) act W)
    (hcode : IsRest (spineC 6 (codeOf Tryz.f3))) : Calls Tryz.prog 3 #[recV x, .int .i64 lsn, .int .i64 txn] w fun e w' => e = .returned (.bool true) ∧ Below w.heap.size w w' := by
  have HL := hide hlive
  have HO := hide hopen
  have HRS := hide hrest
  have HM := hide (fun W (hb : Below w.heap.size w W) => much_any x B W (Nat.le_trans hB hb.size) (RecOk.below hx hb hB))
  have HN := hide (fun W => next_any x W)
  have HR := hide (fun W => rNext27_any x W)
  clear hlive hopen hrest hx
  obtain ⟨nn, hnn⟩ : ∃ n, n = nextI x := ⟨_, rfl⟩
  obtain ⟨nb, hnb⟩ : ∃ n, n = nextB x := ⟨_, rfl⟩
  rw [← hnn, ← hnb] at HN HR
  clear hnn hnb
  obtain ⟨kd, tx, pr, nx, ps, pv, ⟨ua, uk, us, ui, ⟨uc, ud, ulo, uhi, uval⟩, uv, un⟩⟩ := x
  unfold recV at *
  dsimp only at *
  refine callsIn_wide.1 (callsIn_of_wp_marks (n := 0) Tryz.func3 rfl trivial (wpIn_wide.2 ?_))
  simp only [Tryz.ntmps3, List.size_toArray, List.length_cons, List.length_nil, Nat.reduceAdd, Nat.reduceSub, Array.replicate_succ, Array.replicate_zero, List.push_toArray, List.append_toArray, List.nil_append, List.cons_append]
  go_upto_region 1 with (fail)
  refine gen1 (R := fun W => Code.wp _ _ _ _ W) (fun W1 kb hb1 hz1 => ?_)
  obtain ⟨g, hg⟩ : ∃ g, g = w.heap.size := ⟨_, rfl⟩
  have HB1 := hide hb1
  have HM1 := hide (HM.out W1 hb1)
  rw [← hg] at kb hz1 ⊢
  clear hb1 HM
  have KB := hide kb
  have q0 := kb.cell 0
  have q1 := kb.cell 1
  have q2 := kb.cell 2
  have q3 := kb.cell 3
  have q4 := kb.cell 4
  have q5 := kb.cell 5
  have q6 := kb.cell 6
  have q7 := kb.cell 7
  have q8 := kb.cell 8
  have q9 := kb.cell 9
  have q10 := kb.cell 10
  have q11 := kb.cell 11
  have q12 := kb.cell 12
  have q13 := kb.cell 13
  have q14 := kb.cell 14
  have ql := kb.lt
  clear kb hg
  go_wp2_with fail
  refine HM1.out.mono ?_
  rintro e W2 ⟨b, rfl, -, hb2⟩
  have HB2 := hide (below_via HB1.out hb2 HB1.out.size)
  have KB2 := hide (Blk.via hb2 KB.out)
  clear q0 q1 q2 q3 q4 q5 q6 q7 q8 q9 q10 q11 q12 q13 q14 ql hb2 HM1 KB HB1
  cases b with
  | true =>
    go_wp2_with (go_at_call 5; refine (HL.out _).mono ?_; rintro e w' ⟨rfl, hb'⟩)
    exact ⟨_, results_tmp rfl _ _ _, rfl, below_via HB2.out hb' HB2.out.size⟩
  | false =>
    have kb := KB2.out
    have q0 := kb.cell 0
    have q1 := kb.cell 1
    have q2 := kb.cell 2
    have q3 := kb.cell 3
    have q4 := kb.cell 4
    have q5 := kb.cell 5
    have q6 := kb.cell 6
    have q7 := kb.cell 7
    have q8 := kb.cell 8
    have q9 := kb.cell 9
    have q10 := kb.cell 10
    have q11 := kb.cell 11
    have q12 := kb.cell 12
    have q13 := kb.cell 13
    have q14 := kb.cell 14
    have ql := kb.lt
    clear kb
    go_wp2_with fail
    refine (HN.out W2).mono ?_
    rintro e W3 ⟨rfl, hb3⟩
    have HB3 := hide (below_via HB2.out hb3 HB2.out.size)
    have KB3 := hide (Blk.via hb3 KB2.out)
    clear q0 q1 q2 q3 q4 q5 q6 q7 q8 q9 q10 q11 q12 q13 q14 ql hb3
    have kb := KB3.out
    have q0 := kb.cell 0
    have q1 := kb.cell 1
    have q2 := kb.cell 2
    have q3 := kb.cell 3
    have q4 := kb.cell 4
    have q5 := kb.cell 5
    have q6 := kb.cell 6
    have q7 := kb.cell 7
    have q8 := kb.cell 8
    have q9 := kb.cell 9
    have q10 := kb.cell 10
    have q11 := kb.cell 11
    have q12 := kb.cell 12
    have q13 := kb.cell 13
    have q14 := kb.cell 14
    have ql := kb.lt
    clear kb
    go_wp2_with fail
    refine (HR.out W3).mono ?_
    rintro e W4 ⟨rfl, hb4⟩
    have HB4 := hide (below_via HB3.out hb4 HB3.out.size)
    clear q0 q1 q2 q3 q4 q5 q6 q7 q8 q9 q10 q11 q12 q13 q14 ql hb4
    go_wp2_with fail
    refine (HO.out W4 HB4.out.size).mono ?_
    rintro e W5 ⟨bb, o, rfl, ho, hb5⟩
    have HB5 := hide (below_via HB4.out hb5 HB4.out.size)
    go_upto_if 54 with (fail)
    go_step
    go_step
    go_step
    go_step
    exact HRS.out _ bb o W5 _ hcode ho rfl rfl rfl rfl rfl HB5.out
end Go.Proofs.YtdbgppknggaooaaGreatDoor
