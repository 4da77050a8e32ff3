/-
  Texts of this claim, joined: RX, RW, RY, RZ, RZg, RZh, LA, KD, KE.
-/
import Derived.Defers
import Derived.Maps.RangeWalk
import Derived.Test.YtnanlaefehaifaaGreatBo04
set_option maxHeartbeats 6400000
set_option maxRecDepth 100000
namespace Go.Proofs.YtnanlaefehaifaaGreat
open Go.RowKit
def DoneE (a : Act) (d : Option Tmp) (p : Value → World → Prop) (E : World → World → Prop) (W : World) (x : Exit) (a'' : Act) (W'' : World) : Prop := x = .normal ∧ ∃ v, a'' = a.put d v ∧ p v W'' ∧ E W W''
def stepE (P : Program) (full : Array Oper) (ops : List Oper) (As : List (Value → World → Prop)) (G : World → Prop) (Pre : Nat → World → Prop) (E : Nat → World → World → Prop) (a : Act) (k : Nat) (o : Oper) : Prop :=
  ∀ f W, G W → Pre k W → depsI As f W (o.after.toList.filter (fun e => Region.binds .any e)) → wpList P full (DoneE (fillF ops f 0 a) o.dst (atI As k) (E k) W) [o] (fillF ops f 0 a) W
def stepsE (P : Program) (full : Array Oper) (ops : List Oper) (As : List (Value → World → Prop)) (G : World → Prop) (Pre : Nat → World → Prop) (E : Nat → World → World → Prop) (a : Act) : List Oper → Nat → Prop
  | [], _ => True
  | o :: r, k => stepE P full ops As G Pre E a k o ∧ stepsE P full ops As G Pre E a r (k + 1)
theorem stepsE_at {P : Program} {full : Array Oper} {ops : List Oper} {As : List (Value → World → Prop)} {G : World → Prop} {Pre : Nat → World → Prop} {E : Nat → World → World → Prop} {a : Act} : ∀ (l : List Oper) (k i : Nat) (o : Oper), stepsE P full ops As G Pre E a l k → l[i]? = some o → stepE P full ops As G Pre E a (k + i) o
  | [], _, _, _, _, h => by simp at h
  | p :: r, k, i, o, hs, h => by
    cases i with
    | zero =>
      obtain rfl : p = o := by simpa using h
      exact hs.1
    | succ i =>
      have := stepsE_at r (k + 1) i o hs.2 (by simpa using h)
      rwa [show k + 1 + i = k + (i + 1) by omega] at this
theorem wpHead_invE {P : Program} {Q : Exit → Act → World → Prop} {a : Act} {l : List Oper} (n : Nat) (As : List (Value → World → Prop)) (G : World → Prop) (Pre : Nat → World → Prop) (E : Nat → World → World → Prop) (hG : ∀ k W W', G W → E k W W' → G W') (hPr : ∀ i j W W', i ≠ j → E j W W' → Pre i W → Pre i W') (hd : distB (l.take n) = true) (ha : aftB l 0 = true)
    (hS : Region.sinkB .any l.toArray n = true) (hC : Region.chainB .any l.toArray n = true) (hn : n < l.length) (hseq : Region.seqB .any l.toArray (l.length - n) n (doneA n (l.length - n)) = true)
    (hst : ∀ i j v W W', i ≠ j → E j W W' → atI As i v W → atI As i v W') (hs : stepsE P l.toArray (l.take n) As G Pre E a (l.take n) 0) (h : ∀ f W, G W → (∀ i, i < n → atI As i (f i) W) → wpList P l.toArray Q (l.drop n) (fillF (l.take n) f 0 a) W) :
    ∀ (fuel : Nat) (listed : Array Bool) (f : Nat → Value) (W : World) (u : List Nat), HeadInv .any l.toArray n listed → u.Nodup → u.length = fuel → (∀ i, i ∈ u ↔ (i < n ∧ listed.getD i true = false)) → G W → (∀ i, i < n → listed.getD i true = false → Pre i W) →
      (∀ i, i < n → listed.getD i true = true → atI As i (f i) W) → wpAny P .any l.toArray Q (fuel + (l.length - n)) listed (fillF (l.take n) f 0 a) W := by
  intro fuel
  induction fuel with
  | zero =>
    intro listed f W u inv hnd hl hu hb hPW hA
    obtain rfl := List.eq_nil_of_length_eq_zero hl
    have hall : ∀ i, i < n → listed.getD i true = true := fun i hi => by
      cases hb' : listed.getD i true with
      | true => rfl
      | false => exact absurd ((hu i).2 ⟨hi, hb'⟩) (by simp)
    have hz : listed.size = l.length := by have := inv.size; simpa using this
    obtain rfl : listed = doneA n (l.length - n) := doneA_eq (by omega) hall (fun i h1 h2 => inv.tail i h1 (by simp; omega))
    rw [Nat.zero_add]
    have hdl : (l.drop n).length = l.length - n := by simp
    have := wpAny_of_seq (md := .any) (Q' := Q) (l.drop n) n _ (fillF (l.take n) f 0 a) W (fun j => by simp [List.getElem?_drop]) (by rw [hdl]; exact hseq) (h f W hb (fun i hi => hA i hi (hall i hi)))
    rwa [hdl] at this
  | succ fuel ih =>
    intro listed f W u inv hnd hl hu hb hPW hA
    have hz : listed.size = l.length := by have := inv.size; simpa using this
    have hex : ∃ i, i < n ∧ listed.getD i true = false := by
      cases u with
      | nil => simp at hl
      | cons x r => exact ⟨x, (hu x).1 List.mem_cons_self⟩
    rw [show fuel + 1 + (l.length - n) = (fuel + (l.length - n)) + 1 by omega]
    refine ⟨fun hnil => ?_, fun i hi => ?_⟩
    · exfalso
      have key : ∀ m, ∀ i, i < m → i < n → listed.getD i true = false → False := by
        intro m
        induction m with
        | zero => intro i hi; omega
        | succ m ihn =>
          intro i hi hil hun
          obtain ⟨o, ho⟩ : ∃ o, l[i]? = some o := ⟨_, List.getElem?_eq_getElem (show i < l.length by omega)⟩
          have : i ∈ Region.ready .any l.toArray listed := by
            refine mem_ready.2 ⟨hun, o, by simpa using ho, fun e he _ => ?_⟩
            have hlt := aft_at l 0 i o ha ho e he
            cases hb' : listed.getD e.on false with
            | true => rfl
            | false =>
              exfalso
              refine ihn e.on (by omega) (by omega) ?_
              have hin : e.on < listed.size := by omega
              simp only [Array.getD, hin, dif_pos] at hb' ⊢
              exact hb'
          rw [hnil] at this
          cases this
      obtain ⟨i, h1, h2⟩ := hex
      exact key (i + 1) i (by omega) h1 h2
    · have hin : i < n := by
        obtain ⟨i0, h1, h2⟩ := hex
        exact Nat.lt_of_not_le fun hge => absurd hi (tail_waits hS hC (by simpa using hn) inv _ i0 rfl h1 h2 i hge)
      obtain ⟨hun, o, ho, hall⟩ := mem_ready.1 hi
      have ho' : l[i]? = some o := by simpa using ho
      have ho2 : (l.take n)[i]? = some o := by rw [List.getElem?_take, if_pos hin, ho']
      have hstep := stepsE_at (l.take n) 0 i o hs ho2
      rw [Nat.zero_add] at hstep
      have hq := hstep f W hb (hPW i hin hun) (by
        intro e he
        rw [List.mem_filter] at he
        have he1 : e ∈ o.after := by simpa using he.1
        have hlt := aft_at l 0 i o ha ho' e he1
        have hll := hall e he1 he.2
        refine hA e.on (by omega) ?_
        have hin : e.on < listed.size := by omega
        simp only [Array.getD, hin, dif_pos] at hll ⊢
        exact hll)
      have hnext : ∀ (a'' : Act) (W'' : World), (∃ v, a'' = (fillF (l.take n) f 0 a).put o.dst v ∧ atI As i v W'' ∧ E i W W'') → wpAny P .any l.toArray Q (fuel + (l.length - n)) (listed.setIfInBounds i true) a'' W'' := by
        rintro a'' W'' ⟨v, rfl, hv, hb2⟩
        rw [fill_put (l.take n) f 0 i a hd ho2]
        refine ih _ _ _ (u.erase i) (inv.set hi hin) (hnd.erase _) (by rw [List.length_erase_of_mem ((hu i).2 ⟨hin, hun⟩)]; omega) (fun j => ?_) (hG _ _ _ hb hb2) (fun j hj hlj => ?_) (fun j hj hlj => ?_)
        · rw [hnd.mem_erase_iff, hu j]
          constructor
          · rintro ⟨h1, h2, h3⟩
            exact ⟨h2, by rw [getD_set_ne true (Ne.symm h1)]; exact h3⟩
          · rintro ⟨h2, h3⟩
            have hne : j ≠ i := by
              rintro rfl
              have hin : j < listed.size := by omega
              simp [Array.getD, hin] at h3
            exact ⟨hne, h2, by rwa [getD_set_ne true (Ne.symm hne)] at h3⟩
        · have hji : j ≠ i := by
            rintro rfl
            have hin : j < listed.size := by have := inv.size; simp at this; omega
            simp [Array.getD, hin] at hlj
          exact hPr j i _ _ hji hb2 (hPW j hj (by rwa [getD_set_ne true (Ne.symm hji)] at hlj))
        · by_cases hji : j = i
          · subst hji
            simp only [Nat.zero_add, if_true]
            exact hv
          · simp only [Nat.zero_add, if_neg hji]
            refine hst j i _ W W'' hji hb2 (hA j hj ?_)
            rwa [getD_set_ne true (Ne.symm hji)] at hlj
      unfold wpOp
      simp only [ho]
      unfold wpList at hq
      split
      · rename_i hw
        rw [if_pos hw] at hq
        rcases hq with hq | ⟨_, a', w', he, _⟩
        · exact .inl (wp_strict (fun _ _ _ h => h.1) (fun a'' w'' h => hnext a'' w'' (show _ ∧ _ from h).2) hq)
        · cases he
      · rename_i hw
        rw [if_neg hw] at hq
        exact hnext _ _ (show _ ∧ _ from hq).2
theorem wp_region_inv_tailE {P : Program} {id : Nat} {Q : Exit → Act → World → Prop} {a : Act} {w : World} {l : List Oper} (n : Nat) (As : List (Value → World → Prop)) (G : World → Prop) (Pre : Nat → World → Prop) (E : Nat → World → World → Prop) (hG : ∀ k W W', G W → E k W W' → G W') (hPr : ∀ i j W W', i ≠ j → E j W W' → Pre i W → Pre i W') (hdr : G w.drew) (hp0 : ∀ i, Pre i w.drew) (hm : P.follows .mixedOrders = true) (hd : distB (l.take n) = true) (ha : aftB l 0 = true)
    (hS : Region.sinkB .any l.toArray n = true) (hC : Region.chainB .any l.toArray n = true) (hn : n < l.length) (hseq : Region.seqB .any l.toArray (l.length - n) n (doneA n (l.length - n)) = true)
    (hst : ∀ i j v W W', i ≠ j → E j W W' → atI As i v W → atI As i v W') (hs : stepsE P l.toArray (l.take n) As G Pre E a (l.take n) 0) (h : ∀ f W, G W → (∀ i, i < n → atI As i (f i) W) → wpList P l.toArray Q (l.drop n) (fillF (l.take n) f 0 a) W) : (Code.region id l.toArray true).wp P Q a w := by
  refine wp_region_any hm ?_
  obtain ⟨f, hf⟩ := fill_self (l.take n) 0 a
  have inv0 : HeadInv .any l.toArray n (Array.replicate l.toArray.size false) :=
    ⟨by simp, fun j oj _ hl => (by rw [getD_replicate_false] at hl; cases hl), fun t _ ht => getD_in (by simpa using ht) (getD_replicate_false _ _)⟩
  have := wpHead_invE (Q := Q) n As G Pre E hG hPr hd ha hS hC hn hseq hst hs h n (Array.replicate l.toArray.size false) f w.drew (List.range n) inv0 List.nodup_range (by simp) (fun i => ?_) hdr (fun i _ _ => hp0 i) (fun i hi hl => ?_)
  · rw [hf, show n + (l.length - n) = l.length by omega] at this
    simpa using this
  · rw [List.mem_range]
    constructor
    · intro hi; exact ⟨hi, by simp [Array.getD, show i < l.length by omega]⟩
    · intro hi; exact hi.1
  · simp [Array.getD, show i < l.length by omega] at hl
end Go.Proofs.YtnanlaefehaifaaGreat
namespace Go.Proofs.YtnanlaefehaifaaGreat
open Go.RowKit
theorem do1_deferred (bd d : Nat) (o : Int) (w : World) (hb : w.cell? ⟨bd, 0, none⟩ = some (.pointer (some ⟨d, 0, none⟩))) (h9 : w.cell? ⟨d, 9, none⟩ = some (.int .i64 o)) (h6 : w.cell? ⟨d, 6, none⟩ = some (.bool false)) (f9 : w.frozen? ⟨d, 9, none⟩ = false) :
    CallsD Tryz.prog 130 #[.pointer (some ⟨bd, 0, none⟩)] .returning w fun e u' w' => u' = .returning ∧ (e = .returned (.tuple #[]) ∧ ∃ o', w' = w.setCell ⟨d, 9, none⟩ (.int .i64 o')) := by
  go_enter_d Tryz.func130, Tryz.ntmps130
  go_wp2
  go_end0
  exact ⟨rfl, _, rfl⟩
def DoR (bd d : Nat) (R : World → Prop) : Prop := ∀ W, R W → Blk W bd 28 #[.pointer (some ⟨d, 0, none⟩)] ∧ ∃ cs o, Blk W d 107 cs ∧ cs[6]? = some (.bool false) ∧ cs[9]? = some (.int .i64 o)
theorem do_any (d F : Nat) (ja : Value) (cs : Array Value) (R : World → Prop) (w : World) (k : Blk w d 107 cs) (h6 : cs[6]? = some (.bool false)) (h8 : cs[8]? = some (.bool false))
    (hR : DoR w.heap.size d R) (hcf : ∀ W, (callFunc F #[ja]).run Tryz.prog W = .ok (.enter F #[ja]) W) (hact : Calls Tryz.prog F #[ja] (w.alloc (.cells #[.pointer (some ⟨d, 0, none⟩)] 28)) fun e w' => (∃ v, e = .returned v) ∧ R w') :
    Calls Tryz.prog 63 #[.pointer (some ⟨d, 0, none⟩), .bool true, .func (.func F) #[ja] #[]] w fun e w' => e = .returned (.int .i64 0) ∧ ∃ W o', R W ∧ w' = W.setCell ⟨d, 9, none⟩ (.int .i64 o') := by
  have hmf : ∀ (fn : Fn) (first cap : Array Value) (w : World), (Instr.makeFunc fn first cap).run Tryz.prog w = .ok (.func fn first cap) w := fun _ _ _ _ => rfl
  have c6 : w.cell? ⟨d, 6, none⟩ = some (.bool false) := (k.cell 6).trans h6
  have c8 : w.cell? ⟨d, 8, none⟩ = some (.bool false) := (k.cell 8).trans h8
  have hdl := k.lt
  have HA := hide hact
  have HR := hide hR
  clear hact hR k h6 h8
  go_enter_defers Tryz.func63, Tryz.ntmps63
  go_wp2_with fail
  refine HA.out.mono ?_
  rintro e w2 ⟨⟨v, rfl⟩, hR2⟩
  obtain ⟨kb, cs2, o2, kd, g6, g9⟩ := HR.out w2 hR2
  have HKB := hide kb
  have HKD := hide kd
  have HG6 := hide g6
  have HG9 := hide g9
  have HRR := hide hR2
  clear kb kd g6 g9 hR2
  go_wp2_with fail
  refine leaves_cons (f := 130) (args := #[.pointer (some ⟨w.heap.size, 0, none⟩)]) (by simp) (by simp [go_sem]) ?_
  refine (do1_deferred w.heap.size d o2 w2 (HKB.out.cell 0) ((HKD.out.cell 9).trans HG9.out) ((HKD.out.cell 6).trans HG6.out) (HKD.out.frozen 9)).mono ?_
  rintro e u' w'' ⟨rfl, rfl, o', rfl⟩
  exact ⟨_, results_tmp rfl _ _ _, rfl, w2, o', HRR.out, rfl⟩
def devC (sv mv lv : Value) (stale head sure fuse o : Int) : Array Value := #[sv, mv, lv, .int .i64 stale, .int .i64 head, .int .i64 sure, .bool false, .int .i64 fuse, .bool false, .int .i64 o]
def JobC (js : Array Value) (d : Nat) (at_ : Int) (bv : Value) : Prop := js[0]? = some (.pointer (some ⟨d, 0, none⟩)) ∧ js[1]? = some (.int .i64 at_) ∧ js[514]? = some bv
end Go.Proofs.YtnanlaefehaifaaGreat
namespace Go.Proofs.YtnanlaefehaifaaGreat
open Go.RowKit
structure Turn (S : Nat → Prop) (w w' : World) : Prop where
  os : w'.os = w.os
  tape : w'.tape = w.tape
  output : w'.output = w.output
  size : w.heap.size ≤ w'.heap.size
  block : ∀ k, k < w.heap.size → ¬ S k → w'.heap[k]? = w.heap[k]?
theorem Turn.of_below {S : Nat → Prop} {w w' : World} (h : Below w.heap.size w w') : Turn S w w' := ⟨h.os, h.tape, h.output, h.size, fun k hk _ => h.block k hk⟩
theorem Turn.of_grown {S : Nat → Prop} {w w' : World} {r : Option Nat} (h : w.grownBy w' r) (hS : ∀ k, some k = r → S k) : Turn S w w' := ⟨h.os, h.tape, h.output, h.size, fun k hk hn => h.block k hk (fun e => hn (hS k e))⟩
theorem Turn.trans {S : Nat → Prop} {a b c : World} (h : Turn S a b) (k : Turn S b c) : Turn S a c := ⟨k.os.trans h.os, k.tape.trans h.tape, k.output.trans h.output, Nat.le_trans h.size k.size, fun i hi hn => (k.block i (Nat.lt_of_lt_of_le hi h.size) hn).trans (h.block i hi hn)⟩
theorem Turn.mono {S S' : Nat → Prop} {w w' : World} (h : Turn S w w') (hS : ∀ k, k < w.heap.size → S k → S' k) : Turn S' w w' := ⟨h.os, h.tape, h.output, h.size, fun k hk hn => h.block k hk (fun hs => hn (hS k hk hs))⟩
theorem Turn.set {S : Nat → Prop} {a w : World} (h : Turn S a w) {p : Addr} (hp : S p.block ∨ a.heap.size ≤ p.block) (u : Value) : Turn S a (w.setCell p u) :=
  ⟨h.os, h.tape, h.output, by simpa [World.setCell] using h.size, fun k hk hn => (Below.heap_setCell w p u k (fun e => by
    rcases hp with hp | hp
    · exact hn (e ▸ hp)
    · omega)).trans (h.block k hk hn)⟩
theorem zeros_job : Tryz.zeroCells129.size = 515 := by kernel_rfl
theorem info_job : (Tryz.prog.info? 129).map (·.size) = some 515 := by kernel_rfl
theorem zero_job_one : Tryz.zeroCells129.all (·.oneCell') = true := by kernel_rfl
theorem all_set {cs : Array Value} (h : cs.all (·.oneCell') = true) (i : Nat) {u : Value} (hu : u.oneCell' = true) : (cs.setIfInBounds i u).all (·.oneCell') = true := by
  rw [Array.all_eq_true_iff_forall_mem] at h ⊢
  intro v hv
  rcases Array.mem_or_eq_of_mem_setIfInBounds hv with hv | rfl
  · exact h v hv
  · exact hu
end Go.Proofs.YtnanlaefehaifaaGreat
namespace Go.Proofs.YtnanlaefehaifaaGreat
open Go.RowKit
theorem info_page : (Tryz.prog.info? 63).map (fun i => (i.zero, i.size, i.bytes)) = some (some (.agg Tryz.zeroCells63), 512, 512) := by kernel_rfl
end Go.Proofs.YtnanlaefehaifaaGreat
namespace Go.Proofs.YtnanlaefehaifaaGreat
open Go.RowKit
def logC (d : Nat) (limit kept forced : Int) (m : Nat) (pv : Value) : Array Value := #[.pointer (some ⟨d, 0, none⟩), .int .i64 limit, .int .i64 kept, .int .i64 forced, .map (some m), pv]
end Go.Proofs.YtnanlaefehaifaaGreat
namespace Go.Proofs.YtnanlaefehaifaaGreat
open Go.RowKit Go.Maps
def heldV (v : Value) : Option (DataW Value × List MemPlace) := some (.held v, [])
theorem keyInt : Keyed Tryz.prog 3 := int_keyed Tryz.underlying3
theorem key_of {p : Int} (h : (Lit.int .i64 p).wf = true) : keyOf Tryz.prog 3 (.int .i64 p) = some (.int .i64 p) := keyOf_int_mk Tryz.underlying3 h
def MapF (W : World) (m k : Nat) (f : Int → Option Value) : Prop := ∃ D : DataW Value, W.ownsMap Tryz.prog 3 heldV m k D ∧ ∀ p : Int, Maps.has D (.int .i64 p) = (f p).isSome ∧ ∀ v, f p = some v → ∀ z, D.atKey (.int .i64 p) z = .held v
theorem MapF.ne {W : World} {m k g : Nat} {f : Int → Option Value} {cs : Array Value} {t : TypeId} (h : MapF W m k f) (kb : W.heap[g]? = some (Obj.cells cs t (0, 0))) : g ≠ m := by
  obtain ⟨D, ⟨es, clock, hb, _⟩, _⟩ := h
  rintro rfl
  rw [hb] at kb
  cases kb
theorem MapF.start (w : World) : MapF (w.alloc (.map #[] 0)) w.heap.size 0 (fun _ => none) := ⟨.map [], World.ownsMap_made _ _ _ _, fun _ => ⟨rfl, fun _ h => by cases h⟩⟩
theorem MapF.put {W' : World} {m k : Nat} {f : Int → Option Value} {D : DataW Value} {p : Int} {v : Value} (hD : ∀ p : Int, Maps.has D (.int .i64 p) = (f p).isSome ∧ ∀ v, f p = some v → ∀ z, D.atKey (.int .i64 p) z = .held v) (hm : Maps.IsMap D) (h : W'.ownsMap Tryz.prog 3 heldV m k (D.put (.int .i64 p) (.held v))) : MapF W' m k (fun q => if q = p then some v else f q) := by
  refine ⟨_, h, fun q => ?_⟩
  by_cases hq : q = p
  · subst hq
    simp only [if_true]
    exact ⟨has_put_same hm (show WideAt.IsKeyLit (.int .i64 q) by simp [WideAt.IsKeyLit]) _, fun u hu z => by injection hu with hu; subst hu; exact atKey_put_same hm (show WideAt.IsKeyLit (.int .i64 q) by simp [WideAt.IsKeyLit]) _ _⟩
  · have hne : (Lit.int .i64 q) ≠ (Lit.int .i64 p) := fun e => hq (by injection e)
    simp only [if_neg hq]
    exact ⟨(has_put_other hne _).trans (hD q).1, fun u hu z => (atKey_put_other hne _ _).trans ((hD q).2 u hu z)⟩
theorem MapF.kept {W W' : World} {m k : Nat} {f : Int → Option Value} (h : MapF W m k f) (hk : W'.heap[m]? = W.heap[m]?) : MapF W' m k f := by
  obtain ⟨D, ⟨es, clock, hb, r⟩, hD⟩ := h
  exact ⟨D, ⟨es, clock, hk.trans hb, r⟩, hD⟩
theorem MapF.lt {W : World} {m k : Nat} {f : Int → Option Value} (h : MapF W m k f) : m < W.heap.size := by
  obtain ⟨D, hD, _⟩ := h
  exact hD.lt
theorem World.ownsMap.kept' {W W' : World} {m k : Nat} {f : Int → Option Value} (h : MapF W m k f) (hb : Below W.heap.size W W') : MapF W' m k f := h.kept (hb.block m h.lt)
end Go.Proofs.YtnanlaefehaifaaGreat
namespace Go.Proofs.YtnanlaefehaifaaGreat
open Go.RowKit
theorem numNil_any (A : Option Addr) (c : Nat) (w : World) : Calls Tryz.prog 167 #[.slice A 0 c, .int .i64 0, .int .i64 2] w fun e w' => e = .returned (.tuple #[.int .i64 0, .bool false]) ∧ w' = w := by
  have HW := hide (wide_any 2 true (by decide) w)
  go_enter Tryz.func167, Tryz.ntmps167
  go_wp2_with (go_at_call 175; refine HW.out.mono ?_; rintro e w' ⟨rfl, hw'⟩; obtain rfl := hw'.symm)
  go_ret2
  exact ⟨rfl, rfl⟩
theorem results_row_2 {fn : Func} {p t2 t3 : Tmp} {ty : TypeId} (h : fn.results = #[.cell p ty, .tmp t2, .tmp t3]) (tmps : Array Value) (w : World) (g : Nat) (cs : Array Value)
    (hp : tmps.getD p undef = .pointer (some ⟨g, 0, none⟩)) (hl : (loadVar ty ⟨g, 0, none⟩).run Tryz.prog w = .ok (.agg cs) w) :
    (results fn tmps).run Tryz.prog w = .ok (.tuple #[.agg cs, tmps.getD t2 undef, tmps.getD t3 undef]) w := by
  have hp' : tmps[p]?.getD undef = .pointer (some ⟨g, 0, none⟩) := by simpa using hp
  simp [results, h, hp', asAddr, hl]
def recZ : Array Value := #[.int .i64 0, .int .i64 0, .int .i64 0, .int .i64 0, .slice none 0 0, .int .i64 0, .string ⟨#[]⟩, .int .i64 0, .string ⟨#[]⟩, .int .i64 0, .slice none 0 0, .int .i64 0, .int .i64 0, .int .i64 0, .int .i64 0]
theorem getNil_any (A : Option Addr) (c : Nat) (w : World) : Calls Tryz.prog 107 #[.slice A 0 c] w fun e w' => e = .returned (.tuple #[.agg recZ, .int .i64 0, .int .i64 13]) ∧ Below w.heap.size w w' := by
  have HN := hide (fun W => numNil_any A c W)
  go_enter Tryz.func107, Tryz.ntmps107
  go_upto_region 1 with (fail)
  refine gen1 (R := fun W => Code.wp _ _ _ _ W) (fun W1 kb hb1 hz1 => ?_)
  have HB1 := hide hb1
  have HKB := hide kb
  clear kb hb1
  go_upto_region 3 with (go_at_call 167; refine (HN.out _).mono ?_; rintro e w' ⟨rfl, hw'⟩; obtain rfl := hw'.symm)
  have hX : recZ = #[.int .i64 0, .int .i64 0, .int .i64 0, .int .i64 0, .slice none 0 0, .int .i64 0, .string ⟨#[]⟩, .int .i64 0, .string ⟨#[]⟩, .int .i64 0, .slice none 0 0, .int .i64 0, .int .i64 0, .int .i64 0, .int .i64 0] := rfl
  have HX := hide hX
  clear hX
  have HII := hide (show (Tryz.prog.info? 41).map (·.size) = some recZ.size by rw [HX.out]; kernel_rfl)
  have H1C := hide (show recZ.all (·.oneCell') = true by rw [HX.out]; simp [Value.oneCell'])
  have HZX := hide (show (15 : Nat) = recZ.size by rw [HX.out]; rfl)
  have hK4 : Blk (W1.setRow w.heap.size recZ) w.heap.size 41 recZ := setRow_heap W1 w.heap.size _ _ _ _ HKB.out
  have HK4 := hide hK4
  clear hK4
  have HB4 := hide ((touch_setRow W1 w.heap.size recZ).below HB1.out (Nat.le_refl _))
  go_wp2_with (refine wpList_store_row rfl 41 (.tmp 2) (.tmp 23) rfl w.heap.size recZ rfl (by rw [HX.out]; rfl) 41 _ HKB.out HII.out HZX.out H1C.out ?_)
  refine bodyPost_ret (results_row_2 Tryz.results107 _ _ w.heap.size recZ rfl (run_loadVar_row _ _ _ _ recZ (0, 0) _ HK4.out Tryz.underlying41 rfl HII.out)) rfl ?_
  exact ⟨rfl, HB4.out⟩
end Go.Proofs.YtnanlaefehaifaaGreat
namespace Go.Proofs.YtnanlaefehaifaaGreat
open Go.RowKit
theorem numI_one (bs : List UInt8) (i : Nat) (x : UInt8) (h : bs[i]? = some x) : numI (cutB bs i 1) = (x.toNat : Nat) := by
  have h1 : cutB bs i 1 = [x] := by
    have := cutB_succ (bs := bs) (at_ := i) (k := 0) (by simpa using h)
    rw [this]
    simp [cutB]
  have hx := x.toNat_lt
  rw [h1]
  unfold numI
  rw [show numB [x] = x.toNat by simp [numB]]
  unfold wrap64
  omega
def cellG (bs : List UInt8) : Option CellD :=
  if (bs.getD 0 0).toNat = 1 then (if (bs.getD 1 0).toNat ≤ 32 then some ⟨1, cutB bs 2 (bs.getD 1 0).toNat, 0, 0, 0⟩ else none)
  else if (bs.getD 0 0).toNat = 2 then (if numI (cutB bs 1 8) ≤ numI (cutB bs 17 8) ∧ numI (cutB bs 17 8) ≤ numI (cutB bs 9 8) then some ⟨2, [], numI (cutB bs 1 8), numI (cutB bs 9 8), numI (cutB bs 17 8)⟩ else none)
  else none
def CellGP (w : World) (o : Option CellD) (e : Ending) (w' : World) : Prop :=
  ((o = none ∧ ∃ sz er, e = .returned (.tuple #[.agg #[.int .i64 0, .slice none 0 0, .int .i64 0, .int .i64 0, .int .i64 0], .int .i64 sz, .int .i64 er]) ∧ er ≠ 0) ∨ (∃ d A n c sz, o = some d ∧ e = .returned (.tuple #[.agg #[.int .i64 d.kind, .slice A n c, .int .i64 d.lo, .int .i64 d.hi, .int .i64 d.val], .int .i64 sz, .int .i64 0]) ∧ BytesAt w' w'.heap.size (.slice A n c) d.data)) ∧ Below w.heap.size w w'
theorem info_cellK : (Tryz.prog.info? 35).map (·.size) = some 5 := by kernel_rfl
theorem cellGet_any (A : Option Addr) (n c : Nat) (bs : List UInt8) (B : Nat) (w : World) (hB : B ≤ w.heap.size) (hm : 46 ≤ n) (hm2 : n ≤ 64) (hnc : n ≤ c) (hn : n = bs.length) (hr : Reads w B 1 A n (bs.map byteV)) :
    Calls Tryz.prog 202 #[.slice A n c] w (CellGP w (cellG bs)) := by
  have HNUM := hide (fun (at_ width : Nat) (W : World) (h1 : 1 ≤ width) (h8 : width ≤ 8) (hin : at_ + width ≤ n) (hb : Below w.heap.size w W) => num_any A n c bs at_ width B W (by omega) hnc hn (hr.below hb hB) h1 h8 hin)
  have HRD := hide (fun (W : World) (hb : Below w.heap.size w W) => hr.below hb hB)
  have HN := hide hn
  obtain ⟨b, o, rfl, hbB, _⟩ := hr.plain (by omega) (by omega)
  clear hr
  obtain ⟨x0, hx0⟩ : ∃ x, bs[0]? = some x := ⟨_, List.getElem?_eq_getElem (by omega)⟩
  obtain ⟨x1, hx1⟩ : ∃ x, bs[1]? = some x := ⟨_, List.getElem?_eq_getElem (by omega)⟩
  have H0 := hide (numI_one bs 0 x0 hx0)
  have H1 := hide (numI_one bs 1 x1 hx1)
  have HG := hide (show cellG bs = (if x0.toNat = 1 then (if x1.toNat ≤ 32 then some ⟨1, cutB bs 2 x1.toNat, 0, 0, 0⟩ else none)
    else if x0.toNat = 2 then (if numI (cutB bs 1 8) ≤ numI (cutB bs 17 8) ∧ numI (cutB bs 17 8) ≤ numI (cutB bs 9 8) then some ⟨2, [], numI (cutB bs 1 8), numI (cutB bs 9 8), numI (cutB bs 17 8)⟩ else none) else none) by
    unfold cellG
    rw [show bs.getD 0 0 = x0 by rw [List.getD_eq_getElem?_getD, hx0]; rfl, show bs.getD 1 0 = x1 by rw [List.getD_eq_getElem?_getD, hx1]; rfl])
  have hxl0 := x0.toNat_lt
  have hxl1 := x1.toNat_lt
  generalize x0.toNat = k0 at *
  generalize x1.toNat = k1 at *
  clear hn hx0 hx1
  go_enter Tryz.func202, Tryz.ntmps202
  go_upto_region 1 with (fail)
  refine gen1 (R := fun W => Code.wp _ _ _ _ W) (fun W1 kb hb1 hz1 => ?_)
  have HB1 := hide hb1
  have HKB := hide kb
  clear kb hb1
  have HC0 := hide (HNUM.out 0 1 W1 (by omega) (by omega) (by omega) HB1.out)
  rw [H0.out] at HC0
  go_upto_region 5 with (go_at_call 167; refine HC0.out.mono ?_; rintro e w' ⟨rfl, hw'⟩; obtain rfl := hw'.symm)
  refine gen1 (R := fun W => Code.wp _ _ _ _ W) (fun W2 kc hb2 hz2 => ?_)
  have HL2 := hide (HB1.out.trans (hb2.mono HB1.out.size))
  have HKB2 := hide (Blk.via hb2 HKB.out)
  have HKC := hide kc
  have hzz := HB1.out.size
  clear kc hb2
  by_cases hk1 : k0 = 1
  · subst hk1
    have HC1 := hide (HNUM.out 1 1 W2 (by omega) (by omega) (by omega) HL2.out)
    rw [H1.out] at HC1
    by_cases hsz : (n : Int) < 2 + (k1 : Int)
    · have HNO := hide (show cellG bs = none by rw [HG.out, if_pos rfl, if_neg (by omega)])
      have c20 := (HKB2.out).cell 0
      have c21 := (HKB2.out).cell 1
      have c22 := (HKB2.out).cell 2
      have c23 := (HKB2.out).cell 3
      have c24 := (HKB2.out).cell 4
      have f20 := (HKB2.out).frozen 0
      have f21 := (HKB2.out).frozen 1
      have f22 := (HKB2.out).frozen 2
      have f23 := (HKB2.out).frozen 3
      have f24 := (HKB2.out).frozen 4
      have l20 := (HKB2.out).lt
      go_wp2_with (go_at_call 167; refine HC1.out.mono ?_; rintro e w' ⟨rfl, hw'⟩; obtain rfl := hw'.symm)
      refine bodyPost_ret (results_row_2 Tryz.results202 _ _ w.heap.size #[.int .i64 0, .slice none 0 0, .int .i64 0, .int .i64 0, .int .i64 0] rfl (run_loadVar_row _ _ _ _ #[.int .i64 0, .slice none 0 0, .int .i64 0, .int .i64 0, .int .i64 0] (0, 0) _ (((((Blk.set_ HKB2.out 0 _).set_ 1 _).set_ 2 _).set_ 3 _).set_ 4 _) Tryz.underlying35 rfl info_cellK)) rfl ⟨?_, (((((Below.setCell HL2.out (p := ⟨w.heap.size, 0, none⟩) (Nat.le_refl _) _).setCell (p := ⟨w.heap.size, 1, none⟩) (Nat.le_refl _) _).setCell (p := ⟨w.heap.size, 2, none⟩) (Nat.le_refl _) _).setCell (p := ⟨w.heap.size, 3, none⟩) (Nat.le_refl _) _).setCell (p := ⟨w.heap.size, 4, none⟩) (Nat.le_refl _) _)⟩
      exact .inl ⟨HNO.out, _, _, rfl, by omega⟩
    · have hszn : 2 + k1 ≤ n := by omega
      go_upto_region 12 with (go_at_call 167; refine HC1.out.mono ?_; rintro e w' ⟨rfl, hw'⟩; obtain rfl := hw'.symm)
      obtain ⟨i0, hi, hz0, hz1', hz2'⟩ := info_parts info_u8R
      have hcut : ((bs.map byteV).drop (2 * 1)).take (k1 * 1) = (cutB bs 2 k1).map byteV := by
        unfold cutB
        rw [Nat.mul_one, Nat.mul_one, List.map_take, List.map_drop]
      have hclen : (cutB bs 2 k1).length = k1 := by
        unfold cutB
        rw [List.length_take, List.length_drop, ← HN.out]
        omega
      have hrd : Reads W2 B 1 (some ⟨b, o + 2, none⟩) k1 ((cutB bs 2 k1).map byteV) := by
        have h := ((HRD.out W2 HL2.out).cut (k := 2) (cap := c) (by omega) hnc).take (k := k1) (by omega)
        rw [if_neg (by omega), Option.map_some, add_plain, hcut] at h
        exact h
      have g1 : (2 : Int) + k1 ≤ c := by omega
      have g2 : (2 : Int) ≤ 2 + k1 := by omega
      have g3 : ¬ (c = 2) := by omega
      have HRDX := hide hrd
      have HCLEN := hide hclen
      clear hrd hcut hclen
      go_wp2_with (at_builtin; refine heldG ?_)
      refine unheldG ?_
      at_builtin
      rw [show 2 + k1 - 2 = k1 by omega]
      refine wpList_append_any _ rfl _ _ _ rfl W2.heap.size 5 i0 _ 1 1 Tryz.underlying33 hi hz0 hz1' hz2' rfl (by omega) (.slice none 0 0) 0 [] rfl (World.ownsRow_nil _ _ _ _) B (some ⟨b, o + 2, none⟩) k1 (c - 2) ((cutB bs 2 k1).map byteV) rfl HRDX.out (bytes_one _) (by unfold maxLen; omega) (by omega) (Nat.le_refl _) ?_
      intro v3 w3 hown hg _
      simp only [Nat.zero_add, List.nil_append] at hown
      obtain ⟨A3, c3, rfl, hnc3, hcm3, hnil3, _⟩ := own_slice hown
      have hb3 : Below W2.heap.size W2 w3 := (Below.refl _ _).grown hg (Nat.le_refl _) (fun q hq => by cases hq)
      have kc3 := Blk.via hb3 HKC.out
      have e1 := kc3.cell 1
      have f1 := kc3.frozen 1
      have l1 := kc3.lt
      have HKC3 := hide kc3
      have HB3 := hide hb3
      have HOW := hide hown
      clear hown hg hb3 kc3
      go_upto_region 20 with (fail)
      refine nameW (w := World.setCell _ _ _) (R := fun W => Code.wp _ _ _ _ W) (fun W4 hW4 => ?_)
      have kc4 : Blk W4 W1.heap.size 35 #[.int .i64 1, .slice A3 k1 c3, .int .i64 0, .int .i64 0, .int .i64 0] := hW4 ▸ HKC3.out.set_ 1 _
      have kb4 : Blk W4 w.heap.size 35 #[.int .i64 0, .slice none 0 0, .int .i64 0, .int .i64 0, .int .i64 0] := hW4 ▸ (Blk.via HB3.out HKB2.out).far (by simp; omega) _
      have hl3 : Below w.heap.size w w3 := HL2.out.trans (HB3.out.mono HL2.out.size)
      have hl4 : Below w.heap.size w W4 := hW4 ▸ hl3.setCell (p := ⟨W1.heap.size, 1, none⟩) (by simp; omega) _
      have ho4 : W4.ownsRow W2.heap.size 5 1 (.slice A3 k1 c3) k1 ((cutB bs 2 k1).map byteV) := hW4 ▸ row_keep HOW.out (fun q hq => Below.heap_setCell _ _ _ _ (by
        have := (World.ownsRow.lt HOW.out q hq).1
        have := HKC.out.lt
        simp; omega))
      have hz24 : w.heap.size < W2.heap.size := by omega
      have HKC4 := hide kc4
      have HKB4 := hide kb4
      have HL4 := hide hl4
      have HO4 := hide ho4
      clear hW4 kc4 kb4 hl3 hl4 ho4 e1 f1 l1
      have HCK := hide (cellCheck_any ⟨1, cutB bs 2 k1, 0, 0, 0⟩ A3 k1 c3 W4 HCLEN.out.symm)
      have z0 := HKC4.out.cell 0
      have z1 := HKC4.out.cell 1
      have z2 := HKC4.out.cell 2
      have z3 := HKC4.out.cell 3
      have z4 := HKC4.out.cell 4
      by_cases hok : k1 ≤ 32
      · have HE := hide (show cellE ⟨1, cutB bs 2 k1, 0, 0, 0⟩ = 0 from by unfold cellE rightC; rw [if_pos (by simp [HCLEN.out]; omega)])
        have HGG := hide (show cellG bs = some ⟨1, cutB bs 2 k1, 0, 0, 0⟩ from by rw [HG.out, if_pos (by trivial), if_pos hok])
        rw [HE.out] at HCK
        clear hok
        go_upto_region 22 with (go_at_call 240; refine HCK.out.mono ?_; rintro e W5 ⟨rfl, hb5⟩; have HB5 := hide hb5; clear hb5)
        have kc5 := Blk.via HB5.out HKC4.out
        have kb5 := Blk.via HB5.out HKB4.out
        have y0 := kc5.cell 0
        have y1 := kc5.cell 1
        have y2 := kc5.cell 2
        have y3 := kc5.cell 3
        have y4 := kc5.cell 4
        have HKB5 := hide kb5
        have hl5 : Below w.heap.size w W5 := HL4.out.trans (HB5.out.mono HL4.out.size)
        have HL5 := hide hl5
        clear kc5 kb5 hl5
        have c20 := (HKB5.out).cell 0
        have c21 := (HKB5.out).cell 1
        have c22 := (HKB5.out).cell 2
        have c23 := (HKB5.out).cell 3
        have c24 := (HKB5.out).cell 4
        have f20 := (HKB5.out).frozen 0
        have f21 := (HKB5.out).frozen 1
        have f22 := (HKB5.out).frozen 2
        have f23 := (HKB5.out).frozen 3
        have f24 := (HKB5.out).frozen 4
        have l20 := (HKB5.out).lt
        go_wp2_with fail
        refine bodyPost_ret (results_row_2 Tryz.results202 _ _ w.heap.size #[.int .i64 (⟨1, cutB bs 2 k1, 0, 0, 0⟩ : CellD).kind, .slice A3 k1 c3, .int .i64 (⟨1, cutB bs 2 k1, 0, 0, 0⟩ : CellD).lo, .int .i64 (⟨1, cutB bs 2 k1, 0, 0, 0⟩ : CellD).hi, .int .i64 (⟨1, cutB bs 2 k1, 0, 0, 0⟩ : CellD).val] rfl (run_loadVar_row _ _ _ _ #[.int .i64 (⟨1, cutB bs 2 k1, 0, 0, 0⟩ : CellD).kind, .slice A3 k1 c3, .int .i64 (⟨1, cutB bs 2 k1, 0, 0, 0⟩ : CellD).lo, .int .i64 (⟨1, cutB bs 2 k1, 0, 0, 0⟩ : CellD).hi, .int .i64 (⟨1, cutB bs 2 k1, 0, 0, 0⟩ : CellD).val] (0, 0) _ (((((Blk.set_ HKB5.out 0 _).set_ 1 _).set_ 2 _).set_ 3 _).set_ 4 _) Tryz.underlying35 rfl info_cellK)) rfl ⟨?_, (((((Below.setCell HL5.out (p := ⟨w.heap.size, 0, none⟩) (Nat.le_refl _) _).setCell (p := ⟨w.heap.size, 1, none⟩) (Nat.le_refl _) _).setCell (p := ⟨w.heap.size, 2, none⟩) (Nat.le_refl _) _).setCell (p := ⟨w.heap.size, 3, none⟩) (Nat.le_refl _) _).setCell (p := ⟨w.heap.size, 4, none⟩) (Nat.le_refl _) _)⟩
        refine .inr ⟨_, A3, k1, c3, _, HGG.out, rfl, ?_⟩
        have ho5 := own_via HO4.out HB5.out
        have hne5 : ∀ q, (Value.slice A3 k1 c3).ownBlock = some q → q ≠ w.heap.size := fun q hq => by have := (World.ownsRow.lt HO4.out q hq).1; omega
        exact BytesAt.of_own (own_far (p := ⟨w.heap.size, 4, none⟩) (own_far (p := ⟨w.heap.size, 3, none⟩) (own_far (p := ⟨w.heap.size, 2, none⟩) (own_far (p := ⟨w.heap.size, 1, none⟩) (own_far (p := ⟨w.heap.size, 0, none⟩) ho5 hne5 _) hne5 _) hne5 _) hne5 _) hne5 _)
      · have HE := hide (show cellE ⟨1, cutB bs 2 k1, 0, 0, 0⟩ = 1 from by unfold cellE rightC; rw [if_neg (by simp [HCLEN.out]; omega)])
        have HGG := hide (show cellG bs = none from by rw [HG.out, if_pos (by trivial), if_neg hok])
        rw [HE.out] at HCK
        clear hok
        go_upto_region 21 with (go_at_call 240; refine HCK.out.mono ?_; rintro e W5 ⟨rfl, hb5⟩; have HB5 := hide hb5; clear hb5)
        have kb5 := Blk.via HB5.out HKB4.out
        have HKB5 := hide kb5
        have hl5 : Below w.heap.size w W5 := HL4.out.trans (HB5.out.mono HL4.out.size)
        have HL5 := hide hl5
        clear kb5 hl5
        have c20 := (HKB5.out).cell 0
        have c21 := (HKB5.out).cell 1
        have c22 := (HKB5.out).cell 2
        have c23 := (HKB5.out).cell 3
        have c24 := (HKB5.out).cell 4
        have f20 := (HKB5.out).frozen 0
        have f21 := (HKB5.out).frozen 1
        have f22 := (HKB5.out).frozen 2
        have f23 := (HKB5.out).frozen 3
        have f24 := (HKB5.out).frozen 4
        have l20 := (HKB5.out).lt
        go_wp2_with fail
        refine bodyPost_ret (results_row_2 Tryz.results202 _ _ w.heap.size #[.int .i64 0, .slice none 0 0, .int .i64 0, .int .i64 0, .int .i64 0] rfl (run_loadVar_row _ _ _ _ #[.int .i64 0, .slice none 0 0, .int .i64 0, .int .i64 0, .int .i64 0] (0, 0) _ (((((Blk.set_ HKB5.out 0 _).set_ 1 _).set_ 2 _).set_ 3 _).set_ 4 _) Tryz.underlying35 rfl info_cellK)) rfl ⟨?_, (((((Below.setCell HL5.out (p := ⟨w.heap.size, 0, none⟩) (Nat.le_refl _) _).setCell (p := ⟨w.heap.size, 1, none⟩) (Nat.le_refl _) _).setCell (p := ⟨w.heap.size, 2, none⟩) (Nat.le_refl _) _).setCell (p := ⟨w.heap.size, 3, none⟩) (Nat.le_refl _) _).setCell (p := ⟨w.heap.size, 4, none⟩) (Nat.le_refl _) _)⟩
        exact .inl ⟨HGG.out, _, _, rfl, by omega⟩
  · by_cases hk2 : k0 = 2
    · subst hk2
      obtain ⟨lo, hlo⟩ : ∃ lo, lo = numI (cutB bs 1 8) := ⟨_, rfl⟩
      obtain ⟨hi, hhi⟩ : ∃ hi, hi = numI (cutB bs 9 8) := ⟨_, rfl⟩
      obtain ⟨va, hva⟩ : ∃ va, va = numI (cutB bs 17 8) := ⟨_, rfl⟩
      have HG2 := HG.out
      rw [← hlo, ← hhi, ← hva] at HG2
      have HG := hide HG2
      have hz1c := HKC.out.lt
      have n1 := fun (W : World) (hb : Below w.heap.size w W) => HNUM.out 1 8 W (by omega) (by omega) (by omega) hb
      have n2 := fun (W : World) (hb : Below w.heap.size w W) => HNUM.out 9 8 W (by omega) (by omega) (by omega) hb
      have n3 := fun (W : World) (hb : Below w.heap.size w W) => HNUM.out 17 8 W (by omega) (by omega) (by omega) hb
      rw [← hlo] at n1
      rw [← hhi] at n2
      rw [← hva] at n3
      have HN1 := hide n1
      have HN2 := hide n2
      have HN3 := hide n3
      clear HG2 n1 n2 n3 hlo hhi hva
      have hw1 : w.heap.size ≤ W1.heap.size := hzz
      have y2 := HKC.out.cell 2
      have y3 := HKC.out.cell 3
      have y4 := HKC.out.cell 4
      have p2 := HKC.out.frozen 2
      have p3 := HKC.out.frozen 3
      have p4 := HKC.out.frozen 4
      go_upto_region 18 with (go_at_call 167; refine (HN1.out _ HL2.out).mono ?_; rintro e w' ⟨rfl, hw'⟩; obtain rfl := hw'.symm)
      go_upto_region 19 with (go_at_call 167; refine (HN2.out _ (HL2.out.setCell (p := ⟨W1.heap.size, 2, none⟩) hw1 _)).mono ?_; rintro e w' ⟨rfl, hw'⟩; obtain rfl := hw'.symm)
      go_upto_region 20 with (go_at_call 167; refine (HN3.out _ ((HL2.out.setCell (p := ⟨W1.heap.size, 2, none⟩) hw1 _).setCell (p := ⟨W1.heap.size, 3, none⟩) hw1 _)).mono ?_; rintro e w' ⟨rfl, hw'⟩; obtain rfl := hw'.symm)
      refine nameW (w := World.setCell _ _ _) (R := fun W => Code.wp _ _ _ _ W) (fun W4 hW4 => ?_)
      have kc4 : Blk W4 W1.heap.size 35 #[.int .i64 2, .slice none 0 0, .int .i64 lo, .int .i64 hi, .int .i64 va] := hW4 ▸ (((HKC.out.set_ 2 _).set_ 3 _).set_ 4 _)
      have kb4 : Blk W4 w.heap.size 35 #[.int .i64 0, .slice none 0 0, .int .i64 0, .int .i64 0, .int .i64 0] := hW4 ▸ (((HKB2.out.far (by simp; omega) _).far (by simp; omega) _).far (by simp; omega) _)
      have hl4 : Below w.heap.size w W4 := hW4 ▸ (((HL2.out.setCell (p := ⟨W1.heap.size, 2, none⟩) hw1 _).setCell (p := ⟨W1.heap.size, 3, none⟩) hw1 _).setCell (p := ⟨W1.heap.size, 4, none⟩) hw1 _)
      have ho4 : W4.ownsRow W2.heap.size 5 1 (.slice none 0 0) 0 (([] : List UInt8).map byteV) := World.ownsRow_nil _ _ _ _
      have hz24 : w.heap.size < W2.heap.size := by omega
      have HKC4 := hide kc4
      have HKB4 := hide kb4
      have HL4 := hide hl4
      have HO4 := hide ho4
      clear hW4 kc4 kb4 hl4 ho4 y2 y3 y4 p2 p3 p4
      have HCK := hide (cellCheck_any ⟨2, [], lo, hi, va⟩ none 0 0 W4 rfl)
      have z0 := HKC4.out.cell 0
      have z1 := HKC4.out.cell 1
      have z2 := HKC4.out.cell 2
      have z3 := HKC4.out.cell 3
      have z4 := HKC4.out.cell 4
      by_cases hok : lo ≤ va ∧ va ≤ hi
      · have HE := hide (show cellE ⟨2, [], lo, hi, va⟩ = 0 from by unfold cellE rightC; rw [if_pos (by simpa using hok)])
        have HGG := hide (show cellG bs = some ⟨2, [], lo, hi, va⟩ from by rw [HG.out, if_neg (by decide), if_pos (by trivial), if_pos hok])
        rw [HE.out] at HCK
        clear hok
        go_upto_region 22 with (go_at_call 240; refine HCK.out.mono ?_; rintro e W5 ⟨rfl, hb5⟩; have HB5 := hide hb5; clear hb5)
        have kc5 := Blk.via HB5.out HKC4.out
        have kb5 := Blk.via HB5.out HKB4.out
        have y0 := kc5.cell 0
        have y1 := kc5.cell 1
        have y2 := kc5.cell 2
        have y3 := kc5.cell 3
        have y4 := kc5.cell 4
        have HKB5 := hide kb5
        have hl5 : Below w.heap.size w W5 := HL4.out.trans (HB5.out.mono HL4.out.size)
        have HL5 := hide hl5
        clear kc5 kb5 hl5
        have c20 := (HKB5.out).cell 0
        have c21 := (HKB5.out).cell 1
        have c22 := (HKB5.out).cell 2
        have c23 := (HKB5.out).cell 3
        have c24 := (HKB5.out).cell 4
        have f20 := (HKB5.out).frozen 0
        have f21 := (HKB5.out).frozen 1
        have f22 := (HKB5.out).frozen 2
        have f23 := (HKB5.out).frozen 3
        have f24 := (HKB5.out).frozen 4
        have l20 := (HKB5.out).lt
        go_wp2_with fail
        refine bodyPost_ret (results_row_2 Tryz.results202 _ _ w.heap.size #[.int .i64 (⟨2, [], lo, hi, va⟩ : CellD).kind, .slice none 0 0, .int .i64 (⟨2, [], lo, hi, va⟩ : CellD).lo, .int .i64 (⟨2, [], lo, hi, va⟩ : CellD).hi, .int .i64 (⟨2, [], lo, hi, va⟩ : CellD).val] rfl (run_loadVar_row _ _ _ _ #[.int .i64 (⟨2, [], lo, hi, va⟩ : CellD).kind, .slice none 0 0, .int .i64 (⟨2, [], lo, hi, va⟩ : CellD).lo, .int .i64 (⟨2, [], lo, hi, va⟩ : CellD).hi, .int .i64 (⟨2, [], lo, hi, va⟩ : CellD).val] (0, 0) _ (((((Blk.set_ HKB5.out 0 _).set_ 1 _).set_ 2 _).set_ 3 _).set_ 4 _) Tryz.underlying35 rfl info_cellK)) rfl ⟨?_, (((((Below.setCell HL5.out (p := ⟨w.heap.size, 0, none⟩) (Nat.le_refl _) _).setCell (p := ⟨w.heap.size, 1, none⟩) (Nat.le_refl _) _).setCell (p := ⟨w.heap.size, 2, none⟩) (Nat.le_refl _) _).setCell (p := ⟨w.heap.size, 3, none⟩) (Nat.le_refl _) _).setCell (p := ⟨w.heap.size, 4, none⟩) (Nat.le_refl _) _)⟩
        refine .inr ⟨_, none, 0, 0, _, HGG.out, rfl, ?_⟩
        have ho5 := own_via HO4.out HB5.out
        have hne5 : ∀ q, (Value.slice none 0 0).ownBlock = some q → q ≠ w.heap.size := fun q hq => by have := (World.ownsRow.lt HO4.out q hq).1; omega
        exact BytesAt.of_own (own_far (p := ⟨w.heap.size, 4, none⟩) (own_far (p := ⟨w.heap.size, 3, none⟩) (own_far (p := ⟨w.heap.size, 2, none⟩) (own_far (p := ⟨w.heap.size, 1, none⟩) (own_far (p := ⟨w.heap.size, 0, none⟩) ho5 hne5 _) hne5 _) hne5 _) hne5 _) hne5 _)
      · have HE := hide (show cellE ⟨2, [], lo, hi, va⟩ = 1 from by unfold cellE rightC; rw [if_neg (by simpa using hok)])
        have HGG := hide (show cellG bs = none from by rw [HG.out, if_neg (by decide), if_pos (by trivial), if_neg hok])
        rw [HE.out] at HCK
        clear hok
        go_upto_region 21 with (go_at_call 240; refine HCK.out.mono ?_; rintro e W5 ⟨rfl, hb5⟩; have HB5 := hide hb5; clear hb5)
        have kb5 := Blk.via HB5.out HKB4.out
        have HKB5 := hide kb5
        have hl5 : Below w.heap.size w W5 := HL4.out.trans (HB5.out.mono HL4.out.size)
        have HL5 := hide hl5
        clear kb5 hl5
        have c20 := (HKB5.out).cell 0
        have c21 := (HKB5.out).cell 1
        have c22 := (HKB5.out).cell 2
        have c23 := (HKB5.out).cell 3
        have c24 := (HKB5.out).cell 4
        have f20 := (HKB5.out).frozen 0
        have f21 := (HKB5.out).frozen 1
        have f22 := (HKB5.out).frozen 2
        have f23 := (HKB5.out).frozen 3
        have f24 := (HKB5.out).frozen 4
        have l20 := (HKB5.out).lt
        go_wp2_with fail
        refine bodyPost_ret (results_row_2 Tryz.results202 _ _ w.heap.size #[.int .i64 0, .slice none 0 0, .int .i64 0, .int .i64 0, .int .i64 0] rfl (run_loadVar_row _ _ _ _ #[.int .i64 0, .slice none 0 0, .int .i64 0, .int .i64 0, .int .i64 0] (0, 0) _ (((((Blk.set_ HKB5.out 0 _).set_ 1 _).set_ 2 _).set_ 3 _).set_ 4 _) Tryz.underlying35 rfl info_cellK)) rfl ⟨?_, (((((Below.setCell HL5.out (p := ⟨w.heap.size, 0, none⟩) (Nat.le_refl _) _).setCell (p := ⟨w.heap.size, 1, none⟩) (Nat.le_refl _) _).setCell (p := ⟨w.heap.size, 2, none⟩) (Nat.le_refl _) _).setCell (p := ⟨w.heap.size, 3, none⟩) (Nat.le_refl _) _).setCell (p := ⟨w.heap.size, 4, none⟩) (Nat.le_refl _) _)⟩
        exact .inl ⟨HGG.out, _, _, rfl, by omega⟩
    · have b1 : (((k0 : Nat) : Int) == 1) = false := by rw [beq_eq_false_iff_ne]; omega
      have b2 : (((k0 : Nat) : Int) == 2) = false := by rw [beq_eq_false_iff_ne]; omega
      have HRC := hide (show rightC ⟨(k0 : Nat), [], 0, 0, 0⟩ = false by
        unfold rightC
        rw [if_neg (by simp; omega)]
        simp
        omega)
      have HNN := hide (show cellG bs = none by rw [HG.out, if_neg hk1, if_neg hk2])
      have HKC4 := HKC
      have HKB4 := HKB2
      have HL4 := HL2
      have HCK := hide (cellCheck_any ⟨(k0 : Nat), [], 0, 0, 0⟩ none 0 0 W2 rfl)
      clear hk1 hk2
      go_upto_region 20 with (fail)
      have z0 := HKC4.out.cell 0
      have z1 := HKC4.out.cell 1
      have z2 := HKC4.out.cell 2
      have z3 := HKC4.out.cell 3
      have z4 := HKC4.out.cell 4
      have HE := hide (show cellE ⟨(k0 : Nat), [], 0, 0, 0⟩ = 1 from by unfold cellE; rw [HRC.out]; rfl)
      have HGG := hide (show cellG bs = none from HNN.out)
      rw [HE.out] at HCK
      go_upto_region 21 with (go_at_call 240; refine HCK.out.mono ?_; rintro e W5 ⟨rfl, hb5⟩; have HB5 := hide hb5; clear hb5)
      have kb5 := Blk.via HB5.out HKB4.out
      have HKB5 := hide kb5
      have hl5 : Below w.heap.size w W5 := HL4.out.trans (HB5.out.mono HL4.out.size)
      have HL5 := hide hl5
      clear kb5 hl5
      have c20 := (HKB5.out).cell 0
      have c21 := (HKB5.out).cell 1
      have c22 := (HKB5.out).cell 2
      have c23 := (HKB5.out).cell 3
      have c24 := (HKB5.out).cell 4
      have f20 := (HKB5.out).frozen 0
      have f21 := (HKB5.out).frozen 1
      have f22 := (HKB5.out).frozen 2
      have f23 := (HKB5.out).frozen 3
      have f24 := (HKB5.out).frozen 4
      have l20 := (HKB5.out).lt
      go_wp2_with fail
      refine bodyPost_ret (results_row_2 Tryz.results202 _ _ w.heap.size #[.int .i64 0, .slice none 0 0, .int .i64 0, .int .i64 0, .int .i64 0] rfl (run_loadVar_row _ _ _ _ #[.int .i64 0, .slice none 0 0, .int .i64 0, .int .i64 0, .int .i64 0] (0, 0) _ (((((Blk.set_ HKB5.out 0 _).set_ 1 _).set_ 2 _).set_ 3 _).set_ 4 _) Tryz.underlying35 rfl info_cellK)) rfl ⟨?_, (((((Below.setCell HL5.out (p := ⟨w.heap.size, 0, none⟩) (Nat.le_refl _) _).setCell (p := ⟨w.heap.size, 1, none⟩) (Nat.le_refl _) _).setCell (p := ⟨w.heap.size, 2, none⟩) (Nat.le_refl _) _).setCell (p := ⟨w.heap.size, 3, none⟩) (Nat.le_refl _) _).setCell (p := ⟨w.heap.size, 4, none⟩) (Nat.le_refl _) _)⟩
      exact .inl ⟨HGG.out, _, _, rfl, by omega⟩
end Go.Proofs.YtnanlaefehaifaaGreat
namespace Go.Proofs.YtnanlaefehaifaaGreat
open Go.RowKit
theorem cellGetR_any (A : Option Addr) (n c : Nat) (bs : List UInt8) (B : Nat) (w : World) (hB : B ≤ w.heap.size) (hm : 46 ≤ n) (hm2 : n ≤ 64) (hnc : n ≤ c) (hcm : c ≤ maxLen) (hn : n = bs.length) (hr : Reads w B 1 A n (bs.map byteV)) :
    Calls Tryz.prog 194 #[.slice A n c] w (CellGP w (cellG bs)) := by
  have HNUM := hide (fun (at_ width : Nat) (W : World) (h1 : 1 ≤ width) (h8 : width ≤ 8) (hin : at_ + width ≤ n) (hb : Below w.heap.size w W) => atR_any A n c bs at_ width B W (by omega) hn (hr.below hb hB) h1 h8 hin)
  have HRD := hide (fun (W : World) (hb : Below w.heap.size w W) => hr.below hb hB)
  have HN := hide hn
  have HCM := hide hcm
  obtain ⟨b, o, rfl, hbB, _⟩ := hr.plain (by omega) (by omega)
  clear hr
  obtain ⟨x0, hx0⟩ : ∃ x, bs[0]? = some x := ⟨_, List.getElem?_eq_getElem (by omega)⟩
  obtain ⟨x1, hx1⟩ : ∃ x, bs[1]? = some x := ⟨_, List.getElem?_eq_getElem (by omega)⟩
  have H0 := hide (numI_one bs 0 x0 hx0)
  have H1 := hide (numI_one bs 1 x1 hx1)
  have HG := hide (show cellG bs = (if x0.toNat = 1 then (if x1.toNat ≤ 32 then some ⟨1, cutB bs 2 x1.toNat, 0, 0, 0⟩ else none)
    else if x0.toNat = 2 then (if numI (cutB bs 1 8) ≤ numI (cutB bs 17 8) ∧ numI (cutB bs 17 8) ≤ numI (cutB bs 9 8) then some ⟨2, [], numI (cutB bs 1 8), numI (cutB bs 9 8), numI (cutB bs 17 8)⟩ else none) else none) by
    unfold cellG
    rw [show bs.getD 0 0 = x0 by rw [List.getD_eq_getElem?_getD, hx0]; rfl, show bs.getD 1 0 = x1 by rw [List.getD_eq_getElem?_getD, hx1]; rfl])
  have hxl0 := x0.toNat_lt
  have hxl1 := x1.toNat_lt
  generalize x0.toNat = k0 at *
  generalize x1.toNat = k1 at *
  clear hn hx0 hx1 hcm
  go_enter Tryz.func194, Tryz.ntmps194
  go_upto_region 1 with (fail)
  refine gen1 (R := fun W => Code.wp _ _ _ _ W) (fun W1 kb hb1 hz1 => ?_)
  have HB1 := hide hb1
  have HKB := hide kb
  clear kb hb1
  have HC0 := hide (HNUM.out 0 1 W1 (by omega) (by omega) (by omega) HB1.out)
  rw [H0.out] at HC0
  have HC1 := hide (HNUM.out 1 1 W1 (by omega) (by omega) (by omega) HB1.out)
  rw [H1.out] at HC1
  have c20 := HKB.out.cell 0
  have c21 := HKB.out.cell 1
  have c22 := HKB.out.cell 2
  have c23 := HKB.out.cell 3
  have c24 := HKB.out.cell 4
  have f20 := HKB.out.frozen 0
  have f21 := HKB.out.frozen 1
  have f22 := HKB.out.frozen 2
  have f23 := HKB.out.frozen 3
  have f24 := HKB.out.frozen 4
  have l20 := HKB.out.lt
  go_upto_region 4 with (go_at_call 132; refine HC0.out.mono ?_; rintro e w' ⟨rfl, hw'⟩; obtain rfl := hw'.symm)
  by_cases hk2 : k0 = 2
  · subst hk2
    obtain ⟨lo, hlo⟩ : ∃ lo, lo = numI (cutB bs 1 8) := ⟨_, rfl⟩
    obtain ⟨hi, hhi⟩ : ∃ hi, hi = numI (cutB bs 9 8) := ⟨_, rfl⟩
    obtain ⟨va, hva⟩ : ∃ va, va = numI (cutB bs 17 8) := ⟨_, rfl⟩
    have HG2 := HG.out
    rw [← hlo, ← hhi, ← hva] at HG2
    have HG := hide HG2
    have n1 := HNUM.out 1 8 W1 (by omega) (by omega) (by omega) HB1.out
    have n2 := HNUM.out 9 8 W1 (by omega) (by omega) (by omega) HB1.out
    have n3 := HNUM.out 17 8 W1 (by omega) (by omega) (by omega) HB1.out
    rw [← hlo] at n1
    rw [← hhi] at n2
    rw [← hva] at n3
    have HN1 := hide n1
    have HN2 := hide n2
    have HN3 := hide n3
    clear HG2 n1 n2 n3 hlo hhi hva
    go_upto_region 6 with (go_at_call 132; refine HN1.out.mono ?_; rintro e w' ⟨rfl, hw'⟩; obtain rfl := hw'.symm)
    go_upto_region 7 with (go_at_call 132; refine HN2.out.mono ?_; rintro e w' ⟨rfl, hw'⟩; obtain rfl := hw'.symm)
    go_upto_region 8 with (go_at_call 132; refine HN3.out.mono ?_; rintro e w' ⟨rfl, hw'⟩; obtain rfl := hw'.symm)
    by_cases h1 : va < lo
    · have HNO := hide (show cellG bs = none by rw [HG.out, if_neg (by decide), if_pos (by trivial), if_neg (by omega)])
      go_wp2
      refine bodyPost_ret (results_row_2 Tryz.results194 _ _ w.heap.size #[.int .i64 0, .slice none 0 0, .int .i64 0, .int .i64 0, .int .i64 0] rfl (run_loadVar_row _ _ _ _ #[.int .i64 0, .slice none 0 0, .int .i64 0, .int .i64 0, .int .i64 0] (0, 0) _ (((((Blk.set_ HKB.out 0 _).set_ 1 _).set_ 2 _).set_ 3 _).set_ 4 _) Tryz.underlying35 rfl info_cellK)) rfl ⟨?_, (((((Below.setCell HB1.out (p := ⟨w.heap.size, 0, none⟩) (Nat.le_refl _) _).setCell (p := ⟨w.heap.size, 1, none⟩) (Nat.le_refl _) _).setCell (p := ⟨w.heap.size, 2, none⟩) (Nat.le_refl _) _).setCell (p := ⟨w.heap.size, 3, none⟩) (Nat.le_refl _) _).setCell (p := ⟨w.heap.size, 4, none⟩) (Nat.le_refl _) _)⟩
      exact .inl ⟨HNO.out, _, _, rfl, by omega⟩
    · by_cases h2 : hi < va
      · have HNO := hide (show cellG bs = none by rw [HG.out, if_neg (by decide), if_pos (by trivial), if_neg (by omega)])
        go_wp2
        refine bodyPost_ret (results_row_2 Tryz.results194 _ _ w.heap.size #[.int .i64 0, .slice none 0 0, .int .i64 0, .int .i64 0, .int .i64 0] rfl (run_loadVar_row _ _ _ _ #[.int .i64 0, .slice none 0 0, .int .i64 0, .int .i64 0, .int .i64 0] (0, 0) _ (((((Blk.set_ HKB.out 0 _).set_ 1 _).set_ 2 _).set_ 3 _).set_ 4 _) Tryz.underlying35 rfl info_cellK)) rfl ⟨?_, (((((Below.setCell HB1.out (p := ⟨w.heap.size, 0, none⟩) (Nat.le_refl _) _).setCell (p := ⟨w.heap.size, 1, none⟩) (Nat.le_refl _) _).setCell (p := ⟨w.heap.size, 2, none⟩) (Nat.le_refl _) _).setCell (p := ⟨w.heap.size, 3, none⟩) (Nat.le_refl _) _).setCell (p := ⟨w.heap.size, 4, none⟩) (Nat.le_refl _) _)⟩
        exact .inl ⟨HNO.out, _, _, rfl, by omega⟩
      · have HYES := hide (show cellG bs = some ⟨2, [], lo, hi, va⟩ by rw [HG.out, if_neg (by decide), if_pos (by trivial), if_pos (by omega)])
        go_wp2
        refine bodyPost_ret (results_row_2 Tryz.results194 _ _ w.heap.size #[.int .i64 2, .slice none 0 0, .int .i64 lo, .int .i64 hi, .int .i64 va] rfl (run_loadVar_row _ _ _ _ #[.int .i64 2, .slice none 0 0, .int .i64 lo, .int .i64 hi, .int .i64 va] (0, 0) _ (((((Blk.set_ HKB.out 0 _).set_ 1 _).set_ 2 _).set_ 3 _).set_ 4 _) Tryz.underlying35 rfl info_cellK)) rfl ⟨?_, (((((Below.setCell HB1.out (p := ⟨w.heap.size, 0, none⟩) (Nat.le_refl _) _).setCell (p := ⟨w.heap.size, 1, none⟩) (Nat.le_refl _) _).setCell (p := ⟨w.heap.size, 2, none⟩) (Nat.le_refl _) _).setCell (p := ⟨w.heap.size, 3, none⟩) (Nat.le_refl _) _).setCell (p := ⟨w.heap.size, 4, none⟩) (Nat.le_refl _) _)⟩
        exact .inr ⟨_, none, 0, 0, _, HYES.out, rfl, ⟨none, 0, 0, rfl, Nat.le_refl _, Nat.zero_le _, rfl, fun _ => rfl, Reads.none_⟩⟩
  · by_cases hk1 : k0 = 1
    · subst hk1
      go_upto_region 16 with (go_at_call 132; refine HC1.out.mono ?_; rintro e w' ⟨rfl, hw'⟩; obtain rfl := hw'.symm)
      by_cases h1 : (n : Int) - 2 < k1
      · have HNO := hide (show cellG bs = none by rw [HG.out, if_pos (by trivial), if_neg (by omega)])
        go_wp2
        refine bodyPost_ret (results_row_2 Tryz.results194 _ _ w.heap.size #[.int .i64 0, .slice none 0 0, .int .i64 0, .int .i64 0, .int .i64 0] rfl (run_loadVar_row _ _ _ _ #[.int .i64 0, .slice none 0 0, .int .i64 0, .int .i64 0, .int .i64 0] (0, 0) _ (((((Blk.set_ HKB.out 0 _).set_ 1 _).set_ 2 _).set_ 3 _).set_ 4 _) Tryz.underlying35 rfl info_cellK)) rfl ⟨?_, (((((Below.setCell HB1.out (p := ⟨w.heap.size, 0, none⟩) (Nat.le_refl _) _).setCell (p := ⟨w.heap.size, 1, none⟩) (Nat.le_refl _) _).setCell (p := ⟨w.heap.size, 2, none⟩) (Nat.le_refl _) _).setCell (p := ⟨w.heap.size, 3, none⟩) (Nat.le_refl _) _).setCell (p := ⟨w.heap.size, 4, none⟩) (Nat.le_refl _) _)⟩
        exact .inl ⟨HNO.out, _, _, rfl, by omega⟩
      · by_cases h2 : (32 : Int) < k1
        · have HNO := hide (show cellG bs = none by rw [HG.out, if_pos (by trivial), if_neg (by omega)])
          go_wp2
          refine bodyPost_ret (results_row_2 Tryz.results194 _ _ w.heap.size #[.int .i64 0, .slice none 0 0, .int .i64 0, .int .i64 0, .int .i64 0] rfl (run_loadVar_row _ _ _ _ #[.int .i64 0, .slice none 0 0, .int .i64 0, .int .i64 0, .int .i64 0] (0, 0) _ (((((Blk.set_ HKB.out 0 _).set_ 1 _).set_ 2 _).set_ 3 _).set_ 4 _) Tryz.underlying35 rfl info_cellK)) rfl ⟨?_, (((((Below.setCell HB1.out (p := ⟨w.heap.size, 0, none⟩) (Nat.le_refl _) _).setCell (p := ⟨w.heap.size, 1, none⟩) (Nat.le_refl _) _).setCell (p := ⟨w.heap.size, 2, none⟩) (Nat.le_refl _) _).setCell (p := ⟨w.heap.size, 3, none⟩) (Nat.le_refl _) _).setCell (p := ⟨w.heap.size, 4, none⟩) (Nat.le_refl _) _)⟩
          exact .inl ⟨HNO.out, _, _, rfl, by omega⟩
        · have HYES := hide (show cellG bs = some ⟨1, cutB bs 2 k1, 0, 0, 0⟩ by rw [HG.out, if_pos (by trivial), if_pos (by omega)])
          have g1 : (2 : Int) + k1 ≤ c := by omega
          have g2 : (2 : Int) ≤ 2 + k1 := by omega
          have g3 : ¬ (c = 2) := by omega
          have hcut : ((bs.map byteV).drop (2 * 1)).take (k1 * 1) = (cutB bs 2 k1).map byteV := by
            unfold cutB
            rw [Nat.mul_one, Nat.mul_one, List.map_take, List.map_drop]
          have hclen : (cutB bs 2 k1).length = k1 := by
            unfold cutB
            rw [List.length_take, List.length_drop, ← HN.out]
            omega
          have hrd : Reads W1 B 1 (some ⟨b, o + 2, none⟩) k1 ((cutB bs 2 k1).map byteV) := by
            have h := ((HRD.out W1 HB1.out).cut (k := 2) (cap := c) (by omega) hnc).take (k := k1) (by omega)
            rw [if_neg (by omega), Option.map_some, add_plain, hcut] at h
            exact h
          have HRDX := hide hrd
          have HCLEN := hide hclen
          clear hrd hcut hclen
          go_wp2
          refine bodyPost_ret (results_row_2 Tryz.results194 _ _ w.heap.size #[.int .i64 1, .slice (some ⟨b, o + 2, none⟩) k1 (c - 2), .int .i64 0, .int .i64 0, .int .i64 0] rfl (run_loadVar_row _ _ _ _ #[.int .i64 1, .slice (some ⟨b, o + 2, none⟩) k1 (c - 2), .int .i64 0, .int .i64 0, .int .i64 0] (0, 0) _ (((((Blk.set_ HKB.out 0 _).set_ 1 _).set_ 2 _).set_ 3 _).set_ 4 _) Tryz.underlying35 rfl info_cellK)) rfl ⟨?_, (((((Below.setCell HB1.out (p := ⟨w.heap.size, 0, none⟩) (Nat.le_refl _) _).setCell (p := ⟨w.heap.size, 1, none⟩) (Nat.le_refl _) _).setCell (p := ⟨w.heap.size, 2, none⟩) (Nat.le_refl _) _).setCell (p := ⟨w.heap.size, 3, none⟩) (Nat.le_refl _) _).setCell (p := ⟨w.heap.size, 4, none⟩) (Nat.le_refl _) _)⟩
          refine .inr ⟨⟨1, cutB bs 2 k1, 0, 0, 0⟩, some ⟨b, o + 2, none⟩, k1, c - 2, _, HYES.out, rfl, ⟨_, _, _, rfl, by omega, by have := HCM.out; omega, by rw [HCLEN.out], fun h => (by cases h), ?_⟩⟩
          have h5 := ((((HRDX.out.setCell (p := ⟨w.heap.size, 0, none⟩) hB (.int .i64 1)).setCell (p := ⟨w.heap.size, 1, none⟩) hB (.slice (some ⟨b, o + 2, none⟩) k1 (c - 2))).setCell (p := ⟨w.heap.size, 2, none⟩) hB (.int .i64 0)).setCell (p := ⟨w.heap.size, 3, none⟩) hB (.int .i64 0)).setCell (p := ⟨w.heap.size, 4, none⟩) hB (.int .i64 0)
          refine h5.more ?_
          have := HKB.out.lt
          simp [World.setCell]
          omega
    · have HNO := hide (show cellG bs = none by rw [HG.out, if_neg hk1, if_neg hk2])
      have b1 : (((k0 : Nat) : Int) == 2) = false := by rw [beq_eq_false_iff_ne]; omega
      have b2 : (((k0 : Nat) : Int) != 1) = true := by rw [bne_iff_ne]; omega
      clear hk1 hk2
      go_wp2
      refine bodyPost_ret (results_row_2 Tryz.results194 _ _ w.heap.size #[.int .i64 0, .slice none 0 0, .int .i64 0, .int .i64 0, .int .i64 0] rfl (run_loadVar_row _ _ _ _ #[.int .i64 0, .slice none 0 0, .int .i64 0, .int .i64 0, .int .i64 0] (0, 0) _ (((((Blk.set_ HKB.out 0 _).set_ 1 _).set_ 2 _).set_ 3 _).set_ 4 _) Tryz.underlying35 rfl info_cellK)) rfl ⟨?_, (((((Below.setCell HB1.out (p := ⟨w.heap.size, 0, none⟩) (Nat.le_refl _) _).setCell (p := ⟨w.heap.size, 1, none⟩) (Nat.le_refl _) _).setCell (p := ⟨w.heap.size, 2, none⟩) (Nat.le_refl _) _).setCell (p := ⟨w.heap.size, 3, none⟩) (Nat.le_refl _) _).setCell (p := ⟨w.heap.size, 4, none⟩) (Nat.le_refl _) _)⟩
      exact .inl ⟨HNO.out, _, _, rfl, by omega⟩
end Go.Proofs.YtnanlaefehaifaaGreat
