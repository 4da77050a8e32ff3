/-
  A STEP's MEMORY: what lies there while model.step goes; the thing and the answer of a rule, stored. The law of the rules. No program.
-/
import Derived.Test.YteidmdnhkgcnoaaGreatPJ
import Derived.Test.YteidmdnhkgcnoaaGreatPE
namespace Go.Proofs.YteidmdnhkgcnoaaGreat
open Go.RowKit

theorem OwnB.apart {w w' : World} {base g : Nat} {v : Value} {bs : List UInt8} {t : TypeId} {cs : Array Value} (h : OwnB w base v bs) (ht : Touch g (g + 1) w w') (k : Blk w g t cs) (hne : t ≠ 5) : OwnB w' base v bs := h.keep fun q hq => by
  refine ht.block q ?_
  rcases Nat.lt_trichotomy q g with e | e | e
  · exact .inl e
  · exfalso
    obtain ⟨h1, ⟨rfl, h2⟩ | ⟨g', cap, cur, rfl, hg, hh, r⟩⟩ := h
    · cases hq
    · have : g' = q := by simpa [Value.ownBlock] using hq
      rw [this, e] at hh
      unfold Blk at k
      rw [hh] at k
      injection k with k
      injection k with _ k
      exact hne k.symm
  · exact .inr e
theorem StS.apart {w w' : World} {base g : Nat} {v : Value} {ys : List PairV} {t : TypeId} {cs : Array Value} (h : StS w base v ys) (ht : Touch g (g + 1) w w') (k : Blk w g t cs) (hne : t ≠ 5) (hnp : t ≠ 55) : StS w' base v ys := by
  refine ⟨?_, fun y hy => (h.ok y hy).apart ht k hne⟩
  refine h.own.kept (row := some g) ⟨ht.os, ht.tape, ht.output, Nat.le_of_eq ht.size.symm, fun q _ hq => ht.block q (by rcases Nat.lt_trichotomy q g with e | e | e; exact .inl e; exact absurd (by rw [e]) hq; exact .inr e)⟩ (.inr ?_)
  intro hq
  obtain ⟨h1, ⟨rfl, h2⟩ | ⟨g', cap, cur, rfl, hg, hh, r⟩⟩ := h.own
  · cases hq
  · have : g' = g := by simpa [Value.ownBlock] using hq
    rw [this] at hh
    unfold Blk at k
    rw [hh] at k
    injection k with k
    injection k with _ k
    exact hnp k.symm

/-- What lies in memory while a step goes. -/
structure RSt (w : World) (base : Nat) (v : Value) (ys : List PairV) (O N : Array Value) (g9 : Nat) (W : World) : Prop where
  k0 : Blk W w.heap.size 31 O
  k1 : Blk W (w.heap.size + 1) 36 #[.int .i64 0, .int .i64 0, .slice none 0 0, .int .i64 0, .int .i64 0, .int .i64 0]
  k9 : Blk W g9 122 N
  st : StS W base v ys
  b : Below w.heap.size w W
  h9 : w.heap.size + 2 ≤ g9
section
variable {w W W' : World} {base : Nat} {v : Value} {ys : List PairV} {O N : Array Value} {g9 : Nat}
theorem RSt.lt (h : RSt w base v ys O N g9 W) : g9 + 1 ≤ W.heap.size := h.k9.lt
theorem RSt.via (h : RSt w base v ys O N g9 W) (hb : Below W.heap.size W W') : RSt w base v ys O N g9 W' := ⟨Blk.via hb h.k0, Blk.via hb h.k1, Blk.via hb h.k9, h.st.via hb, below_via h.b hb h.b.size, h.h9⟩
theorem RSt.drew (h : RSt w base v ys O N g9 W) : RSt w base v ys O N g9 W.drew := h.via (Below.refl _ _).drew
theorem RSt.alloc (h : RSt w base v ys O N g9 W) (o : Obj) : RSt w base v ys O N g9 (W.alloc o) := h.via ((Below.refl _ _).alloc (Nat.le_refl _) _)
theorem RSt.touch {g : Nat} {t : TypeId} {cs : Array Value} (h : RSt w base v ys O N g9 W) (ht : Touch g (g + 1) W W') (k : Blk W g t cs) (hne : t ≠ 5) (hnp : t ≠ 55) (hg : g9 < g) : RSt w base v ys O N g9 W' :=
  have h9 := h.h9
  ⟨(ht.block _ (by omega)).trans h.k0, (ht.block _ (by omega)).trans h.k1, (ht.block _ (by omega)).trans h.k9, h.st.apart ht k hne hnp, ht.below h.b (by omega), h9⟩
end
/-- Twelve loads: of the operation and of the thing. -/
theorem RSt.loads {w W : World} {base : Nat} {v : Value} {ys : List PairV} {g9 : Nat} {o0 o1 o2 o3 o4 o5 a0 a1 a2 a3 a4 a5 : Value} (h : RSt w base v ys #[o0, o1, o2, o3, o4, o5] #[a0, a1, a2, a3, a4, a5] g9 W) :
    (W.cell? ⟨w.heap.size, 0, none⟩ = some o0 ∧ W.cell? ⟨w.heap.size, 1, none⟩ = some o1 ∧ W.cell? ⟨w.heap.size, 2, none⟩ = some o2 ∧ W.cell? ⟨w.heap.size, 3, none⟩ = some o3 ∧ W.cell? ⟨w.heap.size, 4, none⟩ = some o4 ∧ W.cell? ⟨w.heap.size, 5, none⟩ = some o5) ∧
    (W.cell? ⟨g9, 0, none⟩ = some a0 ∧ W.cell? ⟨g9, 1, none⟩ = some a1 ∧ W.cell? ⟨g9, 2, none⟩ = some a2 ∧ W.cell? ⟨g9, 3, none⟩ = some a3 ∧ W.cell? ⟨g9, 4, none⟩ = some a4 ∧ W.cell? ⟨g9, 5, none⟩ = some a5) := ⟨SixP.of h.k0, SixP.of h.k9⟩

/-- Behind the rule: its thing and its answer lie in two blocks of their own. -/
def RuleOut (w : World) (base : Nat) (v : Value) (ys : List PairV) (O N : Array Value) (g9 : Nat) (T Z : Array Value) (tv av : Value) (tb ab : List UInt8) (s10 s11 : Value) (W : World) : Prop :=
  ∃ g10 g11 : Nat, s10 = .pointer (some ⟨g10, 0, none⟩) ∧ s11 = .pointer (some ⟨g11, 0, none⟩) ∧ g9 < g10 ∧ g9 < g11 ∧ Blk W g10 122 T ∧ Blk W g11 36 Z ∧ OwnB W base tv tb ∧ OwnB W base av ab ∧ RSt w base v ys O N g9 W
section
variable {w W : World} {base : Nat} {v : Value} {ys : List PairV} {O N : Array Value} {g9 : Nat} {tv av : Value} {tb ab : List UInt8} {a0 a1 a2 a3 a4 a5 b0 b1 b2 b3 b4 b5 : Value}
theorem RuleOut.f1 (h : RSt w base v ys O N g9 W) (ht : OwnB W base tv tb) (ha : OwnB W base av ab) : RuleOut w base v ys O N g9 #[a0, a1, a2, a3, a4, a5] #[b0, b1, b2, b3, b4, b5] tv av tb ab (.pointer (some ⟨W.heap.size, 0, none⟩)) (.pointer (some ⟨W.heap.size + 1, 0, none⟩)) ((W.alloc (.cells #[a0, a1, a2, a3, a4, a5] 122)).alloc (.cells #[b0, b1, b2, b3, b4, b5] 36)) :=
  ⟨_, _, rfl, rfl, h.lt, by have := h.lt; omega, (Blk.new _ _ _).alloc _, by simpa using Blk.new (W.alloc (.cells #[a0, a1, a2, a3, a4, a5] 122)) 36 #[b0, b1, b2, b3, b4, b5], (ht.alloc _).alloc _, (ha.alloc _).alloc _, (h.alloc _).alloc _⟩
theorem RuleOut.f2 (h : RSt w base v ys O N g9 W) (ht : OwnB W base tv tb) (ha : OwnB W base av ab) : RuleOut w base v ys O N g9 #[a0, a1, a2, a3, a4, a5] #[b0, b1, b2, b3, b4, b5] tv av tb ab (.pointer (some ⟨W.heap.size + 1, 0, none⟩)) (.pointer (some ⟨W.heap.size, 0, none⟩)) ((W.alloc (.cells #[b0, b1, b2, b3, b4, b5] 36)).alloc (.cells #[a0, a1, a2, a3, a4, a5] 122)) :=
  ⟨_, _, rfl, rfl, by have := h.lt; omega, h.lt, by simpa using Blk.new (W.alloc (.cells #[b0, b1, b2, b3, b4, b5] 36)) 122 #[a0, a1, a2, a3, a4, a5], (Blk.new _ _ _).alloc _, (ht.alloc _).alloc _, (ha.alloc _).alloc _, (h.alloc _).alloc _⟩
theorem six_blk {g : Nat} {t : TypeId} {z0 z1 z2 z3 z4 z5 : Value} (k : Blk W g t #[z0, z1, z2, z3, z4, z5]) : Blk ((((((W.setCell ⟨g, 0, none⟩ a0).setCell ⟨g, 1, none⟩ a1).setCell ⟨g, 2, none⟩ a2).setCell ⟨g, 3, none⟩ a3).setCell ⟨g, 4, none⟩ a4).setCell ⟨g, 5, none⟩ a5) g t #[a0, a1, a2, a3, a4, a5] ∧ Touch g (g + 1) W ((((((W.setCell ⟨g, 0, none⟩ a0).setCell ⟨g, 1, none⟩ a1).setCell ⟨g, 2, none⟩ a2).setCell ⟨g, 3, none⟩ a3).setCell ⟨g, 4, none⟩ a4).setCell ⟨g, 5, none⟩ a5) :=
  ⟨(((((k.set_ 0 _).set_ 1 _).set_ 2 _).set_ 3 _).set_ 4 _).set_ 5 _, Touch.oneP (Touch.oneP (Touch.oneP (Touch.oneP (Touch.oneP (Touch.oneP (Touch.refl _) _) _) _) _) _) _⟩
theorem RuleOut.f3 {g : Nat} {z0 z1 z2 z3 z4 z5 : Value} (h : RSt w base v ys O N g9 W) (ht : OwnB W base tv tb) (ha : OwnB W base av ab) (k : Blk W g 122 #[z0, z1, z2, z3, z4, z5]) (hg : g9 < g) : RuleOut w base v ys O N g9 #[a0, a1, a2, a3, a4, a5] #[b0, b1, b2, b3, b4, b5] tv av tb ab (.pointer (some ⟨g, 0, none⟩)) (.pointer (some ⟨W.heap.size, 0, none⟩)) (((((((W.setCell ⟨g, 0, none⟩ a0).setCell ⟨g, 1, none⟩ a1).setCell ⟨g, 2, none⟩ a2).setCell ⟨g, 3, none⟩ a3).setCell ⟨g, 4, none⟩ a4).setCell ⟨g, 5, none⟩ a5).alloc (.cells #[b0, b1, b2, b3, b4, b5] 36)) := by
  obtain ⟨k', ht'⟩ := six_blk (a0 := a0) (a1 := a1) (a2 := a2) (a3 := a3) (a4 := a4) (a5 := a5) k
  have hs := ht'.size
  generalize ((((((W.setCell ⟨g, 0, none⟩ a0).setCell ⟨g, 1, none⟩ a1).setCell ⟨g, 2, none⟩ a2).setCell ⟨g, 3, none⟩ a3).setCell ⟨g, 4, none⟩ a4).setCell ⟨g, 5, none⟩ a5) = W' at *
  refine ⟨g, W.heap.size, rfl, rfl, hg, h.lt, k'.alloc _, by rw [← hs]; exact Blk.new _ _ _, (ht.apart ht' k (by decide)).alloc _, (ha.apart ht' k (by decide)).alloc _, (h.touch ht' k (by decide) (by decide) hg).alloc _⟩
theorem RuleOut.f4 {g : Nat} {z0 z1 z2 z3 z4 z5 : Value} (h : RSt w base v ys O N g9 W) (ht : OwnB W base tv tb) (ha : OwnB W base av ab) (k : Blk W g 36 #[z0, z1, z2, z3, z4, z5]) (hg : g9 < g) : RuleOut w base v ys O N g9 #[a0, a1, a2, a3, a4, a5] #[b0, b1, b2, b3, b4, b5] tv av tb ab (.pointer (some ⟨W.heap.size, 0, none⟩)) (.pointer (some ⟨g, 0, none⟩)) (((((((W.setCell ⟨g, 0, none⟩ b0).setCell ⟨g, 1, none⟩ b1).setCell ⟨g, 2, none⟩ b2).setCell ⟨g, 3, none⟩ b3).setCell ⟨g, 4, none⟩ b4).setCell ⟨g, 5, none⟩ b5).alloc (.cells #[a0, a1, a2, a3, a4, a5] 122)) := by
  obtain ⟨k', ht'⟩ := six_blk (a0 := b0) (a1 := b1) (a2 := b2) (a3 := b3) (a4 := b4) (a5 := b5) k
  have hs := ht'.size
  generalize ((((((W.setCell ⟨g, 0, none⟩ b0).setCell ⟨g, 1, none⟩ b1).setCell ⟨g, 2, none⟩ b2).setCell ⟨g, 3, none⟩ b3).setCell ⟨g, 4, none⟩ b4).setCell ⟨g, 5, none⟩ b5) = W' at *
  refine ⟨W.heap.size, g, rfl, rfl, h.lt, hg, by rw [← hs]; exact Blk.new _ _ _, k'.alloc _, (ht.apart ht' k (by decide)).alloc _, (ha.apart ht' k (by decide)).alloc _, (h.touch ht' k (by decide) (by decide) hg).alloc _⟩
theorem RuleOut.f5 {g g' : Nat} {z0 z1 z2 z3 z4 z5 y0 y1 y2 y3 y4 y5 : Value} (h : RSt w base v ys O N g9 W) (ht : OwnB W base tv tb) (ha : OwnB W base av ab) (k : Blk W g 122 #[z0, z1, z2, z3, z4, z5]) (j : Blk W g' 36 #[y0, y1, y2, y3, y4, y5]) (hg : g9 < g) (hg' : g9 < g') : RuleOut w base v ys O N g9 #[a0, a1, a2, a3, a4, a5] #[b0, b1, b2, b3, b4, b5] tv av tb ab (.pointer (some ⟨g, 0, none⟩)) (.pointer (some ⟨g', 0, none⟩)) ((((((((((((W.setCell ⟨g, 0, none⟩ a0).setCell ⟨g, 1, none⟩ a1).setCell ⟨g, 2, none⟩ a2).setCell ⟨g, 3, none⟩ a3).setCell ⟨g, 4, none⟩ a4).setCell ⟨g, 5, none⟩ a5).setCell ⟨g', 0, none⟩ b0).setCell ⟨g', 1, none⟩ b1).setCell ⟨g', 2, none⟩ b2).setCell ⟨g', 3, none⟩ b3).setCell ⟨g', 4, none⟩ b4).setCell ⟨g', 5, none⟩ b5) := by
  obtain ⟨k1, ht1⟩ := six_blk (a0 := a0) (a1 := a1) (a2 := a2) (a3 := a3) (a4 := a4) (a5 := a5) k
  have hne : g' ≠ g := fun e => by subst e; unfold Blk at k j; rw [k] at j; injection j with j; injection j with _ j; exact absurd j (by decide)
  have j1 : Blk ((((((W.setCell ⟨g, 0, none⟩ a0).setCell ⟨g, 1, none⟩ a1).setCell ⟨g, 2, none⟩ a2).setCell ⟨g, 3, none⟩ a3).setCell ⟨g, 4, none⟩ a4).setCell ⟨g, 5, none⟩ a5) g' 36 #[y0, y1, y2, y3, y4, y5] := (ht1.block g' (by omega)).trans j
  generalize ((((((W.setCell ⟨g, 0, none⟩ a0).setCell ⟨g, 1, none⟩ a1).setCell ⟨g, 2, none⟩ a2).setCell ⟨g, 3, none⟩ a3).setCell ⟨g, 4, none⟩ a4).setCell ⟨g, 5, none⟩ a5) = W1 at *
  obtain ⟨j2, ht2⟩ := six_blk (a0 := b0) (a1 := b1) (a2 := b2) (a3 := b3) (a4 := b4) (a5 := b5) j1
  generalize ((((((W1.setCell ⟨g', 0, none⟩ b0).setCell ⟨g', 1, none⟩ b1).setCell ⟨g', 2, none⟩ b2).setCell ⟨g', 3, none⟩ b3).setCell ⟨g', 4, none⟩ b4).setCell ⟨g', 5, none⟩ b5) = W2 at *
  refine ⟨g, g', rfl, rfl, hg, hg', (ht2.block g (by omega)).trans k1, j2, (ht.apart ht1 k (by decide)).apart ht2 j1 (by decide), (ha.apart ht1 k (by decide)).apart ht2 j1 (by decide), (h.touch ht1 k (by decide) (by decide) hg).touch ht2 j1 (by decide) (by decide) hg'⟩
end

/-- The law of the rules. -/
theorem putD_same {s : List PairD} {k : ByteArray} {c : CellD} (h : hasD s k = some c) : putD s k (some c) = s := by
  obtain ⟨x, hx, hk, hc⟩ := hasD_some h
  obtain ⟨hl, e⟩ := List.getElem?_eq_some_iff.1 hx
  unfold putD
  rw [h]
  simp only [Option.isSome_some, if_true]
  have hxx : (⟨k, c⟩ : PairD) = s[pos s k] := by rw [e, ← hk, ← hc]
  rw [hxx, ← List.take_succ_eq_append_getElem hl, List.take_append_drop]
theorem stepD_rule {s : List PairD} {x : OpD} (hg : goodOp x = true) :
    stepD s x = if (ruleD (hasD s x.key) x).2.1 = 0 then (putD s x.key (ruleD (hasD s x.key) x).1, 0, (ruleD (hasD s x.key) x).2.2) else (s, (ruleD (hasD s x.key) x).2.1, (ruleD (hasD s x.key) x).2.2) := by
  unfold stepD ruleD
  rw [if_neg (by rw [hg]; exact fun h => Bool.noConfusion h)]
  by_cases h0 : x.act = 0
  · rw [if_neg (by omega), if_neg (by omega), if_pos h0]
    cases h : hasD s x.key with
    | none => rfl
    | some c => simp only [if_pos h0, if_true]; rw [putD_same h]
  · rw [if_neg h0]
    by_cases h1 : x.act = 1
    · rw [if_pos h1, if_pos h1]
      split <;> rfl
    · rw [if_neg h1, if_neg h1]
      by_cases h2 : x.act = 2
      · rw [if_pos h2, if_pos h2]
        cases hasD s x.key <;> rfl
      · rw [if_neg h2, if_neg h2]
        by_cases h3 : x.act = 3
        · rw [if_pos h3]
          cases hasD s x.key with
          | none => rfl
          | some c => simp only [if_neg h0, if_pos h3, if_true]
        · rw [if_neg h3]
          cases hasD s x.key with
          | none => rfl
          | some c =>
            simp only [if_neg h0, if_neg h3]
            by_cases hk : c.kind ≠ 2
            · rw [if_pos hk, if_pos hk]; rfl
            · rw [if_neg hk, if_neg hk]
              generalize (if x.act = 5 then c.val - x.n else c.val + x.n) = v
              by_cases hb : v < c.lo ∨ c.hi < v
              · rw [if_pos hb, if_pos hb]; rfl
              · rw [if_neg hb, if_neg hb]; rfl
end Go.Proofs.YteidmdnhkgcnoaaGreat
