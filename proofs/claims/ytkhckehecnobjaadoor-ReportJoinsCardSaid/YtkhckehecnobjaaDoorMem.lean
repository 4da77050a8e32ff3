/-
  WORDS FOR MEMORY, without the program: a slice that reads as a list of cells (nil let in), bytes in memory, a world that has grown, small laws on lists. Nothing here names the program. The first predicate follows the guide's page extra-words.
-/
import Derived.WalkKit
import Derived.WalkLawsBesides
import Derived.Lib.Hide
import Derived.Deep.AppendLies
import Derived.Deep.Draws
import Derived.Maps.AppendAt
import Derived.Deep.OwnRows
import Derived.Laws.Rows
namespace Go.Proofs.YtkhckehecnobjaaDoor
open Go.RowKit

theorem block_of_add (a : Addr) (n : Nat) : (a.add n).block = a.block := by unfold Addr.add; split <;> rfl
theorem add_of_add (a : Addr) (i j : Nat) : (a.add i).add j = a.add (i + j) := by
  unfold Addr.add
  by_cases hi : i = 0 <;> by_cases hj : j = 0 <;> simp [hi, hj, Nat.add_assoc]

theorem add_plain (b o n : Nat) : (⟨b, o, none⟩ : Addr).add n = ⟨b, o + n, none⟩ := by unfold Addr.add; split <;> simp_all
theorem hide {p : Prop} (h : p) : Hid p := h

/-- The slice value '.slice A n c' holds the cells xs ('size' each element) and lies below block B. -/
def Reads (w : World) (B size : Nat) (A : Option Addr) (n : Nat) (xs : List Value) : Prop :=
  xs.length = n * size ∧ (0 < n → ∃ ad, A = some ad ∧ ad.block < B ∧ ∀ j u, xs[j]? = some u → w.cell? (ad.add j) = some u)

section
variable {w w' : World} {B B' size n : Nat} {A : Option Addr} {xs : List Value}
theorem Reads.none_ : Reads w B size A 0 [] := ⟨by simp, fun h => absurd h (by omega)⟩
theorem Reads.keep (h : Reads w B size A n xs) (hk : ∀ p : Addr, p.block < B → w'.cell? p = w.cell? p) : Reads w' B size A n xs :=
  ⟨h.1, fun hn => by
    obtain ⟨ad, e, hb, hc⟩ := h.2 hn
    exact ⟨ad, e, hb, fun j u hu => (hk _ (by rw [block_of_add]; exact hb)).trans (hc j u hu)⟩⟩
theorem Reads.more (h : Reads w B size A n xs) (hB : B ≤ B') : Reads w B' size A n xs :=
  ⟨h.1, fun hn => by
    obtain ⟨ad, e, hb, hc⟩ := h.2 hn
    exact ⟨ad, e, by omega, hc⟩⟩
theorem Reads.below {C : Nat} (h : Reads w B size A n xs) (hb : Below C w w') (hC : B ≤ C) : Reads w' B size A n xs := h.keep fun _ hp => hb.cell (by omega)
/-- The address written out, where there is an element. -/
theorem Reads.plain (h : Reads w B size A n xs) (hn : 0 < n) (hs : 0 < size) : ∃ b o, A = some ⟨b, o, none⟩ ∧ b < B ∧ ∀ j u, xs[j]? = some u → w.cell? ⟨b, o + j, none⟩ = some u := by
  obtain ⟨⟨b, o, spot⟩, rfl, hb, hc⟩ := h.2 hn
  have hl : 0 < xs.length := by rw [h.1]; exact Nat.mul_pos hn hs
  have h0 := hc 0 _ (List.getElem?_eq_getElem hl)
  have hspot : spot = none := by simpa [Addr.add] using World.cell?_spot h0
  subst hspot
  exact ⟨b, o, rfl, hb, fun j u hu => by rw [← add_plain]; exact hc j u hu⟩
theorem Reads.drew (h : Reads w B size A n xs) : Reads w.drew B size A n xs := h
theorem Reads.drewN (h : Reads w B size A n xs) (k : Nat) : Reads (w.drewN k) B size A n xs := h
theorem Reads.alloc (h : Reads w B size A n xs) (hB : B ≤ w.heap.size) (o : Obj) : Reads (w.alloc o) B size A n xs := h.keep fun p hp => World.cell?_alloc_lt w o p (by omega)
theorem Reads.setCell (h : Reads w B size A n xs) {p : Addr} (hB : B ≤ p.block) (u : Value) : Reads (w.setCell p u) B size A n xs :=
  h.keep fun q hq => World.cell?_setCell_other w p q u (fun e => by subst e; omega)
theorem Reads.grown (h : Reads w B size A n xs) {row : Option Nat} (hg : w.grownBy w' row) (hB : B ≤ w.heap.size) (hr : ∀ g, row = some g → B ≤ g) : Reads w' B size A n xs :=
  h.keep fun p hp => World.cell?_of_block (hg.block p.block (by omega) (fun e => by have := hr _ e.symm; omega))
theorem Reads.cut (h : Reads w B size A n xs) {k cap : Nat} (hk : k ≤ n) (hc : n ≤ cap) :
    Reads w B size (if cap = k then A else A.map (·.add (k * size))) (n - k) (xs.drop (k * size)) := by
  refine ⟨by rw [List.length_drop, h.1, Nat.sub_mul], fun hn => ?_⟩
  obtain ⟨ad, rfl, hb, hcell⟩ := h.2 (by omega)
  rw [if_neg (by omega)]
  refine ⟨ad.add (k * size), rfl, by rw [block_of_add]; exact hb, fun j u hu => ?_⟩
  rw [add_of_add]
  exact hcell _ u (by rw [← hu, List.getElem?_drop])
theorem Reads.take (h : Reads w B size A n xs) {k : Nat} (hk : k ≤ n) : Reads w B size A k (xs.take (k * size)) := by
  refine ⟨by rw [List.length_take, h.1]; exact Nat.min_eq_left (Nat.mul_le_mul_right _ hk), fun hn => ?_⟩
  obtain ⟨ad, rfl, hb, hcell⟩ := h.2 (by omega)
  refine ⟨ad, rfl, hb, fun j u hu => hcell j u ?_⟩
  rw [List.getElem?_take] at hu
  split at hu
  · exact hu
  · cases hu
theorem Reads.of_own {base : Nat} {e : TypeId} {c : Nat} (h : w.ownsRow base e size (.slice A n c) n xs) : Reads w w.heap.size size A n xs := by
  refine ⟨h.1, fun hn => ?_⟩
  obtain ⟨g, cap, hv, _, hlt⟩ := h.form hn
  have hA : A = some ⟨g, 0, none⟩ := by injection hv
  subst hA
  exact ⟨_, rfl, hlt, h.cells (g := g) rfl⟩
end

/-- One byte as a cell. -/
def byteV (b : UInt8) : Value := .int .u8 (b.toNat : Int)

/-- The value v is a slice of the bytes bs, below block B. -/
def BytesAt (w : World) (B : Nat) (v : Value) (bs : List UInt8) : Prop :=
  ∃ (A : Option Addr) (n c : Nat), v = .slice A n c ∧ n ≤ c ∧ c ≤ maxLen ∧ n = bs.length ∧ (A = none → c = 0) ∧ Reads w B 1 A n (bs.map byteV)
section
variable {w w' : World} {B B' C : Nat} {v : Value} {bs : List UInt8}
theorem BytesAt.below (h : BytesAt w B v bs) (hb : Below C w w') (hC : B ≤ C) : BytesAt w' B v bs := by
  obtain ⟨A, n, c, h1, h2, h3, h4, h5, h6⟩ := h
  exact ⟨A, n, c, h1, h2, h3, h4, h5, h6.below hb hC⟩
theorem BytesAt.more (h : BytesAt w B v bs) (hB : B ≤ B') : BytesAt w B' v bs := by
  obtain ⟨A, n, c, h1, h2, h3, h4, h5, h6⟩ := h
  exact ⟨A, n, c, h1, h2, h3, h4, h5, h6.more hB⟩
end

theorem below_drewN {B : Nat} {a w : World} (h : Below B a w) (n : Nat) : Below B a (w.drewN n) := ⟨h.os, h.tape, h.output, h.size, h.block⟩
theorem below_of_drewN {B : Nat} (w : World) (n : Nat) : Below B w (w.drewN n) := below_drewN (Below.refl _ _) n

theorem bcell {B : Nat} {W w1 : World} (hb : Below B W w1) : (∀ b o, b < B → w1.cell? ⟨b, o, none⟩ = W.cell? ⟨b, o, none⟩) ∧ (∀ b o, b < B → w1.frozen? ⟨b, o, none⟩ = W.frozen? ⟨b, o, none⟩) :=
  ⟨fun b o h => hb.cell (p := ⟨b, o, none⟩) h, fun b o h => hb.frozen (p := ⟨b, o, none⟩) h⟩

theorem ret_int {k : IntKind} {a b : Int} (h : a = b) : Ending.returned (.int k a) = .returned (.int k b) := by rw [h]
theorem ret_bool {a b : Bool} (h : a = b) : Ending.returned (.bool a) = .returned (.bool b) := by rw [h]

/-- Block g is just the cells cs of element type t, none frozen. -/
def Blk (w : World) (g : Nat) (t : TypeId) (cs : Array Value) : Prop := w.heap[g]? = some (.cells cs t (0, 0))
section
variable {w w' : World} {g : Nat} {t : TypeId} {cs : Array Value}
theorem Blk.lt (h : Blk w g t cs) : g < w.heap.size := by
  rcases Nat.lt_or_ge g w.heap.size with hlt | hge
  · exact hlt
  · unfold Blk at h; rw [Array.getElem?_eq_none hge] at h; cases h
theorem Blk.cell (h : Blk w g t cs) (i : Nat) : w.cell? ⟨g, i, none⟩ = cs[i]? := cell_of_row w g i cs t (0, 0) h
theorem Blk.frozen (h : Blk w g t cs) (i : Nat) : w.frozen? ⟨g, i, none⟩ = false := by
  unfold Blk at h
  simp [World.frozen?, h]
theorem Blk.new (w : World) (t : TypeId) (cs : Array Value) : Blk (w.alloc (.cells cs t)) w.heap.size t cs := heap_alloc_new w _
theorem Blk.drew (h : Blk w g t cs) : Blk w.drew g t cs := h
theorem Blk.drewN (h : Blk w g t cs) (n : Nat) : Blk (w.drewN n) g t cs := h
theorem Blk.alloc (h : Blk w g t cs) (o : Obj) : Blk (w.alloc o) g t cs := (Below.heap_alloc w o g h.lt).trans h
theorem Blk.set_ (h : Blk w g t cs) (i : Nat) (u : Value) : Blk (w.setCell ⟨g, i, none⟩ u) g t (cs.setIfInBounds i u) := by
  unfold Blk at h ⊢
  simp [World.setCell, Array.getElem?_modify, h]
theorem Blk.far (h : Blk w g t cs) {p : Addr} (hp : g ≠ p.block) (u : Value) : Blk (w.setCell p u) g t cs := (Below.heap_setCell w p u g hp).trans h
theorem Blk.below {B : Nat} (h : Blk w g t cs) (hb : Below B w w') (hg : g < B) : Blk w' g t cs := (hb.block g hg).trans h
theorem Blk.via (hb : Below w.heap.size w w') (h : Blk w g t cs) : Blk w' g t cs := h.below hb h.lt
theorem Blk.grown {row : Option Nat} (h : Blk w g t cs) (hb : w.grownBy w' row) (hg : some g ≠ row) : Blk w' g t cs := (hb.block g h.lt hg).trans h
theorem Blk.ne_ {g' : Nat} {t' : TypeId} {cs' : Array Value} (h : Blk w g t cs) (h' : Blk w g' t' cs') (hne : t ≠ t') : g ≠ g' := by
  rintro rfl
  unfold Blk at h h'
  rw [h] at h'
  injection h' with h'
  injection h' with _ ht
  exact hne ht
end
theorem below_via {B : Nat} {w W w' : World} (h0 : Below B w W) (hb : Below W.heap.size W w') (hB : B ≤ W.heap.size) : Below B w w' := h0.trans (hb.mono hB)
theorem below2 (w : World) (o1 o2 : Obj) : Below w.heap.size w ((w.alloc o1).alloc o2) := ((Below.refl _ _).alloc (Nat.le_refl _) _).alloc (by simp) _

theorem own_slice {w : World} {base : Nat} {e : TypeId} {size : Nat} {v : Value} {n : Nat} {xs : List Value} (h : w.ownsRow base e size v n xs) : ∃ (A : Option Addr) (c : Nat), v = .slice A n c ∧ n ≤ c ∧ c ≤ maxLen ∧ (A = none → c = 0) ∧ Reads w w.heap.size size A n xs ∧ (∀ ad, A = some ad → base ≤ ad.block) := by
  have h0 := h
  obtain ⟨h1, ⟨rfl, rfl⟩ | ⟨g, cap, cur, rfl, hg, hh, hnc, hcm, hs, ht⟩⟩ := h
  · exact ⟨none, 0, rfl, Nat.le_refl _, Nat.zero_le _, fun _ => rfl, Reads.of_own h0, fun _ h => by cases h⟩
  · exact ⟨_, cap, rfl, hnc, hcm, fun h => (by cases h), Reads.of_own h0, fun ad h => by cases h; exact hg⟩
theorem BytesAt.of_own {w : World} {base : Nat} {e : TypeId} {v : Value} {n : Nat} {bs : List UInt8} (h : w.ownsRow base e 1 v n (bs.map byteV)) : BytesAt w w.heap.size v bs := by
  have hl : n = bs.length := by have := h.1; simpa using this.symm
  obtain ⟨A, c, rfl, hnc, hcm, hnil, hr, _⟩ := own_slice h
  exact ⟨A, n, c, rfl, hnc, hcm, hl, hnil, hr⟩

/-- A world of which one ¦ two blocks have just been laid, under a name of its own. -/
theorem gen1 {w : World} {cs : Array Value} {t : TypeId} {R : World → Prop} (h : ∀ W, Blk W w.heap.size t cs → Below w.heap.size w W → w.heap.size + 1 ≤ W.heap.size → R W) : R (w.alloc (.cells cs t)) :=
  h _ (Blk.new _ _ _) ((Below.refl _ _).alloc (Nat.le_refl _) _) (by simp)
theorem gen2 {w : World} {cs cs' : Array Value} {t t' : TypeId} {R : World → Prop} (h : ∀ W, Blk W w.heap.size t cs → Blk W (w.heap.size + 1) t' cs' → Below w.heap.size w W → w.heap.size + 2 ≤ W.heap.size → R W) : R ((w.alloc (.cells cs t)).alloc (.cells cs' t')) :=
  h _ ((Blk.new _ _ _).alloc _) (by simpa using Blk.new (w.alloc (.cells cs t)) t' cs') (below2 _ _ _) (by simp)
/-- A world behind a store into a block that is known. -/
theorem genS {w : World} {g i : Nat} {t : TypeId} {cs : Array Value} {u : Value} {R : World → Prop} (k : Blk w g t cs) (h : ∀ W, Blk W g t (cs.setIfInBounds i u) → (∀ B, B ≤ g → Below B w W) → W.heap.size = w.heap.size → (∀ q, q ≠ g → W.heap[q]? = w.heap[q]?) → R W) : R (w.setCell ⟨g, i, none⟩ u) :=
  h _ (k.set_ i u) (fun B hB => (Below.refl B w).setCell (p := ⟨g, i, none⟩) hB u) (by simp [World.setCell]) (fun q hq => Below.heap_setCell w ⟨g, i, none⟩ u q hq)

/-- A slice whose memory lies from block L on. -/
def Fresh (L : Nat) (v : Value) : Prop := ∀ ad n c, v = .slice (some ad) n c → L ≤ ad.block
theorem Fresh.mono {L L' : Nat} {v : Value} (h : Fresh L v) (hL : L' ≤ L) : Fresh L' v := fun ad n c e => Nat.le_trans hL (h ad n c e)
theorem Fresh.of_own {w : World} {base : Nat} {e : TypeId} {size : Nat} {v : Value} {n : Nat} {xs : List Value} (h : w.ownsRow base e size v n xs) : Fresh base v := by
  obtain ⟨A, c, rfl, _, _, _, _, hf⟩ := own_slice h
  intro ad n' c' e
  injection e with e
  exact hf ad e
theorem BytesAt.keepIn {w w' : World} {L B : Nat} {v : Value} {bs : List UInt8} (h : BytesAt w B v bs) (hf : Fresh L v) (hk : ∀ q, L ≤ q → q < B → w'.heap[q]? = w.heap[q]?) : BytesAt w' B v bs := by
  obtain ⟨A, n, c, rfl, h2, h3, h4, h5, h6, h7⟩ := h
  refine ⟨A, n, c, rfl, h2, h3, h4, h5, h6, fun hn => ?_⟩
  obtain ⟨ad, rfl, hb, hc⟩ := h7 hn
  exact ⟨ad, rfl, hb, fun j u hu => (World.cell?_of_block (w := w) (by rw [block_of_add]; exact hk _ (hf ad n c rfl) hb)).trans (hc j u hu)⟩

/-- w' is w but for the blocks from L up to H. -/
structure Touch (L H : Nat) (w w' : World) : Prop where
  os : w'.os = w.os
  tape : w'.tape = w.tape
  output : w'.output = w.output
  size : w'.heap.size = w.heap.size
  block : ∀ k, (k < L ∨ H ≤ k) → w'.heap[k]? = w.heap[k]?
theorem Touch.refl {L H : Nat} (w : World) : Touch L H w w := ⟨rfl, rfl, rfl, rfl, fun _ _ => rfl⟩
theorem Touch.set {L H : Nat} {a w : World} (h : Touch L H a w) {p : Addr} (hp : L ≤ p.block ∧ p.block < H) (u : Value) : Touch L H a (w.setCell p u) :=
  ⟨h.os, h.tape, h.output, by simpa [World.setCell] using h.size, fun k hk => (Below.heap_setCell w p u k (by omega)).trans (h.block k hk)⟩
theorem Touch.drew {L H : Nat} {a w : World} (h : Touch L H a w) : Touch L H a w.drew := ⟨h.os, h.tape, h.output, h.size, h.block⟩
theorem Touch.below {L H B : Nat} {a w w' : World} (h : Touch L H w w') (hb : Below B a w) (hB : B ≤ L) : Below B a w' :=
  ⟨h.os.trans hb.os, h.tape.trans hb.tape, h.output.trans hb.output, by have := hb.size; have := h.size; omega, fun k hk => (h.block k (by omega)).trans (hb.block k hk)⟩
theorem Touch.blk {L H g : Nat} {w w' : World} {t : TypeId} {cs : Array Value} (h : Touch L H w w') (k : Blk w g t cs) (hg : g < L ∨ H ≤ g) : Blk w' g t cs := (h.block g hg).trans k

theorem Reads.of_blk {w : World} {g n size : Nat} {t : TypeId} {cs : Array Value} (k : Blk w g t cs) (hs : cs.size = n * size) : Reads w (g + 1) size (some ⟨g, 0, none⟩) n cs.toList :=
  ⟨by simpa using hs, fun _ => ⟨_, rfl, Nat.lt_succ_self g, fun j u hu => by rw [add_plain, Nat.zero_add, k.cell]; simpa using hu⟩⟩

theorem run_make_rowN {P : Program} (t e : TypeId) (i : TypeInfo) (z : Value) (ht : P.underlying t = some (.slice e)) (hi : P.info? e = some i) (hz : i.zero = some z)
    (kl kc : IntKind) (n c : Nat) (hnc : n ≤ c) (hbytes : i.bytes * c ≤ 281474976710656) (h63 : c ≤ 9223372036854775807) (w : World) :
    (Instr.makeSlice t (.int kl (n : Int)) (.int kc (c : Int))).run P w = .ok (.slice (some ⟨w.heap.size, 0, none⟩) n c) (w.alloc (.cells (madeCells z.cells (c * i.size)) e)) := by
  have hb : (i.bytes : Int) * (c : Int) ≤ 281474976710656 := by
    have h : ((i.bytes * c : Nat) : Int) ≤ 281474976710656 := by omega
    rwa [Int.natCast_mul] at h
  have hr := run_make (P := P) w t e i z ht hi hz kl kc n c (by omega) (by omega) hb (by omega)
  simp only [Int.toNat_natCast] at hr
  exact hr

theorem gen3 {w : World} {cs cs' cs'' : Array Value} {t t' t'' : TypeId} {R : World → Prop} (h : ∀ W, Blk W (w.heap.size + 1) t' cs' → Blk W (w.heap.size + 2) t'' cs'' → Below w.heap.size w W → w.heap.size + 3 ≤ W.heap.size → R W) : R (((w.alloc (.cells cs t)).alloc (.cells cs' t')).alloc (.cells cs'' t'')) :=
  h _ ((show Blk ((w.alloc (.cells cs t)).alloc (.cells cs' t')) (w.heap.size + 1) t' cs' by simpa using Blk.new (w.alloc (.cells cs t)) t' cs').alloc _) (by simpa using Blk.new ((w.alloc (.cells cs t)).alloc (.cells cs' t')) t'' cs'') ((below2 _ _ _).alloc (by simp; omega) _) (by simp)
end Go.Proofs.YtkhckehecnobjaaDoor
