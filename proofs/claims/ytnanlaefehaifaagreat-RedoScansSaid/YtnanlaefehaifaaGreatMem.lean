/-
  WORDS FOR MEMORY, without the program: a slice that reads as a list of cells (nil let in), bytes in memory, a world that has grown, small laws on lists. Nothing here names the program. The first predicate follows the guide's page extra-words.
  HOW api.Op, api.Cell, api.Answer, api.Did LIE IN MEMORY, and what they are as data. No program.
  THE ANSWER OF serial.Order, ELEMENT BY ELEMENT: thirteen cells are stored at a time.
  EVENTS AS DATA: how []api.Event lies in memory. No program.
  THE ABSTRACT MACHINE, plainly: keys, cells, states (P9), and how pairs lie in memory. No program.
  THE ABSTRACT MACHINE's STEP, plainly (P9.2), and that it keeps states. No program.
  THE TABLES OF VALUES AND THE ABSTRACT MACHINE: what Find and Put give is hasD and putD. No program.
-/
import Derived.WalkKit
import Derived.WalkLawsBesides
import Derived.Lib.Hide
import Derived.Deep.AppendLies
import Derived.Deep.Draws
import Derived.Maps.AppendAt
import Derived.Deep.OwnRows
import Derived.Laws.Rows
namespace Go.Proofs.YtnanlaefehaifaaGreat
open Go.RowKit

theorem block_of_add (a : Addr) (n : Nat) : (a.add n).block = a.block := by unfold Addr.add; split <;> rfl
theorem add_of_add (a : Addr) (i j : Nat) : (a.add i).add j = a.add (i + j) := by
  unfold Addr.add
  by_cases hi : i = 0 <;> by_cases hj : j = 0 <;> simp [hi, hj, Nat.add_assoc]

theorem add_plain (b o n : Nat) : (⟨b, o, none⟩ : Addr).add n = ⟨b, o + n, none⟩ := by unfold Addr.add; split <;> simp_all
theorem hide {p : Prop} (h : p) : Hid p := h

/-- The slice value '.slice A n c' holds the cells xs ('size' each element) and lies below block B. -/
def Reads (w : World) (B size : Nat) (A : Option Addr) (n : Nat) (xs : List Value) : Prop :=
  xs.length = n * size ∧ (0 < n → ∃ ad, A = some ad ∧ ad.block < B ∧ ∀ j u, xs[j]? = some u → w.cell? (ad.add j) = some u)

section
variable {w w' : World} {B B' size n : Nat} {A : Option Addr} {xs : List Value}
theorem Reads.none_ : Reads w B size A 0 [] := ⟨by simp, fun h => absurd h (by omega)⟩
theorem Reads.keep (h : Reads w B size A n xs) (hk : ∀ p : Addr, p.block < B → w'.cell? p = w.cell? p) : Reads w' B size A n xs :=
  ⟨h.1, fun hn => by
    obtain ⟨ad, e, hb, hc⟩ := h.2 hn
    exact ⟨ad, e, hb, fun j u hu => (hk _ (by rw [block_of_add]; exact hb)).trans (hc j u hu)⟩⟩
theorem Reads.more (h : Reads w B size A n xs) (hB : B ≤ B') : Reads w B' size A n xs :=
  ⟨h.1, fun hn => by
    obtain ⟨ad, e, hb, hc⟩ := h.2 hn
    exact ⟨ad, e, by omega, hc⟩⟩
theorem Reads.below {C : Nat} (h : Reads w B size A n xs) (hb : Below C w w') (hC : B ≤ C) : Reads w' B size A n xs := h.keep fun _ hp => hb.cell (by omega)
/-- The address written out, where there is an element. -/
theorem Reads.plain (h : Reads w B size A n xs) (hn : 0 < n) (hs : 0 < size) : ∃ b o, A = some ⟨b, o, none⟩ ∧ b < B ∧ ∀ j u, xs[j]? = some u → w.cell? ⟨b, o + j, none⟩ = some u := by
  obtain ⟨⟨b, o, spot⟩, rfl, hb, hc⟩ := h.2 hn
  have hl : 0 < xs.length := by rw [h.1]; exact Nat.mul_pos hn hs
  have h0 := hc 0 _ (List.getElem?_eq_getElem hl)
  have hspot : spot = none := by simpa [Addr.add] using World.cell?_spot h0
  subst hspot
  exact ⟨b, o, rfl, hb, fun j u hu => by rw [← add_plain]; exact hc j u hu⟩
theorem Reads.drew (h : Reads w B size A n xs) : Reads w.drew B size A n xs := h
theorem Reads.drewN (h : Reads w B size A n xs) (k : Nat) : Reads (w.drewN k) B size A n xs := h
theorem Reads.alloc (h : Reads w B size A n xs) (hB : B ≤ w.heap.size) (o : Obj) : Reads (w.alloc o) B size A n xs := h.keep fun p hp => World.cell?_alloc_lt w o p (by omega)
theorem Reads.setCell (h : Reads w B size A n xs) {p : Addr} (hB : B ≤ p.block) (u : Value) : Reads (w.setCell p u) B size A n xs :=
  h.keep fun q hq => World.cell?_setCell_other w p q u (fun e => by subst e; omega)
theorem Reads.grown (h : Reads w B size A n xs) {row : Option Nat} (hg : w.grownBy w' row) (hB : B ≤ w.heap.size) (hr : ∀ g, row = some g → B ≤ g) : Reads w' B size A n xs :=
  h.keep fun p hp => World.cell?_of_block (hg.block p.block (by omega) (fun e => by have := hr _ e.symm; omega))
theorem Reads.cut (h : Reads w B size A n xs) {k cap : Nat} (hk : k ≤ n) (hc : n ≤ cap) :
    Reads w B size (if cap = k then A else A.map (·.add (k * size))) (n - k) (xs.drop (k * size)) := by
  refine ⟨by rw [List.length_drop, h.1, Nat.sub_mul], fun hn => ?_⟩
  obtain ⟨ad, rfl, hb, hcell⟩ := h.2 (by omega)
  rw [if_neg (by omega)]
  refine ⟨ad.add (k * size), rfl, by rw [block_of_add]; exact hb, fun j u hu => ?_⟩
  rw [add_of_add]
  exact hcell _ u (by rw [← hu, List.getElem?_drop])
theorem Reads.take (h : Reads w B size A n xs) {k : Nat} (hk : k ≤ n) : Reads w B size A k (xs.take (k * size)) := by
  refine ⟨by rw [List.length_take, h.1]; exact Nat.min_eq_left (Nat.mul_le_mul_right _ hk), fun hn => ?_⟩
  obtain ⟨ad, rfl, hb, hcell⟩ := h.2 (by omega)
  refine ⟨ad, rfl, hb, fun j u hu => hcell j u ?_⟩
  rw [List.getElem?_take] at hu
  split at hu
  · exact hu
  · cases hu
theorem Reads.of_own {base : Nat} {e : TypeId} {c : Nat} (h : w.ownsRow base e size (.slice A n c) n xs) : Reads w w.heap.size size A n xs := by
  refine ⟨h.1, fun hn => ?_⟩
  obtain ⟨g, cap, hv, _, hlt⟩ := h.form hn
  have hA : A = some ⟨g, 0, none⟩ := by injection hv
  subst hA
  exact ⟨_, rfl, hlt, h.cells (g := g) rfl⟩
end

/-- One byte as a cell. -/
def byteV (b : UInt8) : Value := .int .u8 (b.toNat : Int)

/-- The value v is a slice of the bytes bs, below block B. -/
def BytesAt (w : World) (B : Nat) (v : Value) (bs : List UInt8) : Prop :=
  ∃ (A : Option Addr) (n c : Nat), v = .slice A n c ∧ n ≤ c ∧ c ≤ maxLen ∧ n = bs.length ∧ (A = none → c = 0) ∧ Reads w B 1 A n (bs.map byteV)
section
variable {w w' : World} {B B' C : Nat} {v : Value} {bs : List UInt8}
theorem BytesAt.below (h : BytesAt w B v bs) (hb : Below C w w') (hC : B ≤ C) : BytesAt w' B v bs := by
  obtain ⟨A, n, c, h1, h2, h3, h4, h5, h6⟩ := h
  exact ⟨A, n, c, h1, h2, h3, h4, h5, h6.below hb hC⟩
theorem BytesAt.more (h : BytesAt w B v bs) (hB : B ≤ B') : BytesAt w B' v bs := by
  obtain ⟨A, n, c, h1, h2, h3, h4, h5, h6⟩ := h
  exact ⟨A, n, c, h1, h2, h3, h4, h5, h6.more hB⟩
end

theorem below_drewN {B : Nat} {a w : World} (h : Below B a w) (n : Nat) : Below B a (w.drewN n) := ⟨h.os, h.tape, h.output, h.size, h.block⟩
theorem below_of_drewN {B : Nat} (w : World) (n : Nat) : Below B w (w.drewN n) := below_drewN (Below.refl _ _) n

theorem bcell {B : Nat} {W w1 : World} (hb : Below B W w1) : (∀ b o, b < B → w1.cell? ⟨b, o, none⟩ = W.cell? ⟨b, o, none⟩) ∧ (∀ b o, b < B → w1.frozen? ⟨b, o, none⟩ = W.frozen? ⟨b, o, none⟩) :=
  ⟨fun b o h => hb.cell (p := ⟨b, o, none⟩) h, fun b o h => hb.frozen (p := ⟨b, o, none⟩) h⟩

theorem ret_int {k : IntKind} {a b : Int} (h : a = b) : Ending.returned (.int k a) = .returned (.int k b) := by rw [h]
theorem ret_bool {a b : Bool} (h : a = b) : Ending.returned (.bool a) = .returned (.bool b) := by rw [h]

/-- Block g is just the cells cs of element type t, none frozen. -/
def Blk (w : World) (g : Nat) (t : TypeId) (cs : Array Value) : Prop := w.heap[g]? = some (.cells cs t (0, 0))
section
variable {w w' : World} {g : Nat} {t : TypeId} {cs : Array Value}
theorem Blk.lt (h : Blk w g t cs) : g < w.heap.size := by
  rcases Nat.lt_or_ge g w.heap.size with hlt | hge
  · exact hlt
  · unfold Blk at h; rw [Array.getElem?_eq_none hge] at h; cases h
theorem Blk.cell (h : Blk w g t cs) (i : Nat) : w.cell? ⟨g, i, none⟩ = cs[i]? := cell_of_row w g i cs t (0, 0) h
theorem Blk.frozen (h : Blk w g t cs) (i : Nat) : w.frozen? ⟨g, i, none⟩ = false := by
  unfold Blk at h
  simp [World.frozen?, h]
theorem Blk.new (w : World) (t : TypeId) (cs : Array Value) : Blk (w.alloc (.cells cs t)) w.heap.size t cs := heap_alloc_new w _
theorem Blk.drew (h : Blk w g t cs) : Blk w.drew g t cs := h
theorem Blk.drewN (h : Blk w g t cs) (n : Nat) : Blk (w.drewN n) g t cs := h
theorem Blk.alloc (h : Blk w g t cs) (o : Obj) : Blk (w.alloc o) g t cs := (Below.heap_alloc w o g h.lt).trans h
theorem Blk.set_ (h : Blk w g t cs) (i : Nat) (u : Value) : Blk (w.setCell ⟨g, i, none⟩ u) g t (cs.setIfInBounds i u) := by
  unfold Blk at h ⊢
  simp [World.setCell, Array.getElem?_modify, h]
theorem Blk.far (h : Blk w g t cs) {p : Addr} (hp : g ≠ p.block) (u : Value) : Blk (w.setCell p u) g t cs := (Below.heap_setCell w p u g hp).trans h
theorem Blk.below {B : Nat} (h : Blk w g t cs) (hb : Below B w w') (hg : g < B) : Blk w' g t cs := (hb.block g hg).trans h
theorem Blk.via (hb : Below w.heap.size w w') (h : Blk w g t cs) : Blk w' g t cs := h.below hb h.lt
theorem Blk.grown {row : Option Nat} (h : Blk w g t cs) (hb : w.grownBy w' row) (hg : some g ≠ row) : Blk w' g t cs := (hb.block g h.lt hg).trans h
theorem Blk.ne_ {g' : Nat} {t' : TypeId} {cs' : Array Value} (h : Blk w g t cs) (h' : Blk w g' t' cs') (hne : t ≠ t') : g ≠ g' := by
  rintro rfl
  unfold Blk at h h'
  rw [h] at h'
  injection h' with h'
  injection h' with _ ht
  exact hne ht
end
theorem below_via {B : Nat} {w W w' : World} (h0 : Below B w W) (hb : Below W.heap.size W w') (hB : B ≤ W.heap.size) : Below B w w' := h0.trans (hb.mono hB)
theorem below2 (w : World) (o1 o2 : Obj) : Below w.heap.size w ((w.alloc o1).alloc o2) := ((Below.refl _ _).alloc (Nat.le_refl _) _).alloc (by simp) _

theorem own_slice {w : World} {base : Nat} {e : TypeId} {size : Nat} {v : Value} {n : Nat} {xs : List Value} (h : w.ownsRow base e size v n xs) : ∃ (A : Option Addr) (c : Nat), v = .slice A n c ∧ n ≤ c ∧ c ≤ maxLen ∧ (A = none → c = 0) ∧ Reads w w.heap.size size A n xs ∧ (∀ ad, A = some ad → base ≤ ad.block) := by
  have h0 := h
  obtain ⟨h1, ⟨rfl, rfl⟩ | ⟨g, cap, cur, rfl, hg, hh, hnc, hcm, hs, ht⟩⟩ := h
  · exact ⟨none, 0, rfl, Nat.le_refl _, Nat.zero_le _, fun _ => rfl, Reads.of_own h0, fun _ h => by cases h⟩
  · exact ⟨_, cap, rfl, hnc, hcm, fun h => (by cases h), Reads.of_own h0, fun ad h => by cases h; exact hg⟩
theorem BytesAt.of_own {w : World} {base : Nat} {e : TypeId} {v : Value} {n : Nat} {bs : List UInt8} (h : w.ownsRow base e 1 v n (bs.map byteV)) : BytesAt w w.heap.size v bs := by
  have hl : n = bs.length := by have := h.1; simpa using this.symm
  obtain ⟨A, c, rfl, hnc, hcm, hnil, hr, _⟩ := own_slice h
  exact ⟨A, n, c, rfl, hnc, hcm, hl, hnil, hr⟩

/-- A world of which one ¦ two blocks have just been laid, under a name of its own. -/
theorem gen1 {w : World} {cs : Array Value} {t : TypeId} {R : World → Prop} (h : ∀ W, Blk W w.heap.size t cs → Below w.heap.size w W → w.heap.size + 1 ≤ W.heap.size → R W) : R (w.alloc (.cells cs t)) :=
  h _ (Blk.new _ _ _) ((Below.refl _ _).alloc (Nat.le_refl _) _) (by simp)
theorem gen2 {w : World} {cs cs' : Array Value} {t t' : TypeId} {R : World → Prop} (h : ∀ W, Blk W w.heap.size t cs → Blk W (w.heap.size + 1) t' cs' → Below w.heap.size w W → w.heap.size + 2 ≤ W.heap.size → R W) : R ((w.alloc (.cells cs t)).alloc (.cells cs' t')) :=
  h _ ((Blk.new _ _ _).alloc _) (by simpa using Blk.new (w.alloc (.cells cs t)) t' cs') (below2 _ _ _) (by simp)
/-- A world behind a store into a block that is known. -/
theorem genS {w : World} {g i : Nat} {t : TypeId} {cs : Array Value} {u : Value} {R : World → Prop} (k : Blk w g t cs) (h : ∀ W, Blk W g t (cs.setIfInBounds i u) → (∀ B, B ≤ g → Below B w W) → W.heap.size = w.heap.size → (∀ q, q ≠ g → W.heap[q]? = w.heap[q]?) → R W) : R (w.setCell ⟨g, i, none⟩ u) :=
  h _ (k.set_ i u) (fun B hB => (Below.refl B w).setCell (p := ⟨g, i, none⟩) hB u) (by simp [World.setCell]) (fun q hq => Below.heap_setCell w ⟨g, i, none⟩ u q hq)

/-- A slice whose memory lies from block L on. -/
def Fresh (L : Nat) (v : Value) : Prop := ∀ ad n c, v = .slice (some ad) n c → L ≤ ad.block
theorem Fresh.mono {L L' : Nat} {v : Value} (h : Fresh L v) (hL : L' ≤ L) : Fresh L' v := fun ad n c e => Nat.le_trans hL (h ad n c e)
theorem Fresh.of_own {w : World} {base : Nat} {e : TypeId} {size : Nat} {v : Value} {n : Nat} {xs : List Value} (h : w.ownsRow base e size v n xs) : Fresh base v := by
  obtain ⟨A, c, rfl, _, _, _, _, hf⟩ := own_slice h
  intro ad n' c' e
  injection e with e
  exact hf ad e
theorem BytesAt.keepIn {w w' : World} {L B : Nat} {v : Value} {bs : List UInt8} (h : BytesAt w B v bs) (hf : Fresh L v) (hk : ∀ q, L ≤ q → q < B → w'.heap[q]? = w.heap[q]?) : BytesAt w' B v bs := by
  obtain ⟨A, n, c, rfl, h2, h3, h4, h5, h6, h7⟩ := h
  refine ⟨A, n, c, rfl, h2, h3, h4, h5, h6, fun hn => ?_⟩
  obtain ⟨ad, rfl, hb, hc⟩ := h7 hn
  exact ⟨ad, rfl, hb, fun j u hu => (World.cell?_of_block (w := w) (by rw [block_of_add]; exact hk _ (hf ad n c rfl) hb)).trans (hc j u hu)⟩

/-- w' is w but for the blocks from L up to H. -/
structure Touch (L H : Nat) (w w' : World) : Prop where
  os : w'.os = w.os
  tape : w'.tape = w.tape
  output : w'.output = w.output
  size : w'.heap.size = w.heap.size
  block : ∀ k, (k < L ∨ H ≤ k) → w'.heap[k]? = w.heap[k]?
theorem Touch.refl {L H : Nat} (w : World) : Touch L H w w := ⟨rfl, rfl, rfl, rfl, fun _ _ => rfl⟩
theorem Touch.set {L H : Nat} {a w : World} (h : Touch L H a w) {p : Addr} (hp : L ≤ p.block ∧ p.block < H) (u : Value) : Touch L H a (w.setCell p u) :=
  ⟨h.os, h.tape, h.output, by simpa [World.setCell] using h.size, fun k hk => (Below.heap_setCell w p u k (by omega)).trans (h.block k hk)⟩
theorem Touch.drew {L H : Nat} {a w : World} (h : Touch L H a w) : Touch L H a w.drew := ⟨h.os, h.tape, h.output, h.size, h.block⟩
theorem Touch.below {L H B : Nat} {a w w' : World} (h : Touch L H w w') (hb : Below B a w) (hB : B ≤ L) : Below B a w' :=
  ⟨h.os.trans hb.os, h.tape.trans hb.tape, h.output.trans hb.output, by have := hb.size; have := h.size; omega, fun k hk => (h.block k (by omega)).trans (hb.block k hk)⟩
theorem Touch.blk {L H g : Nat} {w w' : World} {t : TypeId} {cs : Array Value} (h : Touch L H w w') (k : Blk w g t cs) (hg : g < L ∨ H ≤ g) : Blk w' g t cs := (h.block g hg).trans k

theorem Reads.of_blk {w : World} {g n size : Nat} {t : TypeId} {cs : Array Value} (k : Blk w g t cs) (hs : cs.size = n * size) : Reads w (g + 1) size (some ⟨g, 0, none⟩) n cs.toList :=
  ⟨by simpa using hs, fun _ => ⟨_, rfl, Nat.lt_succ_self g, fun j u hu => by rw [add_plain, Nat.zero_add, k.cell]; simpa using hu⟩⟩

theorem run_make_rowN {P : Program} (t e : TypeId) (i : TypeInfo) (z : Value) (ht : P.underlying t = some (.slice e)) (hi : P.info? e = some i) (hz : i.zero = some z)
    (kl kc : IntKind) (n c : Nat) (hnc : n ≤ c) (hbytes : i.bytes * c ≤ 281474976710656) (h63 : c ≤ 9223372036854775807) (w : World) :
    (Instr.makeSlice t (.int kl (n : Int)) (.int kc (c : Int))).run P w = .ok (.slice (some ⟨w.heap.size, 0, none⟩) n c) (w.alloc (.cells (madeCells z.cells (c * i.size)) e)) := by
  have hb : (i.bytes : Int) * (c : Int) ≤ 281474976710656 := by
    have h : ((i.bytes * c : Nat) : Int) ≤ 281474976710656 := by omega
    rwa [Int.natCast_mul] at h
  have hr := run_make (P := P) w t e i z ht hi hz kl kc n c (by omega) (by omega) hb (by omega)
  simp only [Int.toNat_natCast] at hr
  exact hr

theorem gen3 {w : World} {cs cs' cs'' : Array Value} {t t' t'' : TypeId} {R : World → Prop} (h : ∀ W, Blk W (w.heap.size + 1) t' cs' → Blk W (w.heap.size + 2) t'' cs'' → Below w.heap.size w W → w.heap.size + 3 ≤ W.heap.size → R W) : R (((w.alloc (.cells cs t)).alloc (.cells cs' t')).alloc (.cells cs'' t'')) :=
  h _ ((show Blk ((w.alloc (.cells cs t)).alloc (.cells cs' t')) (w.heap.size + 1) t' cs' by simpa using Blk.new (w.alloc (.cells cs t)) t' cs').alloc _) (by simpa using Blk.new ((w.alloc (.cells cs t)).alloc (.cells cs' t')) t'' cs'') ((below2 _ _ _).alloc (by simp; omega) _) (by simp)
end Go.Proofs.YtnanlaefehaifaaGreat
namespace Go.Proofs.YtnanlaefehaifaaGreat
open Go.RowKit

structure OpD where
  act : Int
  key : ByteArray
  data : List UInt8
  lo : Int
  hi : Int
  n : Int
structure CellD where
  kind : Int
  data : List UInt8
  lo : Int
  hi : Int
  val : Int
structure DidD where
  txn : Int
  op : OpD
  err : Int
  cell : CellD

/-- An Op's six cells; dv: the value of its Data. -/
def opCells (d : OpD) (dv : Value) : List Value := [.int .i64 d.act, .string d.key, dv, .int .i64 d.lo, .int .i64 d.hi, .int .i64 d.n]
def cellCells (d : CellD) (dv : Value) : List Value := [.int .i64 d.kind, dv, .int .i64 d.lo, .int .i64 d.hi, .int .i64 d.val]

/-- A Did with the values of its two slices. -/
structure DidV where
  d : DidD
  dv : Value
  cv : Value
def DidV.cells (x : DidV) : List Value := .int .i64 x.d.txn :: (opCells x.d.op x.dv ++ .int .i64 x.d.err :: cellCells x.d.cell x.cv)
theorem DidV.cells_length (x : DidV) : x.cells.length = 13 := rfl
def DidOk (w : World) (B : Nat) (x : DidV) : Prop := BytesAt w B x.dv x.d.op.data ∧ BytesAt w B x.cv x.d.cell.data
theorem DidOk.below {w w' : World} {B C : Nat} {x : DidV} (h : DidOk w B x) (hb : Below C w w') (hC : B ≤ C) : DidOk w' B x := ⟨h.1.below hb hC, h.2.below hb hC⟩
theorem DidOk.more {w : World} {B B' : Nat} {x : DidV} (h : DidOk w B x) (hB : B ≤ B') : DidOk w B' x := ⟨h.1.more hB, h.2.more hB⟩

theorem BytesAt.one {w : World} {B : Nat} {v : Value} {bs : List UInt8} (h : BytesAt w B v bs) : v.oneCell' = true := by
  obtain ⟨A, n, c, rfl, _⟩ := h
  rfl
theorem DidOk.one {w : World} {B : Nat} {x : DidV} (h : DidOk w B x) : ∀ u ∈ x.cells, u.oneCell' = true := by
  intro u hu
  have h1 := h.1.one
  have h2 := h.2.one
  simp only [DidV.cells, opCells, cellCells, List.cons_append, List.nil_append, List.mem_cons, List.not_mem_nil, or_false] at hu
  rcases hu with rfl | rfl | rfl | rfl | rfl | rfl | rfl | rfl | rfl | rfl | rfl | rfl | rfl <;> first | rfl | assumption

/-- The cells of rows of k cells each, one behind the other. -/
theorem flat_at {α : Type} (f : α → List Value) (k : Nat) (hk : ∀ x, (f x).length = k) (xs : List α) (i j : Nat) (hj : j < k) : (xs.flatMap f)[i * k + j]? = (xs[i]?).bind (fun x => (f x)[j]?) := by
  induction xs generalizing i with
  | nil => simp
  | cons x t ih =>
    cases i with
    | zero => simp [List.getElem?_append_left (show j < (f x).length by rw [hk]; exact hj)]
    | succ i =>
      rw [List.flatMap_cons, List.getElem?_append_right (by rw [hk, Nat.succ_mul]; omega), hk]
      rw [show (i + 1) * k + j - k = i * k + j by rw [Nat.succ_mul]; omega, ih]
      simp
theorem flat_length {α : Type} (f : α → List Value) (k : Nat) (hk : ∀ x, (f x).length = k) (xs : List α) : (xs.flatMap f).length = xs.length * k := by
  induction xs with
  | nil => simp
  | cons x t ih => simp only [List.flatMap_cons, List.length_append, hk, ih, List.length_cons, Nat.succ_mul]; omega
theorem flat_take {α : Type} (f : α → List Value) (k : Nat) (hk : ∀ x, (f x).length = k) (xs : List α) (i : Nat) : (xs.flatMap f).take (i * k) = (xs.take i).flatMap f := by
  induction xs generalizing i with
  | nil => simp
  | cons x t ih =>
    cases i with
    | zero => simp
    | succ i =>
      rw [List.flatMap_cons, List.take_append, hk, List.take_of_length_le (by rw [hk, Nat.succ_mul]; omega)]
      rw [show (i + 1) * k - k = i * k by rw [Nat.succ_mul]; omega, ih]
      simp
theorem flat_drop {α : Type} (f : α → List Value) (k : Nat) (hk : ∀ x, (f x).length = k) (xs : List α) (i : Nat) : (xs.flatMap f).drop (i * k) = (xs.drop i).flatMap f := by
  induction xs generalizing i with
  | nil => simp
  | cons x t ih =>
    cases i with
    | zero => simp
    | succ i =>
      rw [List.flatMap_cons, List.drop_append, hk, List.drop_of_length_le (by rw [hk, Nat.succ_mul]; omega)]
      rw [show (i + 1) * k - k = i * k by rw [Nat.succ_mul]; omega, ih]
      simp

/-- The slice '.slice A n c' holds the Dids xs; all of it lies below B. -/
def Dids (w : World) (B : Nat) (A : Option Addr) (n : Nat) (xs : List DidV) : Prop :=
  n = xs.length ∧ Reads w B 13 A n (xs.flatMap DidV.cells) ∧ ∀ x ∈ xs, DidOk w B x
section
variable {w w' : World} {B B' C n : Nat} {A : Option Addr} {xs : List DidV}
theorem Dids.below (h : Dids w B A n xs) (hb : Below C w w') (hC : B ≤ C) : Dids w' B A n xs := ⟨h.1, h.2.1.below hb hC, fun x hx => (h.2.2 x hx).below hb hC⟩
theorem Dids.more (h : Dids w B A n xs) (hB : B ≤ B') : Dids w B' A n xs := ⟨h.1, h.2.1.more hB, fun x hx => (h.2.2 x hx).more hB⟩
theorem Dids.drewN (h : Dids w B A n xs) (k : Nat) : Dids (w.drewN k) B A n xs := h.below (C := B) (below_of_drewN w k) (Nat.le_refl _)
theorem Dids.one (h : Dids w B A n xs) {ys : List DidV} (hs : ∀ y ∈ ys, y ∈ xs) : ∀ u ∈ ys.flatMap DidV.cells, u.oneCell' = true := by
  intro u hu
  obtain ⟨x, hx, hu⟩ := List.mem_flatMap.1 hu
  exact (h.2.2 x (hs x hx)).one u hu
/-- Element k: its thirteen cells. -/
theorem Dids.at_ {k : Nat} (h : Dids w B A n xs) (hk : k < n) : ∃ b o x, A = some ⟨b, o, none⟩ ∧ b < B ∧ xs[k]? = some x ∧ DidOk w B x ∧ ∀ j u, x.cells[j]? = some u → w.cell? ⟨b, o + k * 13 + j, none⟩ = some u := by
  obtain ⟨rfl, hr, hok⟩ := h
  obtain ⟨b, o, e, hb, hc⟩ := hr.plain (by omega) (by omega)
  refine ⟨b, o, xs[k], e, hb, List.getElem?_eq_getElem hk, hok _ (List.getElem_mem _), fun j u hu => ?_⟩
  have hj : j < 13 := by
    have := (List.getElem?_eq_some_iff.1 hu).1
    rwa [DidV.cells_length] at this
  rw [Nat.add_assoc]
  refine hc _ u ?_
  rw [flat_at _ 13 DidV.cells_length _ _ _ hj, List.getElem?_eq_getElem hk]
  exact hu
end
theorem Dids.row {w : World} {B n k b o : Nat} {xs : List DidV} {x : DidV} (h : Dids w B (some ⟨b, o, none⟩) n xs) (hx : xs[k]? = some x) : w.cell? ⟨b, o + k * 13, none⟩ = some (.int .i64 x.d.txn) ∧ w.cell? ⟨b, o + k * 13 + 1, none⟩ = some (.int .i64 x.d.op.act) ∧ w.cell? ⟨b, o + k * 13 + 1 + 1, none⟩ = some (.string x.d.op.key) ∧ w.cell? ⟨b, o + k * 13 + 1 + 2, none⟩ = some (x.dv) ∧ w.cell? ⟨b, o + k * 13 + 1 + 3, none⟩ = some (.int .i64 x.d.op.lo) ∧ w.cell? ⟨b, o + k * 13 + 1 + 4, none⟩ = some (.int .i64 x.d.op.hi) ∧ w.cell? ⟨b, o + k * 13 + 1 + 5, none⟩ = some (.int .i64 x.d.op.n) ∧ w.cell? ⟨b, o + k * 13 + 7, none⟩ = some (.int .i64 x.d.err) ∧ w.cell? ⟨b, o + k * 13 + 7 + 1, none⟩ = some (.int .i64 x.d.cell.kind) ∧ w.cell? ⟨b, o + k * 13 + 7 + 2, none⟩ = some (x.cv) ∧ w.cell? ⟨b, o + k * 13 + 7 + 3, none⟩ = some (.int .i64 x.d.cell.lo) ∧ w.cell? ⟨b, o + k * 13 + 7 + 4, none⟩ = some (.int .i64 x.d.cell.hi) ∧ w.cell? ⟨b, o + k * 13 + 7 + 5, none⟩ = some (.int .i64 x.d.cell.val) := by
  obtain ⟨hk, _⟩ := List.getElem?_eq_some_iff.1 hx
  obtain ⟨b', o', x', e, _, hx', _, hc⟩ := h.at_ (k := k) (by rw [h.1]; exact hk)
  have e1 : (⟨b, o, none⟩ : Addr) = ⟨b', o', none⟩ := by injection e
  obtain ⟨rfl, rfl⟩ : b = b' ∧ o = o' := by simpa using e1
  obtain rfl : x = x' := by rw [hx] at hx'; injection hx'
  exact ⟨hc 0 _ rfl, hc 1 _ rfl, hc 2 _ rfl, hc 3 _ rfl, hc 4 _ rfl, hc 5 _ rfl, hc 6 _ rfl, hc 7 _ rfl, hc 8 _ rfl, hc 9 _ rfl, hc 10 _ rfl, hc 11 _ rfl, hc 12 _ rfl⟩
/-- ints in memory -/
def Ints (w : World) (B : Nat) (A : Option Addr) (n : Nat) (zs : List Int) : Prop := n = zs.length ∧ Reads w B 1 A n (zs.map (Value.int .i64))
section
variable {w w' : World} {B B' C n : Nat} {A : Option Addr} {zs : List Int}
theorem Ints.below (h : Ints w B A n zs) (hb : Below C w w') (hC : B ≤ C) : Ints w' B A n zs := ⟨h.1, h.2.below hb hC⟩
theorem Ints.more (h : Ints w B A n zs) (hB : B ≤ B') : Ints w B' A n zs := ⟨h.1, h.2.more hB⟩
theorem Ints.drewN (h : Ints w B A n zs) (k : Nat) : Ints (w.drewN k) B A n zs := h
theorem Ints.at_ {k : Nat} (h : Ints w B A n zs) (hk : k < n) : ∃ b o x, A = some ⟨b, o, none⟩ ∧ b < B ∧ zs[k]? = some x ∧ w.cell? ⟨b, o + k, none⟩ = some (.int .i64 x) := by
  obtain ⟨rfl, hr⟩ := h
  obtain ⟨b, o, e, hb, hc⟩ := hr.plain (by omega) (by omega)
  exact ⟨b, o, zs[k], e, hb, List.getElem?_eq_getElem hk, hc _ _ (by simp [hk])⟩
end
/-- P34.1: the first place of a number. -/
def plc (zs : List Int) (x : Int) : Int := match zs.idxOf? x with | some i => (i : Int) | none => -1
theorem plc_none {zs : List Int} {x : Int} (h : ∀ j, j < zs.length → zs[j]? ≠ some x) : plc zs x = -1 := by
  unfold plc
  have : zs.idxOf? x = none := by
    rw [List.idxOf?_eq_none_iff]
    intro hm
    obtain ⟨j, hj, e⟩ := List.getElem_of_mem hm
    exact h j hj (by rw [List.getElem?_eq_getElem hj, e])
  rw [this]
theorem plc_some {zs : List Int} {x : Int} {k : Nat} (h : zs[k]? = some x) (hb : ∀ j, j < k → zs[j]? ≠ some x) : plc zs x = k := by
  unfold plc
  have : zs.idxOf? x = some k := by
    obtain ⟨hk, e⟩ := List.getElem?_eq_some_iff.1 h
    unfold List.idxOf?
    rw [List.findIdx?_eq_some_iff_getElem]
    refine ⟨hk, by simp [e], fun j hj => ?_⟩
    have := hb j hj
    rw [List.getElem?_eq_getElem (by omega)] at this
    simpa using this
  rw [this]
theorem plc_le (zs : List Int) (x : Int) : -1 ≤ plc zs x ∧ plc zs x < zs.length + 1 := by
  unfold plc
  split
  · rename_i i h
    have := (List.findIdx?_eq_some_iff_getElem.1 h).1
    omega
  · omega
theorem plc_neg {zs : List Int} {x : Int} : plc zs x < 0 ↔ x ∉ zs := by
  unfold plc
  split
  · rename_i i h
    have h1 : x ∈ zs := by
      apply Classical.byContradiction
      intro hn
      have := List.idxOf?_eq_none_iff.2 hn
      rw [this] at h; cases h
    constructor
    · intro h; omega
    · intro h; exact absurd h1 h
  · rename_i h
    have := List.idxOf?_eq_none_iff.1 h
    constructor
    · intro _; exact this
    · intro _; omega

/-- A number of 64 bits. -/
def wfI (x : Int) : Prop := (Lit.int .i64 x).wf = true
theorem plc_snoc_mem {l : List Int} {x : Int} (y : Int) (h : x ∈ l) : plc (l ++ [y]) x = plc l x := by
  unfold plc
  have h1 : (l ++ [y]).idxOf? x = l.idxOf? x := by
    unfold List.idxOf?
    rw [List.findIdx?_append]
    have : (List.findIdx? (fun z => z == x) l).isSome = true := by
      rw [List.findIdx?_isSome, List.any_eq_true]
      exact ⟨x, h, by simp⟩
    obtain ⟨i, hi⟩ := Option.isSome_iff_exists.1 this
    rw [hi]
    rfl
  rw [h1]
theorem plc_snoc_new {l : List Int} {y : Int} (h : y ∉ l) : plc (l ++ [y]) y = l.length := by
  refine plc_some (k := l.length) (by simp) (fun j hj e => h ?_)
  rw [List.getElem?_append_left hj] at e
  exact List.mem_of_getElem? e
def cellEq (a b : CellD) : Bool := a.kind == b.kind && a.data == b.data && a.lo == b.lo && a.hi == b.hi && a.val == b.val
end Go.Proofs.YtnanlaefehaifaaGreat
namespace Go.Proofs.YtnanlaefehaifaaGreat
open Go.RowKit

/-- Values stored one behind the other, from offset o of block g on. -/
def putL (w : World) (g o : Nat) : List Value → World
  | [] => w
  | v :: t => putL (w.setCell ⟨g, o, none⟩ v) g (o + 1) t
def setL (cs : Array Value) (o : Nat) : List Value → Array Value
  | [] => cs
  | v :: t => setL (cs.setIfInBounds o v) (o + 1) t
theorem putL_touch (g : Nat) (vs : List Value) : ∀ (w a : World) (o : Nat), Touch g (g + 1) a w → Touch g (g + 1) a (putL w g o vs) := by
  induction vs with
  | nil => intro w a o h; exact h
  | cons v t ih => intro w a o h; exact ih _ _ _ (h.set (by simp) v)
theorem setL_spec (vs : List Value) : ∀ (cs : Array Value) (o : Nat), o + vs.length ≤ cs.size → (setL cs o vs).size = cs.size ∧ (∀ q, (q < o ∨ o + vs.length ≤ q) → (setL cs o vs)[q]? = cs[q]?) ∧ ∀ (j : Nat) u, vs[j]? = some u → (setL cs o vs)[o + j]? = some u := by
  induction vs with
  | nil => intro cs o _; exact ⟨rfl, fun _ _ => rfl, fun j u hu => by simp at hu⟩
  | cons v t ih =>
    intro cs o ho
    simp only [List.length_cons] at ho
    obtain ⟨h1, h2, h3⟩ := ih (cs.setIfInBounds o v) (o + 1) (by simp; omega)
    refine ⟨by simpa [setL] using h1, fun q hq => ?_, fun j u hu => ?_⟩
    · simp only [List.length_cons] at hq
      show (setL (cs.setIfInBounds o v) (o + 1) t)[q]? = _
      rw [h2 q (by omega), Array.getElem?_setIfInBounds, if_neg (by omega)]
    · show (setL (cs.setIfInBounds o v) (o + 1) t)[o + j]? = _
      cases j with
      | zero =>
        simp only [List.getElem?_cons_zero, Option.some.injEq] at hu
        subst hu
        rw [h2 (o + 0) (by omega), Array.getElem?_setIfInBounds, if_pos (by omega), if_pos (by omega)]
      | succ j =>
        have := h3 j u (by simpa using hu)
        rwa [show o + 1 + j = o + (j + 1) by omega] at this
theorem putL_blk {g : Nat} {t : TypeId} (vs : List Value) : ∀ {w : World} {cs : Array Value} (o : Nat), Blk w g t cs → Blk (putL w g o vs) g t (setL cs o vs) := by
  induction vs with
  | nil => intro w cs o k; exact k
  | cons v r ih => intro w cs o k; exact ih _ (k.set_ o v)

/-- What has been told so far. -/
structure TSt (t : TypeId) (k g i : Nat) (cur done : List DidV) (W : World) : Prop where
  len : done.length = i
  eqd : done.map DidV.d = (cur.take i).map DidV.d
  blk : ∃ cs : Array Value, Blk W g t cs ∧ cs.size = k * 13 ∧ ∀ (q : Nat) (u : Value), (done.flatMap DidV.cells)[q]? = some u → cs[q]? = some u
  ok : ∀ y ∈ done, DidOk W W.heap.size y ∧ Fresh (g + 1) y.dv ∧ Fresh (g + 1) y.cv
theorem DidOk.keepIn {w w' : World} {L B : Nat} {x : DidV} (h : DidOk w B x) (h1 : Fresh L x.dv) (h2 : Fresh L x.cv) (hk : ∀ q, L ≤ q → q < B → w'.heap[q]? = w.heap[q]?) : DidOk w' B x := ⟨h.1.keepIn h1 hk, h.2.keepIn h2 hk⟩
theorem TSt.step {t : TypeId} {k g i : Nat} {cur done : List DidV} {W w' : World} {x y : DidV} (h : TSt t k g i cur done W) (hik : i < k) (hx : cur[i]? = some x) (hb : Below W.heap.size W w') (hy : y.d = x.d) (hok : DidOk w' w'.heap.size y) (hf1 : Fresh W.heap.size y.dv) (hf2 : Fresh W.heap.size y.cv) :
    TSt t k g (i + 1) cur (done ++ [y]) (putL w' g (i * 13) y.cells) := by
  obtain ⟨cs, hk, hcs, hcl⟩ := h.blk
  have hgz := hk.lt
  have k' := Blk.via hb hk
  have hlt : i * 13 + 13 ≤ cs.size := by rw [hcs]; have := Nat.mul_le_mul_right 13 (show i + 1 ≤ k from hik); omega
  have k2 := putL_blk y.cells (i * 13) k'
  obtain ⟨hs2, hq2, hj2⟩ := setL_spec y.cells cs (i * 13) (by rw [DidV.cells_length]; exact hlt)
  have htch := putL_touch g y.cells w' w' (i * 13) (Touch.refl _)
  have hz := hb.size
  have hz2 := htch.size
  refine ⟨by simp [h.len], ?_, ⟨_, k2, by omega, fun q u hu => ?_⟩, fun z hz => ?_⟩
  · obtain ⟨hi, e⟩ := List.getElem?_eq_some_iff.1 hx
    rw [List.take_succ_eq_append_getElem hi, List.map_append, List.map_append, h.eqd, e]
    simp [hy]
  · rw [List.flatMap_append] at hu
    have hfl : (done.flatMap DidV.cells).length = i * 13 := by rw [flat_length _ 13 DidV.cells_length, h.len]
    by_cases hqi : q < i * 13
    · rw [List.getElem?_append_left (by omega)] at hu
      rw [hq2 q (.inl hqi)]
      exact hcl q u hu
    · rw [List.getElem?_append_right (by omega), hfl] at hu
      have := hj2 (q - i * 13) u (by simpa using hu)
      rwa [show i * 13 + (q - i * 13) = q by omega] at this
  · rcases List.mem_append.1 hz with hz | hz
    · obtain ⟨o1, o2, o3⟩ := h.ok z hz
      refine ⟨DidOk.more (o1.keepIn o2 o3 (fun q h1 h2 => ?_)) (B := W.heap.size) (by omega), o2, o3⟩
      rw [htch.block q (by omega), hb.block q h2]
    · rw [List.mem_singleton] at hz
      subst hz
      refine ⟨DidOk.more (hok.keepIn (L := W.heap.size) hf1 hf2 (fun q h1 h2 => ?_)) (B := w'.heap.size) (by omega), hf1.mono (by omega), hf2.mono (by omega)⟩
      rw [htch.block q (by omega)]
theorem TSt.dids {t : TypeId} {k g : Nat} {cur done : List DidV} {W : World} (h : TSt t k g k cur done W) : Dids W W.heap.size (some ⟨g, 0, none⟩) k done := by
  obtain ⟨cs, hk, hcs, hcl⟩ := h.blk
  refine ⟨h.len.symm, ⟨by rw [flat_length _ 13 DidV.cells_length, h.len], fun _ => ⟨_, rfl, hk.lt, fun j u hu => ?_⟩⟩, fun y hy => (h.ok y hy).1⟩
  rw [add_plain, Nat.zero_add, hk.cell]
  exact hcl j u hu
end Go.Proofs.YtnanlaefehaifaaGreat
namespace Go.Proofs.YtnanlaefehaifaaGreat
open Go.RowKit

structure EvD where
  act : Int
  client : Int
  txn : Int
  op : OpD
  err : Int
  cell : CellD
/-- An Event with the values of its two slices. -/
structure EvV where
  d : EvD
  dv : Value
  cv : Value
def EvV.cells (x : EvV) : List Value := .int .i64 x.d.act :: .int .i64 x.d.client :: .int .i64 x.d.txn :: (opCells x.d.op x.dv ++ .int .i64 x.d.err :: cellCells x.d.cell x.cv)
theorem EvV.cells_length (x : EvV) : x.cells.length = 15 := rfl
def EvOk (w : World) (B : Nat) (x : EvV) : Prop := BytesAt w B x.dv x.d.op.data ∧ BytesAt w B x.cv x.d.cell.data
theorem EvOk.below {w w' : World} {B C : Nat} {x : EvV} (h : EvOk w B x) (hb : Below C w w') (hC : B ≤ C) : EvOk w' B x := ⟨h.1.below hb hC, h.2.below hb hC⟩
theorem EvOk.more {w : World} {B B' : Nat} {x : EvV} (h : EvOk w B x) (hB : B ≤ B') : EvOk w B' x := ⟨h.1.more hB, h.2.more hB⟩
theorem EvOk.one {w : World} {B : Nat} {x : EvV} (h : EvOk w B x) : ∀ u ∈ x.cells, u.oneCell' = true := by
  intro u hu
  have h1 := h.1.one
  have h2 := h.2.one
  simp only [EvV.cells, opCells, cellCells, List.cons_append, List.nil_append, List.mem_cons, List.not_mem_nil, or_false] at hu
  rcases hu with rfl | rfl | rfl | rfl | rfl | rfl | rfl | rfl | rfl | rfl | rfl | rfl | rfl | rfl | rfl <;> first | rfl | assumption
/-- The slice '.slice A n c' holds the Events xs; all of it lies below B. -/
def Evs (w : World) (B : Nat) (A : Option Addr) (n : Nat) (xs : List EvV) : Prop :=
  n = xs.length ∧ Reads w B 15 A n (xs.flatMap EvV.cells) ∧ ∀ x ∈ xs, EvOk w B x
section
variable {w w' : World} {B B' C n : Nat} {A : Option Addr} {xs : List EvV}
theorem Evs.below (h : Evs w B A n xs) (hb : Below C w w') (hC : B ≤ C) : Evs w' B A n xs := ⟨h.1, h.2.1.below hb hC, fun x hx => (h.2.2 x hx).below hb hC⟩
theorem Evs.more (h : Evs w B A n xs) (hB : B ≤ B') : Evs w B' A n xs := ⟨h.1, h.2.1.more hB, fun x hx => (h.2.2 x hx).more hB⟩
theorem Evs.one (h : Evs w B A n xs) {ys : List EvV} (hs : ∀ y ∈ ys, y ∈ xs) : ∀ u ∈ ys.flatMap EvV.cells, u.oneCell' = true := by
  intro u hu
  obtain ⟨x, hx, hu⟩ := List.mem_flatMap.1 hu
  exact (h.2.2 x (hs x hx)).one u hu
theorem Evs.at_ {k : Nat} (h : Evs w B A n xs) (hk : k < n) : ∃ b o x, A = some ⟨b, o, none⟩ ∧ b < B ∧ xs[k]? = some x ∧ EvOk w B x ∧ ∀ j u, x.cells[j]? = some u → w.cell? ⟨b, o + k * 15 + j, none⟩ = some u := by
  obtain ⟨rfl, hr, hok⟩ := h
  obtain ⟨b, o, e, hb, hc⟩ := hr.plain (by omega) (by omega)
  refine ⟨b, o, xs[k], e, hb, List.getElem?_eq_getElem hk, hok _ (List.getElem_mem _), fun j u hu => ?_⟩
  have hj : j < 15 := by
    have := (List.getElem?_eq_some_iff.1 hu).1
    rwa [EvV.cells_length] at this
  rw [Nat.add_assoc]
  refine hc _ u ?_
  rw [flat_at _ 15 EvV.cells_length _ _ _ hj, List.getElem?_eq_getElem hk]
  exact hu
end
/-- The fifteen cells of one Event in memory, as the walk spells their places. -/
def EvRow (w : World) (b p : Nat) (x : EvV) : Prop :=
  w.cell? ⟨b, p, none⟩ = some (.int .i64 x.d.act) ∧ w.cell? ⟨b, p + 1, none⟩ = some (.int .i64 x.d.client) ∧ w.cell? ⟨b, p + 2, none⟩ = some (.int .i64 x.d.txn) ∧
  w.cell? ⟨b, p + 3, none⟩ = some (.int .i64 x.d.op.act) ∧ w.cell? ⟨b, p + 3 + 1, none⟩ = some (.string x.d.op.key) ∧ w.cell? ⟨b, p + 3 + 2, none⟩ = some (x.dv) ∧ w.cell? ⟨b, p + 3 + 3, none⟩ = some (.int .i64 x.d.op.lo) ∧ w.cell? ⟨b, p + 3 + 4, none⟩ = some (.int .i64 x.d.op.hi) ∧ w.cell? ⟨b, p + 3 + 5, none⟩ = some (.int .i64 x.d.op.n) ∧
  w.cell? ⟨b, p + 9, none⟩ = some (.int .i64 x.d.err) ∧ w.cell? ⟨b, p + 9 + 1, none⟩ = some (.int .i64 x.d.cell.kind) ∧ w.cell? ⟨b, p + 9 + 2, none⟩ = some (x.cv) ∧ w.cell? ⟨b, p + 9 + 3, none⟩ = some (.int .i64 x.d.cell.lo) ∧ w.cell? ⟨b, p + 9 + 4, none⟩ = some (.int .i64 x.d.cell.hi) ∧ w.cell? ⟨b, p + 9 + 5, none⟩ = some (.int .i64 x.d.cell.val)
theorem Evs.row {w : World} {B n k b o : Nat} {xs : List EvV} {x : EvV} (h : Evs w B (some ⟨b, o, none⟩) n xs) (hx : xs[k]? = some x) : EvRow w b (o + k * 15) x := by
  obtain ⟨hk, _⟩ := List.getElem?_eq_some_iff.1 hx
  obtain ⟨b', o', x', e, _, hx', _, hc⟩ := h.at_ (k := k) (by rw [h.1]; exact hk)
  have e1 : (⟨b, o, none⟩ : Addr) = ⟨b', o', none⟩ := by injection e
  obtain ⟨rfl, rfl⟩ : b = b' ∧ o = o' := by simpa using e1
  obtain rfl : x = x' := by rw [hx] at hx'; injection hx'
  exact ⟨hc 0 _ rfl, hc 1 _ rfl, hc 2 _ rfl, hc 3 _ rfl, hc 4 _ rfl, hc 5 _ rfl, hc 6 _ rfl, hc 7 _ rfl, hc 8 _ rfl, hc 9 _ rfl, hc 10 _ rfl, hc 11 _ rfl, hc 12 _ rfl, hc 13 _ rfl, hc 14 _ rfl⟩

/-- An Event as one value. -/
def evA (d : EvD) (dv cv : Value) : Value := .agg #[.int .i64 d.act, .int .i64 d.client, .int .i64 d.txn, .int .i64 d.op.act, .string d.op.key, dv, .int .i64 d.op.lo, .int .i64 d.op.hi, .int .i64 d.op.n, .int .i64 d.err, .int .i64 d.cell.kind, cv, .int .i64 d.cell.lo, .int .i64 d.cell.hi, .int .i64 d.cell.val]

end Go.Proofs.YtnanlaefehaifaaGreat
namespace Go.Proofs.YtnanlaefehaifaaGreat
open Go.RowKit

def okByte (b : UInt8) : Bool := decide (33 ≤ b.toNat ∧ b.toNat ≤ 126)
/-- May a text be a key? (P4.1) -/
def goodKey (k : ByteArray) : Bool := k.data.toList.all okByte && (decide (0 < k.size) && decide (k.size ≤ 16))
/-- May a cell be? (P5.1) -/
def rightC (c : CellD) : Bool :=
  if c.kind = 1 then decide (c.data.length ≤ 32) && (c.lo == 0 && (c.hi == 0 && c.val == 0))
  else c.kind == 2 && (decide (c.data.length = 0) && (decide (c.lo ≤ c.val) && decide (c.val ≤ c.hi)))

structure PairD where
  key : ByteArray
  cell : CellD
/-- A pair with the value of its slice. -/
structure PairV where
  d : PairD
  cv : Value
def PairV.cells (x : PairV) : List Value := .string x.d.key :: cellCells x.d.cell x.cv
theorem PairV.cells_length (x : PairV) : x.cells.length = 6 := rfl
def PairOk (w : World) (B : Nat) (x : PairV) : Prop := BytesAt w B x.cv x.d.cell.data
theorem PairOk.below {w w' : World} {B C : Nat} {x : PairV} (h : PairOk w B x) (hb : Below C w w') (hC : B ≤ C) : PairOk w' B x := BytesAt.below h hb hC
theorem PairOk.more {w : World} {B B' : Nat} {x : PairV} (h : PairOk w B x) (hB : B ≤ B') : PairOk w B' x := BytesAt.more h hB
theorem PairOk.one {w : World} {B : Nat} {x : PairV} (h : PairOk w B x) : ∀ u ∈ x.cells, u.oneCell' = true := by
  intro u hu
  have h1 := BytesAt.one h
  simp only [PairV.cells, cellCells, List.mem_cons, List.not_mem_nil, or_false] at hu
  rcases hu with rfl | rfl | rfl | rfl | rfl | rfl <;> first | rfl | assumption

def Pairs (w : World) (B : Nat) (A : Option Addr) (n : Nat) (xs : List PairV) : Prop :=
  n = xs.length ∧ Reads w B 6 A n (xs.flatMap PairV.cells) ∧ ∀ x ∈ xs, PairOk w B x
section
variable {w w' : World} {B B' C n : Nat} {A : Option Addr} {xs : List PairV}
theorem Pairs.below (h : Pairs w B A n xs) (hb : Below C w w') (hC : B ≤ C) : Pairs w' B A n xs := ⟨h.1, h.2.1.below hb hC, fun x hx => (h.2.2 x hx).below hb hC⟩
theorem Pairs.more (h : Pairs w B A n xs) (hB : B ≤ B') : Pairs w B' A n xs := ⟨h.1, h.2.1.more hB, fun x hx => (h.2.2 x hx).more hB⟩
theorem Pairs.drewN (h : Pairs w B A n xs) (k : Nat) : Pairs (w.drewN k) B A n xs := h.below (C := B) (below_of_drewN w k) (Nat.le_refl _)
theorem Pairs.one (h : Pairs w B A n xs) {ys : List PairV} (hs : ∀ y ∈ ys, y ∈ xs) : ∀ u ∈ ys.flatMap PairV.cells, u.oneCell' = true := by
  intro u hu
  obtain ⟨x, hx, hu⟩ := List.mem_flatMap.1 hu
  exact (h.2.2 x (hs x hx)).one u hu
theorem Pairs.at_ {k : Nat} (h : Pairs w B A n xs) (hk : k < n) : ∃ b o x, A = some ⟨b, o, none⟩ ∧ b < B ∧ xs[k]? = some x ∧ PairOk w B x ∧ ∀ j u, x.cells[j]? = some u → w.cell? ⟨b, o + k * 6 + j, none⟩ = some u := by
  obtain ⟨rfl, hr, hok⟩ := h
  obtain ⟨b, o, e, hb, hc⟩ := hr.plain (by omega) (by omega)
  refine ⟨b, o, xs[k], e, hb, List.getElem?_eq_getElem hk, hok _ (List.getElem_mem _), fun j u hu => ?_⟩
  have hj : j < 6 := by
    have := (List.getElem?_eq_some_iff.1 hu).1
    rwa [PairV.cells_length] at this
  rw [Nat.add_assoc]
  refine hc _ u ?_
  rw [flat_at _ 6 PairV.cells_length _ _ _ hj, List.getElem?_eq_getElem hk]
  exact hu
theorem Pairs.row {k b o : Nat} {x : PairV} (h : Pairs w B (some ⟨b, o, none⟩) n xs) (hx : xs[k]? = some x) :
    w.cell? ⟨b, o + k * 6, none⟩ = some (.string x.d.key) ∧ w.cell? ⟨b, o + k * 6 + 1, none⟩ = some (.int .i64 x.d.cell.kind) ∧ w.cell? ⟨b, o + k * 6 + 1 + 1, none⟩ = some x.cv ∧ w.cell? ⟨b, o + k * 6 + 1 + 2, none⟩ = some (.int .i64 x.d.cell.lo) ∧ w.cell? ⟨b, o + k * 6 + 1 + 3, none⟩ = some (.int .i64 x.d.cell.hi) ∧ w.cell? ⟨b, o + k * 6 + 1 + 4, none⟩ = some (.int .i64 x.d.cell.val) := by
  obtain ⟨hk, _⟩ := List.getElem?_eq_some_iff.1 hx
  obtain ⟨b', o', x', e, _, hx', _, hc⟩ := h.at_ (k := k) (by rw [h.1]; exact hk)
  have e1 : (⟨b, o, none⟩ : Addr) = ⟨b', o', none⟩ := by injection e
  obtain ⟨rfl, rfl⟩ : b = b' ∧ o = o' := by simpa using e1
  obtain rfl : x = x' := by rw [hx] at hx'; injection hx'
  exact ⟨hc 0 _ rfl, hc 1 _ rfl, hc 2 _ rfl, hc 3 _ rfl, hc 4 _ rfl, hc 5 _ rfl⟩
end

/-- The order of keys, as Go's '<' on strings. -/
def kless (a b : ByteArray) : Bool := Op.bytesLess a.toList b.toList
/-- May an operation be? (P9.1) -/
def goodOp (x : OpD) : Bool :=
  decide (0 ≤ x.act ∧ x.act ≤ 5) && (goodKey x.key &&
    (if x.act = 1 then decide (x.data.length ≤ 32) else if x.act = 2 then decide (x.lo ≤ x.n) && decide (x.n ≤ x.hi) else decide (x.act < 4) || decide (0 ≤ x.n)))
end Go.Proofs.YtnanlaefehaifaaGreat
namespace Go.Proofs.YtnanlaefehaifaaGreat
open Go.RowKit

theorem bl_irrefl : ∀ x : List UInt8, Op.bytesLess x x = false
  | [] => rfl
  | a :: x => by simp [Op.bytesLess, bl_irrefl x]
theorem bl_trans : ∀ {x y z : List UInt8}, Op.bytesLess x y = true → Op.bytesLess y z = true → Op.bytesLess x z = true
  | [], [], _, h, _ => by simp [Op.bytesLess] at h
  | [], _ :: _, [], _, h => by simp [Op.bytesLess] at h
  | [], _ :: _, _ :: _, _, _ => by simp [Op.bytesLess]
  | _ :: _, [], _, h, _ => by simp [Op.bytesLess] at h
  | _ :: _, _ :: _, [], _, h => by simp [Op.bytesLess] at h
  | a :: x, b :: y, c :: z, h1, h2 => by
    simp only [Op.bytesLess, Bool.or_eq_true, decide_eq_true_eq, Bool.and_eq_true, beq_iff_eq] at h1 h2 ⊢
    rcases h1 with h1 | ⟨rfl, h1⟩
    · rcases h2 with h2 | ⟨rfl, h2⟩
      · exact .inl (UInt8.lt_trans h1 h2)
      · exact .inl h1
    · rcases h2 with h2 | ⟨rfl, h2⟩
      · exact .inl h2
      · exact .inr ⟨rfl, bl_trans h1 h2⟩
theorem bl_tri : ∀ x y : List UInt8, Op.bytesLess x y = true ∨ x = y ∨ Op.bytesLess y x = true
  | [], [] => .inr (.inl rfl)
  | [], _ :: _ => .inl rfl
  | _ :: _, [] => .inr (.inr rfl)
  | a :: x, b :: y => by
    simp only [Op.bytesLess, Bool.or_eq_true, decide_eq_true_eq, Bool.and_eq_true, beq_iff_eq]
    rcases UInt8.lt_or_lt_of_ne (a := a) (b := b) |> fun h => (Classical.em (a = b)) with rfl | hne
    · rcases bl_tri x y with h | rfl | h
      · exact .inl (.inr ⟨rfl, h⟩)
      · exact .inr (.inl rfl)
      · exact .inr (.inr (.inr ⟨rfl, h⟩))
    · rcases UInt8.lt_or_lt_of_ne hne with h | h
      · exact .inl (.inl h)
      · exact .inr (.inr (.inl h))
theorem kless_irrefl (a : ByteArray) : kless a a = false := bl_irrefl _
theorem kless_trans {a b c : ByteArray} (h1 : kless a b = true) (h2 : kless b c = true) : kless a c = true := bl_trans h1 h2
theorem toList_inj {a b : ByteArray} (h : a.toList = b.toList) : a = b := by
  rw [ByteArray.toList_eq, ByteArray.toList_eq] at h
  exact WideShapes.bytes_inj h
theorem kless_tri (a b : ByteArray) : kless a b = true ∨ a = b ∨ kless b a = true := by
  rcases bl_tri a.toList b.toList with h | h | h
  · exact .inl h
  · exact .inr (.inl (toList_inj h))
  · exact .inr (.inr h)
theorem kless_asymm {a b : ByteArray} (h : kless a b = true) : kless b a = false := by
  cases hb : kless b a with
  | false => rfl
  | true => have := kless_trans h hb; rw [kless_irrefl] at this; cases this

/-- Is a list of pairs a state? (P9.3) -/
def RightS (l : List PairD) : Prop := (∀ x ∈ l, goodKey x.key = true ∧ rightC x.cell = true) ∧ l.Pairwise (fun x y => kless x.key y.key = true)
theorem RightS.nil : RightS [] := ⟨fun x hx => (by cases hx), List.Pairwise.nil⟩
theorem RightS.snoc {l : List PairD} {x : PairD} (h : RightS l) (hx : goodKey x.key = true ∧ rightC x.cell = true) (hl : ∀ y, l.getLast? = some y → kless y.key x.key = true) : RightS (l ++ [x]) := by
  refine ⟨fun y hy => ?_, ?_⟩
  · rcases List.mem_append.1 hy with hy | hy
    · exact h.1 y hy
    · rw [List.mem_singleton] at hy; subst hy; exact hx
  · rw [List.pairwise_append]
    refine ⟨h.2, List.pairwise_singleton _ _, fun a ha b hb => ?_⟩
    rw [List.mem_singleton] at hb
    subst hb
    obtain ⟨z, hz⟩ : ∃ z, l.getLast? = some z := by
      cases hl' : l.getLast? with
      | none => rw [List.getLast?_eq_none_iff] at hl'; subst hl'; cases ha
      | some z => exact ⟨z, rfl⟩
    have hzx := hl z hz
    obtain ⟨ys, rfl⟩ := List.getLast?_eq_some_iff.1 hz
    rcases List.mem_append.1 ha with ha | ha
    · have := (List.pairwise_append.1 h.2).2.2 a ha z (by simp)
      exact kless_trans this hzx
    · rw [List.mem_singleton] at ha; subst ha; exact hzx

/-- How many keys are less. -/
def pos (s : List PairD) (k : ByteArray) : Nat := (s.takeWhile (fun x => kless x.key k)).length
def cell0 : CellD := ⟨0, [], 0, 0, 0⟩
/-- What a key has. -/
def hasD (s : List PairD) (k : ByteArray) : Option CellD := match s[pos s k]? with | some x => if x.key.toList = k.toList then some x.cell else none | none => none
def putD (s : List PairD) (k : ByteArray) (c : Option CellD) : List PairD :=
  s.take (pos s k) ++ (match c with | some c => [⟨k, c⟩] | none => []) ++ s.drop (pos s k + if (hasD s k).isSome then 1 else 0)
theorem pos_le (s : List PairD) (k : ByteArray) : pos s k ≤ s.length := (List.takeWhile_prefix _).length_le
theorem pos_before {s : List PairD} {k : ByteArray} {i : Nat} {x : PairD} (hi : i < pos s k) (hx : s[i]? = some x) : kless x.key k = true := by
  have h1 : s.takeWhile (fun x => kless x.key k) <+: s := List.takeWhile_prefix _
  have h2 : (s.takeWhile (fun x => kless x.key k))[i]? = some x := by
    rw [List.prefix_iff_getElem?.1 h1 i hi] at hx
    rw [← hx, List.getElem?_eq_getElem hi]
  have h3 := List.all_eq_true.1 (List.all_takeWhile (p := fun x : PairD => kless x.key k) (l := s)) x (List.mem_of_getElem? h2)
  exact h3
theorem pos_at {s : List PairD} {k : ByteArray} {x : PairD} (hx : s[pos s k]? = some x) : kless x.key k = false := by
  induction s with
  | nil => simp at hx
  | cons y t ih =>
    unfold pos at hx ih
    rw [List.takeWhile_cons] at hx
    split at hx
    · simp only [List.length_cons, List.getElem?_cons_succ] at hx
      exact ih hx
    · rename_i h
      simp only [List.length_nil, List.getElem?_cons_zero, Option.some.injEq] at hx
      subst hx
      simpa using h
/-- From pos on no key is less. -/
theorem pos_from {s : List PairD} {k : ByteArray} (hs : RightS s) {i : Nat} {x : PairD} (hi : pos s k ≤ i) (hx : s[i]? = some x) : kless x.key k = false := by
  obtain ⟨hil, e⟩ := List.getElem?_eq_some_iff.1 hx
  have hpl : pos s k < s.length := by omega
  have h0 := pos_at (List.getElem?_eq_getElem hpl)
  by_cases hpi : pos s k = i
  · subst hpi; rw [← e]; exact h0
  · have h1 := List.pairwise_iff_getElem.1 hs.2 (pos s k) i hpl hil (by omega)
    rw [e] at h1
    cases hk : kless x.key k with
    | false => rfl
    | true => have := kless_trans h1 hk; rw [h0] at this; cases this
/-- pos is the one place that parts less from not less. -/
theorem pos_unique {s : List PairD} {k : ByteArray} (hs : RightS s) {p : Nat} (hp : p ≤ s.length) (h1 : ∀ i x, i < p → s[i]? = some x → kless x.key k = true) (h2 : ∀ i x, p ≤ i → s[i]? = some x → kless x.key k = false) : p = pos s k := by
  rcases Nat.lt_trichotomy p (pos s k) with h | h | h
  · have hl := pos_le s k
    have a := pos_before h (List.getElem?_eq_getElem (by omega))
    have b := h2 p _ (Nat.le_refl _) (List.getElem?_eq_getElem (by omega))
    rw [a] at b; cases b
  · exact h
  · have a := h1 (pos s k) _ h (List.getElem?_eq_getElem (by omega))
    have b := pos_from (k := k) hs (Nat.le_refl _) (List.getElem?_eq_getElem (by omega))
    rw [a] at b; cases b
theorem hasD_some {s : List PairD} {k : ByteArray} {c : CellD} (h : hasD s k = some c) : ∃ x, s[pos s k]? = some x ∧ x.key = k ∧ x.cell = c := by
  unfold hasD at h
  cases hx : s[pos s k]? with
  | none => rw [hx] at h; cases h
  | some x =>
    rw [hx] at h
    simp only at h
    split at h
    · rename_i he
      injection h with h
      exact ⟨x, rfl, toList_inj he, h⟩
    · cases h
theorem hasD_none {s : List PairD} {k : ByteArray} (hs : RightS s) (h : hasD s k = none) : ∀ x ∈ s, x.key ≠ k := by
  intro x hx he
  obtain ⟨i, hi, e⟩ := List.getElem_of_mem hx
  have hxi : s[i]? = some x := by rw [List.getElem?_eq_getElem hi, e]
  rcases Nat.lt_trichotomy i (pos s k) with hlt | heq | hgt
  · have := pos_before hlt hxi; rw [he, kless_irrefl] at this; cases this
  · subst heq
    unfold hasD at h
    rw [hxi] at h
    simp [he] at h
  · have hpl : pos s k < s.length := by omega
    have h1 := List.pairwise_iff_getElem.1 hs.2 (pos s k) i hpl hi hgt
    rw [e, he] at h1
    have := pos_at (List.getElem?_eq_getElem hpl)
    rw [h1] at this; cases this
theorem mem_putD {s : List PairD} {k : ByteArray} {c : Option CellD} {x : PairD} (h : x ∈ putD s k c) : x ∈ s ∨ ∃ c', c = some c' ∧ x = ⟨k, c'⟩ := by
  unfold putD at h
  rw [List.mem_append, List.mem_append] at h
  rcases h with (h | h) | h
  · exact .inl (List.mem_of_mem_take h)
  · cases c with
    | none => cases h
    | some c => rw [List.mem_singleton] at h; exact .inr ⟨c, rfl, h⟩
  · exact .inl (List.mem_of_mem_drop h)
theorem RightS.put {s : List PairD} {k : ByteArray} {c : Option CellD} (hs : RightS s) (hk : goodKey k = true) (hc : ∀ c', c = some c' → rightC c' = true) : RightS (putD s k c) := by
  refine ⟨fun x hx => ?_, ?_⟩
  · rcases mem_putD hx with hx | ⟨c', e, rfl⟩
    · exact hs.1 x hx
    · exact ⟨hk, hc c' e⟩
  · unfold putD
    have hb : ∀ x ∈ s.take (pos s k), kless x.key k = true := fun x hx => by
      obtain ⟨i, hi, e⟩ := List.getElem_of_mem hx
      have hi' := hi
      simp only [List.length_take] at hi'
      exact pos_before (s := s) (i := i) (by omega) (by rw [← e, List.getElem_take, List.getElem?_eq_getElem])
    have ha : ∀ x ∈ s.drop (pos s k + if (hasD s k).isSome then 1 else 0), kless k x.key = true := fun x hx => by
      obtain ⟨i, hi, e⟩ := List.getElem_of_mem hx
      have hxi : s[(pos s k + if (hasD s k).isSome then 1 else 0) + i]? = some x := by rw [← e, List.getElem_drop, List.getElem?_eq_getElem]
      have h1 := pos_from (k := k) hs (by omega) hxi
      rcases kless_tri x.key k with h | h | h
      · rw [h1] at h; cases h
      · exfalso
        cases hh : hasD s k with
        | none => exact hasD_none hs hh x (List.mem_of_getElem? hxi) h
        | some c' =>
          obtain ⟨z, hz, hzk, _⟩ := hasD_some hh
          rw [hh] at hxi
          simp only [Option.isSome_some, if_true] at hxi
          obtain ⟨l1, e1⟩ := List.getElem?_eq_some_iff.1 hz
          obtain ⟨l2, e2⟩ := List.getElem?_eq_some_iff.1 hxi
          have := List.pairwise_iff_getElem.1 hs.2 (pos s k) _ l1 l2 (by omega)
          rw [e1, e2, hzk, h, kless_irrefl] at this
          cases this
      · exact h
    rw [List.pairwise_append, List.pairwise_append]
    refine ⟨⟨hs.2.sublist (List.take_sublist _ _), ?_, ?_⟩, hs.2.sublist (List.drop_sublist _ _), ?_⟩
    · cases c with
      | none => exact .nil
      | some c => exact List.pairwise_singleton _ _
    · intro x hx y hy
      cases c with
      | none => cases hy
      | some c => rw [List.mem_singleton] at hy; subst hy; exact hb x hx
    · intro x hx y hy
      have hyk := ha y hy
      rcases List.mem_append.1 hx with hx | hx
      · exact kless_trans (hb x hx) hyk
      · cases c with
        | none => cases hx
        | some c => rw [List.mem_singleton] at hx; subst hx; exact hyk

/-- P9.2: the state behind an operation, and what it tells: the error, the cell. -/
def stepD (s : List PairD) (x : OpD) : List PairD × Int × CellD :=
  if goodOp x = false then (s, 1, cell0)
  else if x.act = 1 then (if ((hasD s x.key).any fun c => c.kind == 2) = true then (s, 6, cell0) else (putD s x.key (some ⟨1, x.data, 0, 0, 0⟩), 0, cell0))
  else if x.act = 2 then (match hasD s x.key with | some _ => (s, 7, cell0) | none => (putD s x.key (some ⟨2, [], x.lo, x.hi, x.n⟩), 0, cell0))
  else match hasD s x.key with
    | none => (s, 5, cell0)
    | some c =>
      if x.act = 0 then (s, 0, c)
      else if x.act = 3 then (putD s x.key none, 0, cell0)
      else if c.kind ≠ 2 then (s, 6, cell0)
      else
        let v := if x.act = 5 then c.val - x.n else c.val + x.n
        if v < c.lo ∨ c.hi < v then (s, 8, cell0) else (putD s x.key (some ⟨2, [], c.lo, c.hi, v⟩), 0, cell0)

theorem goodOp_key {x : OpD} (h : goodOp x = true) : goodKey x.key = true ∧ 0 ≤ x.act ∧ x.act ≤ 5 := by
  unfold goodOp at h
  simp only [Bool.and_eq_true, decide_eq_true_eq] at h
  exact ⟨h.2.1, h.1⟩
theorem RightS.step {s : List PairD} (hs : RightS s) (x : OpD) : RightS (stepD s x).1 := by
  unfold stepD
  cases hg : goodOp x with
  | false => exact hs
  | true =>
    have hk := (goodOp_key hg).1
    have hg2 := hg
    unfold goodOp at hg2
    simp only [Bool.and_eq_true, decide_eq_true_eq] at hg2
    simp only [Bool.true_eq_false, if_false]
    by_cases h1 : x.act = 1
    · rw [if_pos h1]
      split
      · exact hs
      · show RightS (putD s x.key (some ⟨1, x.data, 0, 0, 0⟩))
        refine hs.put hk (fun c' e => ?_)
        injection e with e
        subst e
        have := hg2.2.2
        rw [if_pos h1] at this
        simpa [rightC] using this
    · rw [if_neg h1]
      by_cases h2 : x.act = 2
      · rw [if_pos h2]
        split
        · exact hs
        · show RightS (putD s x.key (some ⟨2, [], x.lo, x.hi, x.n⟩))
          refine hs.put hk (fun c' e => ?_)
          injection e with e
          subst e
          have := hg2.2.2
          rw [if_neg h1, if_pos h2] at this
          simpa [rightC] using this
      · rw [if_neg h2]
        split
        · exact hs
        · rename_i c hc
          by_cases h0 : x.act = 0
          · rw [if_pos h0]; exact hs
          · rw [if_neg h0]
            by_cases h3 : x.act = 3
            · rw [if_pos h3]
              show RightS (putD s x.key none)
              exact hs.put hk (fun c' e => by cases e)
            · rw [if_neg h3]
              by_cases hk2 : c.kind ≠ 2
              · rw [if_pos hk2]; exact hs
              · rw [if_neg hk2]
                by_cases hb : (if x.act = 5 then c.val - x.n else c.val + x.n) < c.lo ∨ c.hi < (if x.act = 5 then c.val - x.n else c.val + x.n)
                · rw [if_pos hb]; exact hs
                · rw [if_neg hb]
                  show RightS (putD s x.key (some ⟨2, [], c.lo, c.hi, _⟩))
                  refine hs.put hk (fun c' e => ?_)
                  injection e with e
                  subst e
                  simp [rightC]
                  omega
end Go.Proofs.YtnanlaefehaifaaGreat
namespace Go.Proofs.YtnanlaefehaifaaGreat
open Go.RowKit

/-- Where a text's pair is, by keys alone. -/
def findL (l : List PairV) (k : ByteArray) : Option PairV := l.find? (fun x => x.d.key.toList == k.toList)
/-- How many leading keys are less. -/
def posV (xs : List PairV) (k : ByteArray) : Nat := (xs.takeWhile (fun x => kless x.d.key k)).length
def hereV (xs : List PairV) (k : ByteArray) : Bool := match xs[posV xs k]? with | some x => x.d.key.toList == k.toList | none => false
def putV (xs : List PairV) (k : ByteArray) (cd : CellD) (cv : Value) : List PairV :=
  xs.take (posV xs k) ++ (if cd.kind = 0 then [] else [⟨⟨k, cd⟩, cv⟩]) ++ xs.drop (posV xs k + if hereV xs k then 1 else 0)

theorem posV_map (xs : List PairV) (k : ByteArray) : posV xs k = pos (xs.map PairV.d) k := by
  unfold posV pos
  rw [List.takeWhile_map, List.length_map]
  rfl
theorem hereV_map (xs : List PairV) (k : ByteArray) : hereV xs k = (hasD (xs.map PairV.d) k).isSome := by
  unfold hereV hasD
  rw [← posV_map, List.getElem?_map]
  cases xs[posV xs k]? with
  | none => rfl
  | some x =>
    by_cases h : x.d.key.toList = k.toList <;> simp [h]
theorem putV_map (xs : List PairV) (k : ByteArray) (cd : CellD) (cv : Value) : (putV xs k cd cv).map PairV.d = putD (xs.map PairV.d) k (if cd.kind = 0 then none else some cd) := by
  unfold putV putD
  rw [← posV_map, hereV_map, List.map_append, List.map_append, List.map_take, List.map_drop]
  by_cases h : cd.kind = 0 <;> simp [h]
theorem findL_map {xs : List PairV} (hs : RightS (xs.map PairV.d)) (k : ByteArray) : (findL xs k).map (fun x => x.d.cell) = hasD (xs.map PairV.d) k := by
  unfold findL
  cases h : hasD (xs.map PairV.d) k with
  | none =>
    have h1 := hasD_none hs h
    have : xs.find? (fun x => x.d.key.toList == k.toList) = none := by
      rw [List.find?_eq_none]
      intro x hx he
      exact h1 x.d (List.mem_map_of_mem hx) (toList_inj (by simpa using he))
    rw [this]
    rfl
  | some c =>
    obtain ⟨y, hy, hk, hc⟩ := hasD_some h
    rw [List.getElem?_map] at hy
    obtain ⟨x, hx, rfl⟩ := Option.map_eq_some_iff.1 hy
    obtain ⟨hl, e⟩ := List.getElem?_eq_some_iff.1 hx
    have : xs.find? (fun x => x.d.key.toList == k.toList) = some x := by
      rw [List.find?_eq_some_iff_getElem]
      refine ⟨by simp [hk], _, hl, e, fun j hj => ?_⟩
      have h2 := pos_before (s := xs.map PairV.d) (k := k) (i := j) (x := (xs[j]'(by omega)).d) hj (by rw [List.getElem?_map, List.getElem?_eq_getElem (by omega)]; rfl)
      cases h3 : (xs[j]'(by omega)).d.key.toList == k.toList with
      | false => rfl
      | true =>
        have h4 := toList_inj (by simpa using h3 : (xs[j]'(by omega)).d.key.toList = k.toList)
        rw [h4, kless_irrefl] at h2
        cases h2
    rw [this]
    simp [hc]
theorem findL_mem {xs : List PairV} {k : ByteArray} {x : PairV} (h : findL xs k = some x) : x ∈ xs := List.mem_of_find?_eq_some h

/-- How far a list goes on the machine, and the state there (P34.2). -/
def sameAns (e : Int) (c : CellD) (e' : Int) (c' : CellD) : Bool := e == e' && cellEq c c'
def replayD (s : List PairD) : List DidD → List PairD × Nat
  | [] => (s, 0)
  | d :: t => if sameAns (stepD s d.op).2.1 (stepD s d.op).2.2 d.err d.cell then ((replayD (stepD s d.op).1 t).1, (replayD (stepD s d.op).1 t).2 + 1) else (s, 0)
/-- The state behind operations. -/
def runD (s : List PairD) : List OpD → List PairD
  | [] => s
  | x :: t => runD (stepD s x).1 t
theorem runD_snoc (s : List PairD) (l : List OpD) (x : OpD) : runD s (l ++ [x]) = (stepD (runD s l) x).1 := by
  induction l generalizing s with
  | nil => rfl
  | cons y t ih => exact ih _
theorem RightS.run {s : List PairD} (hs : RightS s) (l : List OpD) : RightS (runD s l) := by
  induction l generalizing s with
  | nil => exact hs
  | cons x t ih => exact ih (hs.step x)
/-- What operation i tells. -/
def toldD (s : List PairD) (l : List OpD) (x : OpD) : Int × CellD := (stepD (runD s l) x).2
/-- Replay's answer: all before k told the same, and at k it does not (or k is the end). -/
theorem replayD_eq (l : List DidD) (s : List PairD) (k : Nat) (hk : k ≤ l.length)
    (h1 : ∀ i d, i < k → l[i]? = some d → sameAns (toldD s ((l.take i).map DidD.op) d.op).1 (toldD s ((l.take i).map DidD.op) d.op).2 d.err d.cell = true)
    (h2 : ∀ d, l[k]? = some d → sameAns (toldD s ((l.take k).map DidD.op) d.op).1 (toldD s ((l.take k).map DidD.op) d.op).2 d.err d.cell = false) :
    replayD s l = (runD s ((l.take k).map DidD.op), k) := by
  induction l generalizing s k with
  | nil =>
    obtain rfl : k = 0 := by simpa using hk
    rfl
  | cons d t ih =>
    cases k with
    | zero =>
      have := h2 d rfl
      unfold replayD
      rw [if_neg (by rw [show sameAns (stepD s d.op).2.1 (stepD s d.op).2.2 d.err d.cell = false from this]; exact Bool.false_ne_true)]
      rfl
    | succ k =>
      have h0 := h1 0 d (by omega) rfl
      unfold replayD
      rw [if_pos (show sameAns (stepD s d.op).2.1 (stepD s d.op).2.2 d.err d.cell = true from h0)]
      rw [ih (stepD s d.op).1 k (by simpa using hk) (fun i e hi he => h1 (i + 1) e (by omega) (by simpa using he)) (fun e he => h2 e (by simpa using he))]
      rfl
/-- Numbers of 64 bits. -/
def inI (z : Int) : Prop := -9223372036854775808 ≤ z ∧ z ≤ 9223372036854775807
def CellWf (c : CellD) : Prop := inI c.lo ∧ inI c.hi ∧ inI c.val
def WfS (s : List PairD) : Prop := ∀ x ∈ s, CellWf x.cell
def OpWf (x : OpD) : Prop := inI x.lo ∧ inI x.hi ∧ inI x.n ∧ x.key.size ≤ 9223372036854775807
theorem WfS.put {s : List PairD} {k : ByteArray} {c : Option CellD} (hs : WfS s) (hc : ∀ c', c = some c' → CellWf c') : WfS (putD s k c) := fun x hx => by
  rcases mem_putD hx with hx | ⟨c', e, rfl⟩
  · exact hs x hx
  · exact hc c' e
theorem WfS.has {s : List PairD} (hs : WfS s) {k : ByteArray} {c : CellD} (h : hasD s k = some c) : CellWf c := by
  obtain ⟨x, hx, _, rfl⟩ := hasD_some h
  exact hs x (List.mem_of_getElem? hx)
theorem RightS.has {s : List PairD} (hs : RightS s) {k : ByteArray} {c : CellD} (h : hasD s k = some c) : rightC c = true := by
  obtain ⟨x, hx, _, rfl⟩ := hasD_some h
  exact (hs.1 x (List.mem_of_getElem? hx)).2
theorem rightC_kind {c : CellD} (h : rightC c = true) : (c.kind = 1 ∧ c.data.length ≤ 32) ∨ (c.kind = 2 ∧ c.data = []) := by
  unfold rightC at h
  split at h
  · rename_i h1
    simp only [Bool.and_eq_true, decide_eq_true_eq] at h
    exact .inl ⟨h1, h.1⟩
  · simp only [Bool.and_eq_true, beq_iff_eq, decide_eq_true_eq] at h
    exact .inr ⟨h.1, List.eq_nil_of_length_eq_zero h.2.1⟩
theorem WfS.step {s : List PairD} (hs : WfS s) {x : OpD} (hx : OpWf x) : WfS (stepD s x).1 := by
  obtain ⟨h1, h2, h3, _⟩ := hx
  unfold stepD
  split
  · exact hs
  · split
    · split
      · exact hs
      · exact WfS.put (s := s) (c := some ⟨1, x.data, 0, 0, 0⟩) hs (fun c' e => by injection e with e; subst e; refine ⟨?_, ?_, ?_⟩ <;> (unfold inI; dsimp only; omega))
    · split
      · split
        · exact hs
        · exact WfS.put (s := s) (c := some ⟨2, [], x.lo, x.hi, x.n⟩) hs (fun c' e => by injection e with e; subst e; exact ⟨h1, h2, h3⟩)
      · split
        · exact hs
        · rename_i c hc
          have hw := hs.has hc
          split
          · exact hs
          · split
            · exact WfS.put (s := s) (c := none) hs (fun c' e => by cases e)
            · split
              · exact hs
              · by_cases hb : (if x.act = 5 then c.val - x.n else c.val + x.n) < c.lo ∨ c.hi < (if x.act = 5 then c.val - x.n else c.val + x.n)
                · rw [if_pos hb]; exact hs
                · rw [if_neg hb]
                  refine WfS.put (s := s) (c := some ⟨2, [], c.lo, c.hi, _⟩) hs (fun c' e => ?_)
                  injection e with e
                  subst e
                  refine ⟨hw.1, hw.2.1, ?_⟩
                  have a := hw.1
                  have b := hw.2.1
                  unfold inI at *
                  dsimp only
                  omega
theorem WfS.run {s : List PairD} (hs : WfS s) {l : List OpD} (hl : ∀ x ∈ l, OpWf x) : WfS (runD s l) := by
  induction l generalizing s with
  | nil => exact hs
  | cons x t ih => exact ih (hs.step (hl x (by simp))) (fun y hy => hl y (by simp [hy]))
theorem putD_length (s : List PairD) (k : ByteArray) (c : Option CellD) : (putD s k c).length ≤ s.length + 1 := by
  unfold putD
  have := pos_le s k
  simp only [List.length_append, List.length_take, List.length_drop]
  cases c <;> simp <;> omega
theorem stepD_length (s : List PairD) (x : OpD) : (stepD s x).1.length ≤ s.length + 1 := by
  unfold stepD
  split
  · simp
  · split
    · split
      · simp
      · (dsimp only; exact putD_length s _ _)
    · split
      · split
        · simp
        · (dsimp only; exact putD_length s _ _)
      · split
        · simp
        · rename_i c hc
          split
          · simp
          · split
            · (dsimp only; exact putD_length s _ _)
            · split
              · simp
              · by_cases hb : (if x.act = 5 then c.val - x.n else c.val + x.n) < c.lo ∨ c.hi < (if x.act = 5 then c.val - x.n else c.val + x.n)
                · rw [if_pos hb]; simp
                · rw [if_neg hb]; (dsimp only; exact putD_length s _ _)
theorem runD_length (l : List OpD) (s : List PairD) : (runD s l).length ≤ s.length + l.length := by
  induction l generalizing s with
  | nil => simp [runD]
  | cons x t ih =>
    have h1 := ih (stepD s x).1
    have h2 := stepD_length s x
    simp only [runD, List.length_cons]
    omega
end Go.Proofs.YtnanlaefehaifaaGreat
