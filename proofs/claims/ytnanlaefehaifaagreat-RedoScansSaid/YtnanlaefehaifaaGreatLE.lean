/-
  THE LOG WITH ITS RECORDS, as it grows. WALK: moneyerlaw29.live.
-/
import Derived.Test.YtnanlaefehaifaaGreatLB
import Derived.Test.YtnanlaefehaifaaGreatLC
import Derived.Test.YtnanlaefehaifaaGreatLD
import Derived.Test.YtnanlaefehaifaaGreatRZn
import Derived.Test.YtnanlaefehaifaaGreatXA
import Derived.Test.YtnanlaefehaifaaGreatRZ
namespace Go.Proofs.YtnanlaefehaifaaGreat
open Go.RowKit

theorem Turn.below {S : Nat → Prop} {a w w' : World} {B : Nat} (h : Turn S w w') (hb : Below B a w) (hB : B ≤ w.heap.size) (hS : ∀ q, S q → B ≤ q) : Below B a w' :=
  ⟨h.os.trans hb.os, h.tape.trans hb.tape, h.output.trans hb.output, Nat.le_trans hb.size h.size, fun q hq => (h.block q (Nat.lt_of_lt_of_le hq hB) (fun hs => by have := hS q hs; omega)).trans (hb.block q hq)⟩
/-- A record that lies where nothing of the log's own does. -/
def RecL (W : World) (L : Nat) (lv pv : Value) (Out : Nat → Prop) (f : Int → Option Value) (top : Int) (e : EntD) : Prop :=
  e.lsn ≤ top ∧ (Lit.int .i64 e.lsn).wf = true ∧ (Lit.int .i64 e.txn).wf = true ∧ (1 ≤ e.kind ∧ e.kind ≤ 4) ∧ ∃ y L1 H1, f e.lsn = some (recV y) ∧ y.kind = e.kind ∧ y.txn = e.txn ∧ RecSm y ∧ RecIn W L1 H1 y ∧ L ≤ L1 ∧ H1 ≤ W.heap.size ∧ (∀ q, lv.ownBlock = some q → q < L1 ∨ H1 ≤ q) ∧ (∀ q, pv.ownBlock = some q → q < L1 ∨ H1 ≤ q) ∧ (∀ q, Out q → q < L1 ∨ H1 ≤ q)
structure LogW (W : World) (l d m L : Nat) (limit forced : Int) (sv mv lv pv : Value) (Out : Nat → Prop) (bs : List UInt8) (es : List EntD) (k : Nat) (f : Int → Option Value) (stale head sure fuse o : Int) : Prop where
  s : LogS W l d m L limit forced sv mv lv pv bs (es.map EntD.lsn) k f stale head sure fuse o
  ll : l < L
  dl : d < L
  ml : m < L
  LW : L ≤ W.heap.size
  rc : ∀ e ∈ es, RecL W L lv pv Out f (head + bs.length) e
  oL : ∀ q, Out q → L ≤ q ∧ q < W.heap.size ∧ lv.ownBlock ≠ some q ∧ pv.ownBlock ≠ some q
section
variable {W W' : World} {l d m L : Nat} {limit forced : Int} {sv mv lv pv : Value} {Out : Nat → Prop} {bs : List UInt8} {es : List EntD} {k : Nat} {f : Int → Option Value} {stale head sure fuse o : Int}
theorem LogW.via (h : LogW W l d m L limit forced sv mv lv pv Out bs es k f stale head sure fuse o) (hb : Below W.heap.size W W') : LogW W' l d m L limit forced sv mv lv pv Out bs es k f stale head sure fuse o :=
  ⟨h.s.via hb, h.ll, h.dl, h.ml, Nat.le_trans h.LW hb.size, fun e he => by
    obtain ⟨g1, g2, g3, g4, y, L1, H1, a1, a2, a3, a4, a5, a6, a7, a8, a9⟩ := h.rc e he
    exact ⟨g1, g2, g3, g4, y, L1, H1, a1, a2, a3, a4, a5.keep (fun q _ hq => hb.block q (Nat.lt_of_lt_of_le hq a7)), a6, Nat.le_trans a7 hb.size, a8, a9⟩, fun q hq => ⟨(h.oL q hq).1, Nat.lt_of_lt_of_le (h.oL q hq).2.1 hb.size, (h.oL q hq).2.2⟩⟩
theorem LogW.toR (h : LogW W l d m L limit forced sv mv lv pv Out bs es k f stale head sure fuse o) : LogR W W.heap.size l m k L (logC d limit 0 forced m pv) pv f es :=
  ⟨⟨h.s.kl, rfl, h.s.mf, fun e he => by
    obtain ⟨g1, g2, g3, g4, y, L1, H1, a1, a2, a3, a4, a5, a6, a7, a8, a9⟩ := h.rc e he
    exact ⟨g2, g3, y, L1, H1, a1, a2, a3, a4, a5, a7⟩, Nat.lt_of_lt_of_le h.ll h.LW, Nat.lt_of_lt_of_le h.ml h.LW⟩, rfl, by have := h.s.op; rw [List.length_map, List.map_map] at this; exact this⟩
theorem LogW.kinds (h : LogW W l d m L limit forced sv mv lv pv Out bs es k f stale head sure fuse o) : ∀ e ∈ es, 1 ≤ e.kind ∧ e.kind ≤ 4 := fun e he => (h.rc e he).2.2.2.1
theorem LogW.ge (h : LogW W l d m L limit forced sv mv lv pv Out bs es k f stale head sure fuse o) {N : Nat} (h1 : N ≤ l) (h2 : N ≤ d) (h3 : N ≤ m) : ∀ q, (q = l ∨ q = d ∨ q = m ∨ some q = lv.ownBlock ∨ some q = pv.ownBlock) → N ≤ q := by
  have e1 := h.ll
  rintro q (rfl | rfl | rfl | hq | hq)
  · exact h1
  · exact h2
  · exact h3
  · have := (h.s.ol.lt q hq.symm).1; omega
  · have := (World.ownsRow.lt h.s.op q hq.symm).1; omega
/-- One record more. -/
theorem LogW.app {lv' pv' : Value} {bs2 : List UInt8} {x y : RecV} {L1 H1 : Nat} {o' : Int} (h : LogW W l d m L limit forced sv mv lv pv Out bs es k f stale head sure fuse o) (hh : 0 ≤ head ∧ head ≤ 10000000) (hl2 : limit ≤ 2000000) (h6 : 6 ≤ bs2.length) (hlim : bs.length + bs2.length ≤ limit) (hok : okR x)
    (hS : LogS W' l d m L limit forced sv mv lv' pv' (bs ++ bs2) (es.map EntD.lsn ++ [head + (bs.length + bs2.length : Nat)]) (k + 1) (fun q => if q = head + (bs.length + bs2.length : Nat) then some (recV y) else f q) stale head sure fuse o')
    (hk : y.kind = x.kind) (ht : y.txn = x.txn) (hsm : RecSm y) (hin : RecIn W' L1 H1 y) (hL1 : W.heap.size ≤ L1) (hH1 : H1 ≤ W'.heap.size) (hlv : ∀ q, lv'.ownBlock = some q → q < L1) (hpv : ∀ q, pv'.ownBlock = some q → q < L1 ∨ H1 ≤ q)
    (hlo : lv'.ownBlock = lv.ownBlock ∨ ∃ g, lv'.ownBlock = some g ∧ W.heap.size ≤ g) (hpo : pv'.ownBlock = pv.ownBlock ∨ ∃ g, pv'.ownBlock = some g ∧ W.heap.size ≤ g) (hT : Turn (fun q => q = l ∨ q = d ∨ q = m ∨ some q = lv.ownBlock ∨ some q = pv.ownBlock) W W') :
    LogW W' l d m L limit forced sv mv lv' pv' Out (bs ++ bs2) (es ++ [⟨head + (bs.length + bs2.length : Nat), x.kind, x.txn⟩]) (k + 1) (fun q => if q = head + (bs.length + bs2.length : Nat) then some (recV y) else f q) stale head sure fuse o' := by
  refine ⟨by rw [List.map_append]; exact hS, h.ll, h.dl, h.ml, Nat.le_trans h.LW hT.size, fun e he => ?_, fun q hq => ?_⟩
  rotate_left
  · obtain ⟨c1, c2, c3, c4⟩ := h.oL q hq
    refine ⟨c1, Nat.lt_of_lt_of_le c2 hT.size, fun e => ?_, fun e => ?_⟩
    · rcases hlo with h1 | ⟨g, h1, h2⟩
      · exact c3 (h1 ▸ e)
      · rw [h1] at e; injection e with e; omega
    · rcases hpo with h1 | ⟨g, h1, h2⟩
      · exact c4 (h1 ▸ e)
      · rw [h1] at e; injection e with e; omega
  rcases List.mem_append.1 he with he | he
  · obtain ⟨g1, g2, g3, g4, y', L1', H1', a1, a2, a3, a4, a5, a6, a7, a8, a9, a10⟩ := h.rc e he
    refine ⟨by rw [List.length_append]; omega, g2, g3, g4, y', L1', H1', ?_, a2, a3, a4, a5.keep (fun q hq1 hq2 => hT.block q (Nat.lt_of_lt_of_le hq2 a7) ?_), a6, Nat.le_trans a7 hT.size, fun q hq => ?_, fun q hq => ?_, a10⟩
    · dsimp only
      rw [if_neg (by omega)]
      exact a1
    · have e1 := h.ll
      have e2 := h.dl
      have e3 := h.ml
      rintro (hq | hq | hq | hq | hq)
      · omega
      · omega
      · omega
      · have := a8 q hq.symm; omega
      · have := a9 q hq.symm; omega
    · rcases hlo with h1 | ⟨g, h1, h2⟩
      · exact a8 q (h1 ▸ hq)
      · rw [h1] at hq; injection hq with hq; exact .inr (by omega)
    · rcases hpo with h1 | ⟨g, h1, h2⟩
      · exact a9 q (h1 ▸ hq)
      · rw [h1] at hq; injection hq with hq; exact .inr (by omega)
  · obtain rfl := List.mem_singleton.1 he
    obtain ⟨o1, o2, o3, o4, _⟩ := hok
    refine ⟨by rw [List.length_append]; dsimp only; omega, WalkArith.wf_i64 ⟨by dsimp only; omega, by dsimp only; omega⟩, WalkArith.wf_i64 ⟨by dsimp only; omega, by dsimp only; omega⟩, ⟨o1, o2⟩, y, L1, H1, ?_, hk, ht, hsm, hin, Nat.le_trans h.LW hL1, hH1, fun q hq => .inl (hlv q hq), hpv, fun q hq => .inl (Nat.lt_of_lt_of_le (h.oL q hq).2.1 hL1)⟩
    dsimp only
    rw [if_pos rfl]
end
/-- The caller writes into memory of its own. -/
theorem LogW.turn {W W' : World} {l d m L : Nat} {limit forced : Int} {sv mv lv pv : Value} {Out Out' : Nat → Prop} {bs : List UInt8} {es : List EntD} {k : Nat} {f : Int → Option Value} {stale head sure fuse o : Int}
    (h : LogW W l d m L limit forced sv mv lv pv Out bs es k f stale head sure fuse o) (hT : Turn Out W W') (hO : ∀ q, Out' q → Out q ∨ (W.heap.size ≤ q ∧ q < W'.heap.size)) : LogW W' l d m L limit forced sv mv lv pv Out' bs es k f stale head sure fuse o := by
  have hlow : ∀ q, q < L → W'.heap[q]? = W.heap[q]? := fun q hq => hT.block q (Nat.lt_of_lt_of_le hq h.LW) (fun ho => by have := (h.oL q ho).1; omega)
  refine ⟨⟨(hlow l h.ll).trans h.s.kl, (hlow d h.dl).trans h.s.kd, h.s.ol.keep (fun q hq => hT.block q (h.s.ol.lt q hq).2 (fun ho => (h.oL q ho).2.2.1 hq)), row_keep h.s.op (fun q hq => hT.block q (World.ownsRow.lt h.s.op q hq).2 (fun ho => (h.oL q ho).2.2.2 hq)), h.s.mf.kept (hlow m h.ml)⟩, h.ll, h.dl, h.ml, Nat.le_trans h.LW hT.size, fun e he => ?_, fun q hq => ?_⟩
  · obtain ⟨g1, g2, g3, g4, y, L1, H1, a1, a2, a3, a4, a5, a6, a7, a8, a9, a10⟩ := h.rc e he
    refine ⟨g1, g2, g3, g4, y, L1, H1, a1, a2, a3, a4, a5.keep (fun q hq1 hq2 => hT.block q (Nat.lt_of_lt_of_le hq2 a7) (fun ho => by have := a10 q ho; omega)), a6, Nat.le_trans a7 hT.size, a8, a9, fun q hq => ?_⟩
    rcases hO q hq with ho | ⟨ho, _⟩
    · exact a10 q ho
    · exact .inr (Nat.le_trans a7 ho)
  · rcases hO q hq with ho | ⟨h1, h2⟩
    · exact ⟨(h.oL q ho).1, Nat.lt_of_lt_of_le (h.oL q ho).2.1 hT.size, (h.oL q ho).2.2⟩
    · refine ⟨Nat.le_trans h.LW h1, h2, fun e => ?_, fun e => ?_⟩
      · have := (h.s.ol.lt q e).2; omega
      · have := (World.ownsRow.lt h.s.op q e).2; omega
/-- wal.Free of the only record. -/
theorem LogW.free {W W' : World} {l d m L : Nat} {limit forced : Int} {sv mv lv pv : Value} {Out : Nat → Prop} {bs : List UInt8} {e0 : EntD} {k : Nat} {f : Int → Option Value} {p : Int} {stale head sure fuse o : Int} {e : Ending}
    (h : LogW W l d m L limit forced sv mv lv pv Out bs [e0] k f stale head sure fuse o) (hF : FreeL W l d m L limit forced sv mv pv k f p (max sure p) fuse e W') :
    e = .returned (.int .i64 0) ∧ ∃ lv' pv' f' o', LogW W' l d m L limit forced sv mv lv' pv' Out [] [] k f' 0 p (max sure p) fuse o' ∧ Turn (fun q => q = l ∨ q = d ∨ q = m ∨ some q = lv.ownBlock ∨ some q = pv.ownBlock) W W' := by
  obtain ⟨rfl, lv', pv', o', hS, h1, h2, h3⟩ := hF
  refine ⟨rfl, lv', pv', _, o', ⟨hS, h.ll, h.dl, h.ml, Nat.le_trans h.LW h3.size, fun e he => (by cases he), fun q hq => ?_⟩, h3.mono (fun q _ hq => ?_)⟩
  · obtain ⟨c1, c2, c3, c4⟩ := h.oL q hq
    exact ⟨c1, Nat.lt_of_lt_of_le c2 h3.size, fun e => by have := h1 q e; omega, by rw [h2]; exact c4⟩
  · rcases hq with hq | hq | hq | hq
    · exact .inl hq
    · exact .inr (.inl hq)
    · exact .inr (.inr (.inl hq))
    · exact .inr (.inr (.inr (.inr hq)))
/-- A record that only names its kind and its transaction. -/
def rec0 (kind txn : Int) : RecV := ⟨kind, txn, 0, 0, [], .slice none 0 0, undo0⟩
theorem rec0_ok (kind txn : Int) (w : World) : RecOk w 0 (rec0 kind txn) := ⟨⟨⟨none, 0, rfl, Nat.le_refl _, Nat.zero_le _, fun _ => rfl, Reads.none_⟩, fun x hx => by cases hx⟩, bytes_none w 0⟩
theorem rec0_sm (kind txn : Int) : RecSm (rec0 kind txn) := ⟨by simp [rec0], fun x hx => (by cases hx), by simp [rec0, UndoSm, undo0, cell0]⟩
theorem rec0_plain (kind txn : Int) (hk : kind = 1 ∨ kind = 3) (h1 : 1 ≤ txn) (h2 : txn ≤ 281474976710656) : plainR (rec0 kind txn) := ⟨hk, h1, h2, rfl, rfl, rfl, by simp [undoZ, rec0, undo0, cell0, itemZ]; rfl⟩
/-- wal.Append of a record that only names: it is taken. -/
theorem LogW.app0 {w : World} {l d m L : Nat} {limit forced : Int} {sv mv lv pv : Value} {Out : Nat → Prop} {bs : List UInt8} {es : List EntD} {k : Nat} {f : Int → Option Value} {stale head sure fuse o : Int} (h : LogW w l d m L limit forced sv mv lv pv Out bs es k f stale head sure fuse o) (kind txn : Int) (hk : kind = 1 ∨ kind = 3) (h1 : 1 ≤ txn) (h2 : txn ≤ 281474976710656)
    (hlim : 0 ≤ limit ∧ limit ≤ 2000000) (hh : 0 ≤ head ∧ head ≤ 10000000) (hbs : (bs.length : Int) + 33 ≤ limit) (hes : es.length ≤ 1000) (hkk : k ≤ 1000) :
    Calls Tryz.prog 10 #[.pointer (some ⟨l, 0, none⟩), recV (rec0 kind txn), .int .i64 0] w fun e w' => (∃ v, e = .returned v) ∧ ∃ lv' pv' bs' f' o', bs'.length = bs.length + 33 ∧ LogW w' l d m L limit forced sv mv lv' pv' Out bs' (es ++ [⟨head + (bs.length + 33 : Nat), kind, txn⟩]) (k + 1) f' stale head sure fuse o' ∧
      (lv'.ownBlock = lv.ownBlock ∨ ∃ g, lv'.ownBlock = some g ∧ w.heap.size ≤ g) ∧ (pv'.ownBlock = pv.ownBlock ∨ ∃ g, pv'.ownBlock = some g ∧ w.heap.size ≤ g) ∧ Turn (fun q => q = l ∨ q = d ∨ q = m ∨ some q = lv.ownBlock ∨ some q = pv.ownBlock) w w' := by
  have hpl := rec0_plain kind txn hk h1 h2
  refine (walAppend_any l d m L limit forced sv mv lv pv bs (es.map EntD.lsn) k f stale head sure fuse o (rec0 kind txn) 0 w h.s h.LW hlim hh (by omega) (by rw [List.length_map]; exact hes) hkk (rec0_sm kind txn) (Nat.zero_le _) (Nat.zero_le _) (Nat.zero_le _) (rec0_ok kind txn w)).mono ?_
  rintro e w' (⟨⟨_, hn⟩ | ⟨_, hn⟩, _⟩ | ⟨bs2, lv', pv', y, L1, H1, o', rfl, a1, a2, a3, a4, a5, a6, a7, a8, a9, a10, a11, a12, a13, a14, a15, a16, a17⟩)
  · exact absurd hpl hn
  · have := hn hpl; omega
  · have h33 := a5 hpl
    have hA := h.app hh hlim.2 a1 a3 a4 a6 a7 a8 a9 a10 a11 a12 a13 a14 a15 a16 a17
    rw [h33] at hA
    exact ⟨⟨_, rfl⟩, lv', pv', bs ++ bs2, _, o', by rw [List.length_append, h33], hA, a15, a16, a17⟩
/-- The records of 'live'. -/
def liveE : List EntD := [⟨33, 1, 1⟩, ⟨66, 1, 2⟩, ⟨99, 3, 1⟩]
theorem live_los (t : Int) : isLos 0 liveE t = decide (t = 2) := by
  by_cases h1 : t = 1
  · subst h1; decide
  · by_cases h2 : t = 2
    · subst h2; decide
    · simp [isLos, known, knownP, liveE, stepM, h1, h2]
theorem live_one {ts : List Int} (hs : ts.Pairwise (· < ·)) (hm : ∀ t, t ∈ ts ↔ isLos 0 liveE t = true) : ts = [2] := by
  have h2 : ∀ t, t ∈ ts ↔ t = 2 := fun t => by rw [hm, live_los]; simp
  cases ts with
  | nil => exact absurd ((h2 2).2 rfl) (by simp)
  | cons a r =>
    obtain rfl : a = 2 := (h2 a).1 (by simp)
    cases r with
    | nil => rfl
    | cons b r =>
      have hb := (h2 b).1 (by simp)
      have := (List.pairwise_cons.1 hs).1 b (by simp)
      omega
set_option maxHeartbeats 12800000 in
set_option maxRecDepth 100000 in
theorem live29_any (w : World) : Calls Tryz.prog 6 #[] w fun e w' => e = .returned (.bool true) ∧ Below w.heap.size w w' := by
  have HN := hide (devNew_any w)
  go_enter Tryz.func6, Tryz.ntmps6
  go_upto_region 2 with (first
    | (go_at_call 8; refine HN.out.mono ?_; rintro e w1 ⟨d, sv, mv, rfl, kd, hd, hb1⟩; have HB1 := hide hb1; have HLD := hide (walLoad_any d 9000 sv mv 0 0 0 w1 (by omega) (by omega) kd); have hdl := kd.lt; clear kd hb1)
    | (go_at_call 7; refine HLD.out.mono ?_; rintro e w2 ⟨l, m, o2, rfl, kl, km, kd2, hl, hm, ht2⟩))
  have hb2 : Below w.heap.size w w2 := ht2.below HB1.out HB1.out.size (fun q hq => by subst hq; exact hd)
  have hz1 := HB1.out.size
  have hl' : w.heap.size ≤ l := Nat.le_trans hz1 hl
  have hm' : w.heap.size ≤ m := Nat.le_trans hz1 hm
  have hlw2 : LogW w2 l d m w2.heap.size 9000 0 sv mv (.slice none 0 0) (.slice none 0 0) (fun _ => False) [] [] 0 (fun _ => none) 0 0 0 0 o2 := ⟨⟨kl, kd2, OwnB.nil _ _, World.ownsRow_nil _ _ _ _, km⟩, kl.lt, kd2.lt, km.lt, Nat.le_refl _, fun e he => (by cases he), fun q hq => hq.elim⟩
  have HW2 := hide hlw2
  have HB2 := hide hb2
  have HA2 := hide (hlw2.app0 1 1 (.inl rfl) (by omega) (by omega) (by omega) (by omega) (by simp) (by simp) (by omega))
  generalize w2.heap.size = L at *
  clear kl km kd2 ht2 hb2 hlw2 hdl
  go_upto_region 3 with (go_at_call 10; refine HA2.out.mono ?_; rintro e w3 ⟨⟨v3, rfl⟩, lv3, pv3, bs3, f3, o3, hs3, hw3, g1, g2, ht3⟩; have HB3 := hide (ht3.below HB2.out HB2.out.size (HW2.out.ge hl' hd hm')); have HW3 := hide hw3; clear g1 g2 ht3)
  have HA3 := hide (HW3.out.app0 1 2 (.inl rfl) (by omega) (by omega) (by omega) (by omega) (by rw [hs3]; simp) (by simp) (by omega))
  go_upto_region 4 with (go_at_call 10; refine HA3.out.mono ?_; rintro e w4 ⟨⟨v4, rfl⟩, lv4, pv4, bs4, f4, o4, hs4, hw4, g1, g2, ht4⟩; have HB4 := hide (ht4.below HB3.out HB3.out.size (HW3.out.ge hl' hd hm')); have HW4 := hide hw4; clear g1 g2 ht4)
  have HA4 := hide (HW4.out.app0 3 1 (.inr rfl) (by omega) (by omega) (by omega) (by omega) (by rw [hs4, hs3]; simp) (by simp) (by omega))
  go_upto_region 5 with (go_at_call 10; refine HA4.out.mono ?_; rintro e w5 ⟨⟨v5, rfl⟩, lv5, pv5, bs5, f5, o5, hs5, hw5, g1, g2, ht5⟩; have HB5 := hide (ht5.below HB4.out HB4.out.size (HW4.out.ge hl' hd hm')); have HW5 := hide hw5; clear g1 g2 ht5)
  have hes : ([] ++ [(⟨0 + (([] : List UInt8).length + 33 : Nat), 1, 1⟩ : EntD)] ++ [⟨0 + (bs3.length + 33 : Nat), 1, 2⟩] ++ [⟨0 + (bs4.length + 33 : Nat), 3, 1⟩]) = liveE := by rw [hs4, hs3]; rfl
  have hw6 := HW5.out
  rw [hes] at hw6
  have HW6 := hide hw6
  obtain ⟨A5, c5, hlv5, _⟩ := own_slice hw6.s.ol
  have hkd5 := hw6.s.kd
  rw [hlv5] at hkd5
  have HLO := hide (wLosers_any l m _ L d 9000 0 0 pv5 sv mv A5 bs5.length c5 0 0 0 0 o5 f5 liveE w5 (by decide) hw6.kinds hw6.toR hkd5)
  clear HA2 HA3 HA4 HW2 HW3 HW4 HW5 hes hw6 hkd5 hlv5 hs3 hs4 hs5 HB2 HB3 HB4
  go_upto_region 6 with (go_at_call 13; refine HLO.out.mono ?_; rintro e w6 ⟨A6, c6, ts, hts, hmem, rfl, hrow, hb6⟩; have HTS := hide (live_one hts hmem); have HROW := hide hrow; have HB6 := hide hb6; clear hts hmem hrow hb6)
  have hts := HTS.out
  subst hts
  obtain ⟨g, c6', hv6, _, hg6⟩ := HROW.out.form (by simp)
  injection hv6 with hv7 hv8 hv9
  subst hv7
  have r0 : w6.cell? ⟨g, 0, none⟩ = some (.int .i64 2) := (own_cell HROW.out 0 (by simp)).1
  have HCO := hide (wCommits_any l m _ L _ pv5 f5 liveE w6 (by decide) (HW6.out.via HB6.out).toR)
  have hcd : commitsD liveE = [1] := rfl
  rw [hcd] at HCO
  clear hcd hv8 hv9 HTS
  dsimp only [List.length_cons, List.length_nil]
  go_wp2_with (first
    | (go_at_call 16; refine HCO.out.mono ?_; rintro e w7 ⟨⟨A7, c7, rfl, hrow7⟩, hb7⟩; have HR7 := hide hrow7; have HB7 := hide hb7; clear hrow7 hb7)
    | (go_at_call 15; refine (SameList_any _ _ 1 _ 1 _ [1] [1] (w7.heap.size + 1) _ (by omega) (by omega) ⟨rfl, ((Reads.of_own HR7.out).alloc (Nat.le_refl _) _).more (by omega)⟩ ⟨rfl, Reads.of_blk (n := 1) (size := 1) (Blk.new _ _ _) rfl⟩).mono ?_; rintro e w8 ⟨rfl, hb8⟩; have HB8 := hide hb8; clear hb8))
  go_ret
  refine ⟨rfl, ?_⟩
  have h1 := HB5.out.trans (HB6.out.mono HB5.out.size)
  have h2 := h1.trans (HB7.out.mono h1.size)
  have h3 := h2.alloc h2.size (.cells #[.int .i64 1] 3)
  exact h3.trans (HB8.out.mono h3.size)
end Go.Proofs.YtnanlaefehaifaaGreat
