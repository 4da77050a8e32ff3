/-
  WALK OF THE LAW: moneyerlaw29.RedoScans.
-/
import Derived.Test.YtnanlaefehaifaaGreatLE
import Derived.Test.YtnanlaefehaifaaGreatXB
import Derived.Test.YtnanlaefehaifaaGreatRX
namespace Go.Proofs.YtnanlaefehaifaaGreat
open Go.RowKit

/-- Records as they came in. -/
def RecsAt (w : World) (B : Nat) (v : Value) (xs : List RecV) : Prop := SliceAt w B 15 v xs.length (xs.flatMap RecV.cells) ∧ ∀ x ∈ xs, RecOk w B x
theorem RecsAt.below {w w' : World} {B : Nat} {v : Value} {xs : List RecV} (h : RecsAt w B v xs) (hb : Below w.heap.size w w') (hB : B ≤ w.heap.size) : RecsAt w' B v xs := ⟨h.1.keep (fun _ hp => hb.cell (by omega)), fun x hx => (h.2 x hx).below hb hB⟩
def EntD.two (e : EntD) : Int × Int := (e.kind, e.txn)
def RecV.two (x : RecV) : Int × Int := (x.kind, x.txn)
/-- What the caller has of its own. -/
def OutR (v7 v8 : Value) (q : Nat) : Prop := v7.ownBlock = some q ∨ v8.ownBlock = some q
/-- What RedoScans holds between two rounds. -/
structure RsI (w : World) (l d m L : Nat) (sv mv v7 v8 : Value) (i : Nat) (gone head : Int) (wr : World) (lv pv : Value) (bs : List UInt8) (es : List EntD) (ys : List RecV) (k : Nat) (f : Int → Option Value) (sure fuse o : Int) : Prop where
  lw : LogW wr l d m L 1048576 0 sv mv lv pv (OutR v7 v8) bs es k f 0 head sure fuse o
  ki : k ≤ i
  h0 : 0 ≤ head
  h1 : head ≤ 65537 * i
  bl : bs.length ≤ 1048576
  go : 0 < gone → es = [] ∧ bs = []
  ei : es.length ≤ i
  tw : es.map EntD.two = ys.map RecV.two
  r7 : wr.ownsRow L 3 1 v7 es.length (es.map fun e => Value.int .i64 e.lsn)
  r8 : wr.ownsRow L 41 15 v8 es.length (ys.flatMap RecV.cells)
  bw : Below w.heap.size w wr
/-- .. of the rest, hidden. -/
def RsJ (w : World) (l d m L : Nat) (sv mv v7 v8 : Value) (i : Nat) (gone head : Int) (wr : World) : Prop := ∃ lv pv bs es ys k f sure fuse o, RsI w l d m L sv mv v7 v8 i gone head wr lv pv bs es ys k f sure fuse o
theorem row_log {W W' : World} {l d m L : Nat} {limit forced : Int} {sv mv lv pv : Value} {Out : Nat → Prop} {bs : List UInt8} {es : List EntD} {k : Nat} {f : Int → Option Value} {stale head sure fuse o : Int} (h : LogW W l d m L limit forced sv mv lv pv Out bs es k f stale head sure fuse o)
    (hT : Turn (fun q => q = l ∨ q = d ∨ q = m ∨ some q = lv.ownBlock ∨ some q = pv.ownBlock) W W') {t : TypeId} {s n : Nat} {v : Value} {ys : List Value} (hr : W.ownsRow L t s v n ys) (ho : ∀ q, v.ownBlock = some q → Out q) : W'.ownsRow L t s v n ys := by
  have e1 := h.ll
  have e2 := h.dl
  have e3 := h.ml
  refine row_keep hr (fun q hq => ?_)
  obtain ⟨c1, c2, c3, c4⟩ := h.oL q (ho q hq)
  refine hT.block q c2 ?_
  rintro (h1 | h1 | h1 | h1 | h1)
  · omega
  · omega
  · omega
  · exact c3 h1.symm
  · exact c4 h1.symm
theorem RsI.step {w : World} {l d m L : Nat} {sv mv v7 v8 : Value} {i : Nat} {gone head : Int} {wr wr' : World} {lv pv : Value} {bs : List UInt8} {es : List EntD} {ys : List RecV} {k : Nat} {f : Int → Option Value} {sure fuse o : Int} (h : RsI w l d m L sv mv v7 v8 i gone head wr lv pv bs es ys k f sure fuse o) (hb : Below wr.heap.size wr wr') : RsI w l d m L sv mv v7 v8 (i + 1) gone head wr' lv pv bs es ys k f sure fuse o :=
  ⟨h.lw.via hb, by have := h.ki; omega, h.h0, by have := h.h1; omega, h.bl, h.go, by have := h.ei; omega, h.tw, own_via h.r7 hb, own_via h.r8 hb, h.bw.trans (hb.mono h.bw.size)⟩
theorem own_apart {W : World} {L n1 n2 s1 s2 : Nat} {t1 t2 : TypeId} {v1 v2 : Value} {x1 x2 : List Value} (h1 : W.ownsRow L t1 s1 v1 n1 x1) (h2 : W.ownsRow L t2 s2 v2 n2 x2) (hne : t1 ≠ t2) : ∀ q, v1.ownBlock = some q → v2.ownBlock ≠ some q := by
  intro q e1 e2
  obtain ⟨c1, g1⟩ := row_obj h1 e1
  obtain ⟨c2, g2⟩ := row_obj h2 e2
  rw [g1] at g2
  injection g2 with g2
  injection g2 with _ g3 _
  exact hne g3
/-- A slice of one, just laid. -/
def ASl (W0 : World) (t : TypeId) (cs : Array Value) (v : Value) (W : World) : Prop := ∃ g, v = .slice (some ⟨g, 0, none⟩) 1 1 ∧ Blk W g t cs ∧ W0.heap.size ≤ g
/-- A row that has grown by one. -/
def ARow (W0 : World) (L : Nat) (t : TypeId) (s n : Nat) (xs : List Value) (v0 v : Value) (W : World) : Prop := ∃ A c, v = .slice A (n + 1) c ∧ W.ownsRow L t s (.slice A (n + 1) c) (n + 1) xs ∧ (v.ownBlock = v0.ownBlock ∨ ∃ g, v.ownBlock = some g ∧ W0.heap.size ≤ g)
/-- What the operations of the two appends do to the world. -/
def EOp (v7 v8 : Value) (j : Nat) (W W' : World) : Prop := (j = 3 ∧ W.grownBy W' v7.ownBlock) ∨ (j = 10 ∧ W.grownBy W' v8.ownBlock) ∨ Below W.heap.size W W'
theorem grown_below {W W' : World} (h : Below W.heap.size W W') (r : Option Nat) : W.grownBy W' r := ⟨h.os, h.tape, h.output, h.size, fun q hq _ => h.block q hq⟩
theorem EOp.grown {v7 v8 : Value} {j : Nat} {W W' : World} (h : EOp v7 v8 j W W') : ∃ r, W.grownBy W' r ∧ ∀ q, r = some q → OutR v7 v8 q := by
  rcases h with ⟨_, h⟩ | ⟨_, h⟩ | h
  · exact ⟨_, h, fun q hq => .inl hq⟩
  · exact ⟨_, h, fun q hq => .inr hq⟩
  · exact ⟨none, grown_below h none, fun q hq => by cases hq⟩
theorem ASl.keep {W0 W W' : World} {t : TypeId} {cs : Array Value} {v v7 v8 : Value} {j : Nat} (h : ASl W0 t cs v W) (hE : EOp v7 v8 j W W') (hv : ∀ q, OutR v7 v8 q → q < W0.heap.size) : ASl W0 t cs v W' := by
  obtain ⟨g, h1, h2, h3⟩ := h
  obtain ⟨r, hg, hr⟩ := hE.grown
  exact ⟨g, h1, h2.grown hg (fun e => by have := hv g (hr g e.symm); omega), h3⟩
theorem ARow.keep {W0 W W' : World} {L : Nat} {t : TypeId} {s n : Nat} {xs : List Value} {v0 v : Value} {r : Option Nat} (h : ARow W0 L t s n xs v0 v W) (hg : W.grownBy W' r) (h0 : ∀ q, r = some q → q < W0.heap.size ∧ v0.ownBlock ≠ some q) : ARow W0 L t s n xs v0 v W' := by
  obtain ⟨A, c, rfl, h2, h3⟩ := h
  refine ⟨A, c, rfl, row_keep h2 (fun q hq => hg.block q (World.ownsRow.lt h2 q hq).2 (fun e => ?_)), h3⟩
  obtain ⟨c1, c2⟩ := h0 q e.symm
  rcases h3 with h3 | ⟨g, h3, h4⟩
  · exact c2 (h3 ▸ hq)
  · rw [h3] at hq; injection hq with hq; omega
theorem info_recS : (Tryz.prog.info? 41).map (fun i => (i.zero, i.size, i.bytes)) = some (some (.agg recZ), 15, 168) := by kernel_rfl
theorem flatR_at : ∀ (l : List RecV) (p c : Nat) (x : RecV), c < 15 → l[p]? = some x → (l.flatMap RecV.cells)[p * 15 + c]? = x.cells[c]?
  | [], p, c, x, hc, hx => by simp at hx
  | y :: l, 0, c, x, hc, hx => by
    obtain rfl : y = x := by simpa using hx
    rw [List.flatMap_cons, Nat.zero_mul, Nat.zero_add, List.getElem?_append_left (by rw [RecV.cells_length]; exact hc)]
  | y :: l, p + 1, c, x, hc, hx => by
    rw [List.flatMap_cons, List.getElem?_append_right (by rw [RecV.cells_length]; omega), RecV.cells_length, show (p + 1) * 15 + c - 15 = p * 15 + c by omega]
    exact flatR_at l p c x hc (by simpa using hx)
theorem entR_of {W : World} {L : Nat} {A : Option Addr} {c : Nat} {es : List EntD} {ys : List RecV} (h : W.ownsRow L 41 15 (.slice A es.length c) es.length (ys.flatMap RecV.cells)) (ht : es.map EntD.two = ys.map RecV.two) : EntR W W.heap.size A es.length es := by
  refine ⟨rfl, fun k e he => ?_⟩
  have hk : k < es.length := (List.getElem?_eq_some_iff.1 he).1
  obtain ⟨g, cap, hv, _, hg⟩ := h.form (by omega)
  injection hv with hv _ _
  subst hv
  have hl : es.length = ys.length := by have := congrArg List.length ht; simpa using this
  obtain ⟨y, hy⟩ : ∃ y, ys[k]? = some y := ⟨_, List.getElem?_eq_getElem (by omega)⟩
  have h2 : EntD.two e = RecV.two y := by
    have := congrArg (fun l => l[k]?) ht
    simpa [he, hy] using this
  injection h2 with h3 h4
  refine ⟨g, 0, rfl, hg, ?_, ?_⟩
  · rw [Nat.zero_add, (own_cell h (k * 15) (by omega)).1]
    have := flatR_at ys k 0 y (by omega) hy
    rw [Nat.add_zero] at this
    rw [this]
    show some (Value.int .i64 y.kind) = _
    rw [show e.kind = y.kind from h3]
  · rw [Nat.zero_add, (own_cell h (k * 15 + 1) (by omega)).1, flatR_at ys k 1 y (by omega) hy]
    show some (Value.int .i64 y.txn) = _
    rw [show e.txn = y.txn from h4]
theorem atR_of {W : World} {L : Nat} {A : Option Addr} {c : Nat} {es : List EntD} (h : W.ownsRow L 3 1 (.slice A es.length c) es.length (es.map fun e => Value.int .i64 e.lsn)) : AtR W W.heap.size A es.length es := by
  refine ⟨rfl, fun k e he => ?_⟩
  have hk : k < es.length := (List.getElem?_eq_some_iff.1 he).1
  obtain ⟨g, cap, hv, _, hg⟩ := h.form (by omega)
  injection hv with hv _ _
  subst hv
  refine ⟨g, 0, rfl, hg, ?_⟩
  rw [Nat.zero_add, (own_cell h k (by omega)).1, List.getElem?_map, he]
  rfl
theorem rowT4 {W : World} {base : Nat} {v : Value} {outs : List TxD} {p : Nat} {x : TxD} (h : W.ownsRow base 53 4 v outs.length (outs.flatMap txR)) (hp : outs[p]? = some x) :
    ∃ g c, v = .slice (some ⟨g, 0, none⟩) outs.length c ∧ g < W.heap.size ∧ W.cell? ⟨g, p * 4, none⟩ = some (.int .i64 x.id) ∧ W.cell? ⟨g, p * 4 + 1, none⟩ = some (.int .i64 x.first) ∧ W.cell? ⟨g, p * 4 + 2, none⟩ = some (.int .i64 x.last) ∧ W.cell? ⟨g, p * 4 + 3, none⟩ = some (.int .i64 x.kept) := by
  have hlt : p < outs.length := (List.getElem?_eq_some_iff.1 hp).1
  obtain ⟨A, c, rfl, hnc, hcm, hnil, hr, hf⟩ := own_slice h
  obtain ⟨g, cap, hv, hg1, hg2⟩ := h.form (by omega)
  injection hv with hA _ hc
  subst hA
  refine ⟨g, c, rfl, hg2, ?_, ?_, ?_, ?_⟩
  · rw [(own_cell h (p * 4) (by omega)).1]; exact flatT_at outs p 0 x (by omega) hp
  · rw [(own_cell h (p * 4 + 1) (by omega)).1]; exact flatT_at outs p 1 x (by omega) hp
  · rw [(own_cell h (p * 4 + 2) (by omega)).1]; exact flatT_at outs p 2 x (by omega) hp
  · rw [(own_cell h (p * 4 + 3) (by omega)).1]; exact flatT_at outs p 3 x (by omega) hp
set_option maxHeartbeats 12800000 in
set_option maxRecDepth 100000 in
theorem redoScans_any (xs : List RecV) (v : Value) (gone : Int) (hg : gone ≤ 9223372036854775807) (B : Nat) (w : World) (hB : B ≤ w.heap.size) (hx : RecsAt w B v xs) :
    Calls Tryz.prog 3 #[v, .int .i64 gone] w fun e w' => e = .returned (.bool true) ∧ Below w.heap.size w w' := by
  have HX := hide hx
  have HLV := hide (fun W => live29_any W)
  obtain ⟨A, c, rfl, hc, hcm, hnil, _⟩ := hx.1
  obtain ⟨n, hn⟩ : ∃ n, n = xs.length := ⟨_, rfl⟩
  have HN := hide hn
  rw [← hn]
  clear hx hc hcm hnil hn
  by_cases h40 : (40 : Int) < n
  · go_enter Tryz.func3, Tryz.ntmps3
    go_wp2_with (go_at_call 6; refine (HLV.out _).mono ?_; rintro e w1 ⟨rfl, hb1⟩)
    go_ret
    exact ⟨rfl, hb1⟩
  have hn40 : n ≤ 40 := by omega
  have HD := hide (devNew_any w)
  go_enter Tryz.func3, Tryz.ntmps3
  go_upto_region 4 with (first
    | (go_at_call 8; refine HD.out.mono ?_; rintro e w1 ⟨d, sv, mv, rfl, kd, hd, hb1⟩; have HB1 := hide hb1; have HLD := hide (walLoad_any d 1048576 sv mv 0 0 0 w1 (by omega) (by omega) kd); have hdl := kd.lt; clear kd hb1)
    | (go_at_call 7; refine HLD.out.mono ?_; rintro e w2 ⟨l, m, o2, rfl, kl, km, kd2, hl, hm, ht2⟩))
  have hb2 : Below w.heap.size w w2 := ht2.below HB1.out HB1.out.size (fun q hq => by subst hq; exact hd)
  have hz1 := HB1.out.size
  have hl' : w.heap.size ≤ l := Nat.le_trans hz1 hl
  have hm' : w.heap.size ≤ m := Nat.le_trans hz1 hm
  have hz2 := hb2.size
  have HJ0 := hide (show RsJ w l d m w2.heap.size sv mv (.slice none 0 0) (.slice none 0 0) 0 gone 0 w2 from
    ⟨.slice none 0 0, .slice none 0 0, [], [], [], 0, fun _ => none, 0, 0, o2, ⟨⟨⟨kl, kd2, OwnB.nil _ _, World.ownsRow_nil _ _ _ _, km⟩, kl.lt, kd2.lt, km.lt, Nat.le_refl _, fun e he => (by cases he), fun q hq => (by rcases hq with hq | hq <;> cases hq)⟩, Nat.le_refl _, Int.le_refl _, by omega, by simp, fun _ => ⟨rfl, rfl⟩, Nat.le_refl _, rfl, World.ownsRow_nil _ _ _ _, World.ownsRow_nil _ _ _ _, hb2⟩⟩)
  obtain ⟨L, hL⟩ : ∃ L, L = w2.heap.size := ⟨_, rfl⟩
  rw [← hL] at HJ0 hz2
  have HLD2 := hide (And.intro (show l < L by rw [hL]; exact kl.lt) (show d < L by rw [hL]; exact kd2.lt))
  clear kl km kd2 ht2 hb2 hdl hL
  go_wp2
  go_loopw [1, 7, 8, 9, 10] (fun gv v7 v8 hv iv wr => ∃ (i : Nat) (g head : Int), i ≤ n ∧ g ≤ 9223372036854775807 ∧ gv = .int .i64 g ∧ hv = .int .i64 head ∧ iv = .int .i64 i ∧ Hid (RsJ w l d m L sv mv v7 v8 i g head wr)) (fun _ _ _ _ iv _ => n - (intOf iv).toNat)
  case atStart => exact ⟨0, gone, 0, Nat.zero_le _, hg, rfl, rfl, rfl, HJ0⟩
  case round =>
    obtain ⟨i, g, head, hi, hgm, rfl, rfl, rfl, hJ⟩ := hrel
    obtain ⟨lv, pv, bs, es, ys, k, f, sure, fuse, o, hI⟩ := hJ.out
    obtain ⟨A7, c7, rfl, _, _, _, _⟩ := own_slice hI.r7
    obtain ⟨A8, c8, rfl, _, _, _, _⟩ := own_slice hI.r8
    obtain ⟨ne, hne⟩ : ∃ ne, ne = es.length := ⟨_, rfl⟩
    have HNE := hide hne
    rw [← hne] at hI ⊢
    have HI := hide hI
    have hbw := hI.bw
    have HBW := hide hbw
    have hzw := hbw.size
    have hLW := hI.lw.LW
    have hke := hI.ki
    have hei : ne ≤ i := by rw [hne]; exact hI.ei
    clear hI hJ hne hbw
    by_cases hlt : (i : Int) < n
    · have hlt' : i < xs.length := by have := HN.out; omega
      obtain ⟨b, o', c', x, e0, hb, hxi, _, _, hcell⟩ := SliceAt.at_ RecV.cells_length (by omega) (HX.out.below HBW.out hB).1 hlt'
      injection e0 with e1 e2 e3
      subst e1 e3
      have hxm : x ∈ xs := List.mem_of_getElem? hxi
      have HCL := hide hcell
      have HM := hide (much_any x B wr (Nat.le_trans hB hzw) ((HX.out.2 x hxm).below HBW.out hB))
      have HXM := hide hxm
      have c0 : wr.cell? ⟨b, o' + i * 15, none⟩ = some (.int .i64 x.kind) := hcell 0 _ rfl
      have c1 : wr.cell? ⟨b, o' + i * 15 + 1, none⟩ = some (.int .i64 x.txn) := hcell 1 _ rfl
      have c2 : wr.cell? ⟨b, o' + i * 15 + 2, none⟩ = some (.int .i64 x.prev) := hcell 2 _ rfl
      have c3 : wr.cell? ⟨b, o' + i * 15 + 3, none⟩ = some (.int .i64 x.next) := hcell 3 _ rfl
      have c4 : wr.cell? ⟨b, o' + i * 15 + 4, none⟩ = some (x.pv) := hcell 4 _ rfl
      have c5 : wr.cell? ⟨b, o' + i * 15 + 5, none⟩ = some (.int .i64 x.undo.act) := hcell 5 _ rfl
      have c6 : wr.cell? ⟨b, o' + i * 15 + 6, none⟩ = some (.string x.undo.key) := hcell 6 _ rfl
      have c7' : wr.cell? ⟨b, o' + i * 15 + 7, none⟩ = some (.int .i64 x.undo.state) := hcell 7 _ rfl
      have c8' : wr.cell? ⟨b, o' + i * 15 + 8, none⟩ = some (.string x.undo.ikey) := hcell 8 _ rfl
      have c9 : wr.cell? ⟨b, o' + i * 15 + 9, none⟩ = some (.int .i64 x.undo.cell.kind) := hcell 9 _ rfl
      have c10 : wr.cell? ⟨b, o' + i * 15 + 10, none⟩ = some (x.undo.cv) := hcell 10 _ rfl
      have c11 : wr.cell? ⟨b, o' + i * 15 + 11, none⟩ = some (.int .i64 x.undo.cell.lo) := hcell 11 _ rfl
      have c12 : wr.cell? ⟨b, o' + i * 15 + 12, none⟩ = some (.int .i64 x.undo.cell.hi) := hcell 12 _ rfl
      have c13 : wr.cell? ⟨b, o' + i * 15 + 13, none⟩ = some (.int .i64 x.undo.cell.val) := hcell 13 _ rfl
      have c14 : wr.cell? ⟨b, o' + i * 15 + 14, none⟩ = some (.int .i64 x.undo.n) := hcell 14 _ rfl
      have s0 : (0 : Int) ≤ i := by omega
      clear hcell hxi hxm
      go_upto_region 14 with (first
        | (go_at_call 9; refine HM.out.mono ?_; rintro e w1 ⟨bb, rfl, hbb, hb1⟩; have HBB := hide hbb; have HB2 := hide hb1; clear hbb hb1; cases bb)
        | (go_at_call 6; refine (HLV.out _).mono ?_; rintro e w9 ⟨rfl, hb9⟩; have HB9 := hide hb9; clear hb9))
      · have hb2 := HB2.out
        have hbw1 : Below w.heap.size w w1 := HBW.out.trans (hb2.mono hzw)
        have hlw1 := HI.out.lw.via hb2
        have hcell : ∀ j u, x.cells[j]? = some u → w1.cell? ⟨b, o' + i * 15 + j, none⟩ = some u := fun j u hu => (hb2.cell (p := ⟨b, o' + i * 15 + j, none⟩) (by simp; omega)).trans (HCL.out j u hu)
        have HAP := hide (walAppend_any l d m L 1048576 0 sv mv lv pv bs (es.map EntD.lsn) k f 0 head sure fuse o x B w1 hlw1.s hlw1.LW (by omega) ⟨HI.out.h0, by have := HI.out.h1; omega⟩ (by have := HI.out.bl; omega) (by rw [List.length_map]; have := HI.out.ei; omega) (by omega) (HBB.out (by first | rfl | trivial)) (Nat.le_trans hB hbw1.size) (Nat.le_trans hB (Nat.le_trans (by omega) hd)) (Nat.le_trans hB (by have := HLD2.out.1; omega)) ((HX.out.2 x HXM.out).below hbw1 hB))
        clear c0 c1 c2 c3 c4 c5 c6 c7' c8' c9 c10 c11 c12 c13 c14
        have c0 : w1.cell? ⟨b, o' + i * 15, none⟩ = some (.int .i64 x.kind) := hcell 0 _ rfl
        have c1 : w1.cell? ⟨b, o' + i * 15 + 1, none⟩ = some (.int .i64 x.txn) := hcell 1 _ rfl
        have c2 : w1.cell? ⟨b, o' + i * 15 + 2, none⟩ = some (.int .i64 x.prev) := hcell 2 _ rfl
        have c3 : w1.cell? ⟨b, o' + i * 15 + 3, none⟩ = some (.int .i64 x.next) := hcell 3 _ rfl
        have c4 : w1.cell? ⟨b, o' + i * 15 + 4, none⟩ = some (x.pv) := hcell 4 _ rfl
        have c5 : w1.cell? ⟨b, o' + i * 15 + 5, none⟩ = some (.int .i64 x.undo.act) := hcell 5 _ rfl
        have c6 : w1.cell? ⟨b, o' + i * 15 + 6, none⟩ = some (.string x.undo.key) := hcell 6 _ rfl
        have c7' : w1.cell? ⟨b, o' + i * 15 + 7, none⟩ = some (.int .i64 x.undo.state) := hcell 7 _ rfl
        have c8' : w1.cell? ⟨b, o' + i * 15 + 8, none⟩ = some (.string x.undo.ikey) := hcell 8 _ rfl
        have c9 : w1.cell? ⟨b, o' + i * 15 + 9, none⟩ = some (.int .i64 x.undo.cell.kind) := hcell 9 _ rfl
        have c10 : w1.cell? ⟨b, o' + i * 15 + 10, none⟩ = some (x.undo.cv) := hcell 10 _ rfl
        have c11 : w1.cell? ⟨b, o' + i * 15 + 11, none⟩ = some (.int .i64 x.undo.cell.lo) := hcell 11 _ rfl
        have c12 : w1.cell? ⟨b, o' + i * 15 + 12, none⟩ = some (.int .i64 x.undo.cell.hi) := hcell 12 _ rfl
        have c13 : w1.cell? ⟨b, o' + i * 15 + 13, none⟩ = some (.int .i64 x.undo.cell.val) := hcell 13 _ rfl
        have c14 : w1.cell? ⟨b, o' + i * 15 + 14, none⟩ = some (.int .i64 x.undo.n) := hcell 14 _ rfl
        have HCL1 := hide hcell
        have HW1 := hide hlw1
        have HBW1 := hide hbw1
        clear hcell hlw1 hbw1 hb2
        go_upto_region 15 with (go_at_call 10; refine HAP.out.mono ?_; rintro e w3 (⟨⟨rfl, h3⟩ | ⟨rfl, h3⟩, hb3⟩ | ⟨bs2, lv2, pv2, y, L1, H1, o3, rfl, a1, a2, a3, a4, a5, a6, a7, a8, a9, a10, a11, a12, a13, a14, a15, a16, a17⟩))
        · have HI3 := hide (HI.out.step (HB2.out.trans (hb3.mono HB2.out.size)))
          clear h3 hb3
          go_wp2_with (go_at_call 11; refine (code29_any _ _).mono ?_; rintro e w' ⟨rfl, hw'⟩; obtain rfl := hw'.symm)
          go_roundw
          case rel => exact ⟨i + 1, g, head, by omega, hgm, rfl, rfl, by go_num, hide ⟨lv, pv, bs, es, ys, k, f, sure, fuse, o, HI3.out⟩⟩
          case measure => simp [intOf]; omega
        · have HI3 := hide (HI.out.step (HB2.out.trans (hb3.mono HB2.out.size)))
          clear h3 hb3
          go_wp2_with (go_at_call 11; refine (code29_any _ _).mono ?_; rintro e w' ⟨rfl, hw'⟩; obtain rfl := hw'.symm)
          go_roundw
          case rel => exact ⟨i + 1, g, head, by omega, hgm, rfl, rfl, by go_num, hide ⟨lv, pv, bs, es, ys, k, f, sure, fuse, o, HI3.out⟩⟩
          case measure => simp [intOf]; omega
        · have hhd : 0 ≤ head ∧ head ≤ 10000000 := ⟨HI.out.h0, by have := HI.out.h1; omega⟩
          have hA := HW1.out.app hhd (by omega) a1 a3 a4 a6 a7 a8 a9 a10 a11 a12 a13 a14 a15 a16 a17
          have hbw3 : Below w.heap.size w w3 := a17.below HBW1.out HBW1.out.size (HW1.out.ge hl' hd hm')
          have hr7 := row_log HW1.out a17 (own_via HI.out.r7 HB2.out) (fun q hq => .inl hq)
          have hr8 := row_log HW1.out a17 (own_via HI.out.r8 HB2.out) (fun q hq => .inr hq)
          have hcell : ∀ j u, x.cells[j]? = some u → w3.cell? ⟨b, o' + i * 15 + j, none⟩ = some u := fun j u hu => (World.cell?_of_block (w := w1) (by
            refine a17.block b (by have := HBW1.out.size; omega) (fun hq => ?_)
            have := HW1.out.ge hl' hd hm' b hq
            omega)).trans (HCL1.out j u hu)
          clear c0 c1 c2 c3 c4 c5 c6 c7' c8' c9 c10 c11 c12 c13 c14
          have hyp := a10.ok.1.1.form
          have hyu := a10.ok.2
          have HA := hide hA
          have HS6 := hide a6
          have HB3 := hide hbw3
          have HR7 := hide hr7
          have HR8 := hide hr8
          have HCL3 := hide hcell
          have HOK := hide a4
          clear hA a6 a7 a8 a9 a10 a11 a12 a13 a14 a15 a16 a17 hbw3 hr7 hr8 a4 a5
          obtain ⟨p, hp⟩ : ∃ p, p = head + ((bs.length + bs2.length : Nat) : Int) := ⟨_, rfl⟩
          have HP := hide hp
          rw [show head + ((bs.length : Int) + (bs2.length : Int)) = p by rw [hp, Int.natCast_add]]
          clear hp
          go_upto_region 16 with (go_at_call 11; refine (code29_any _ _).mono ?_; rintro e w' ⟨rfl, hw'⟩; obtain rfl := hw'.symm)
          by_cases hgt : (ne : Int) < g
          · obtain ⟨hes, hbs⟩ := HI.out.go (by omega)
            have HES := hide hes
            have HBS := hide hbs
            obtain ⟨Ay, cy, ey, _⟩ := hyp
            obtain ⟨Au, nu, cu, eu, _⟩ := hyu
            have hA2 := HA.out
            rw [hes, hbs] at hA2
            simp only [List.nil_append] at hA2
            have HA2 := hide hA2
            have HFR := hide (walFree1_any l d m L 1048576 0 sv mv lv2 pv2 bs2 p (k + 1) _ y 0 head sure fuse o3 w3 (by have h9 := hA2.s; rw [show p = head + ((([] : List UInt8).length + bs2.length : Nat) : Int) by rw [HP.out, hbs]]; exact h9) hA2.LW (by omega) (by omega) (by omega) (by omega) hhd.1 (by omega) (by rw [HP.out, hbs]; simp) (by rw [show p = head + ((([] : List UInt8).length + bs2.length : Nat) : Int) by rw [HP.out, hbs]]; exact if_pos rfl) ⟨_, _, _, ey⟩ ⟨_, _, _, eu⟩)
            clear hes hbs hA2
            go_upto_region 18 with (go_at_call 12; refine HFR.out.mono ?_; rintro e w4 hF; obtain ⟨rfl, lv4, pv4, f4, o4, hw4, ht4⟩ := HA2.out.free hF; have HW4 := hide hw4; have HT4 := hide ht4; clear hF hw4 ht4)
            have hr7' := row_log HA2.out HT4.out HR7.out (fun q hq => .inl hq)
            have hr8' := row_log HA2.out HT4.out HR8.out (fun q hq => .inr hq)
            have hb4 : Below w.heap.size w w4 := HT4.out.below HB3.out HB3.out.size (HA2.out.ge hl' hd hm')
            have hpp : p = head + (bs2.length : Nat) := by rw [HP.out, HBS.out]; simp
            have hge : 0 ≤ g - 1 := by omega
            have hgl : g - 1 ≤ 9223372036854775807 := by omega
            have hne0 : ne = 0 := by rw [HNE.out, HES.out]; rfl
            have hp65 : p ≤ 65537 * ((i + 1 : Nat) : Int) := by have := HI.out.h1; omega
            have hp0 : 0 ≤ p := by omega
            have htw := HI.out.tw
            rw [HES.out] at htw
            have hr8e : w4.ownsRow L 41 15 (.slice A8 ne c8) ([] : List EntD).length (ys.flatMap RecV.cells) := by have h9 := hr8'; rw [HES.out] at h9; exact h9
            have hr7e : w4.ownsRow L 3 1 (.slice A7 ne c7) ([] : List EntD).length (([] : List EntD).map fun e => Value.int .i64 e.lsn) := by have h9 := hr7'; rw [HES.out] at h9; exact h9
            have HJ4 := hide (show RsJ w l d m L sv mv (.slice A7 ne c7) (.slice A8 ne c8) (i + 1) (g - 1) p w4 from ⟨lv4, pv4, [], [], ys, k + 1, f4, max sure p, fuse, o4, ⟨HW4.out, by omega, hp0, hp65, by simp, fun _ => ⟨rfl, rfl⟩, Nat.zero_le _, htw, hr7e, hr8e, hb4⟩⟩)
            clear hr7' hr8' hb4 hpp hne0 hp65 hp0 htw hr8e hr7e
            go_wp2
            go_roundw
            case rel => exact ⟨i + 1, g - 1, p, by omega, hgl, rfl, rfl, by go_num, HJ4⟩
            case measure => simp [intOf]; omega
          · have hg0 : g ≤ 0 := by
              rcases Int.lt_or_le 0 g with h9 | h9
              · have h8 := (HI.out.go h9).1
                have : ne = 0 := by rw [HNE.out, h8]; rfl
                omega
              · exact h9
            clear hyp hyu HOK
            obtain ⟨i0, hi0, hz0, hz1, hz2⟩ := info_parts info_intR
            obtain ⟨j0, hj0, hy0, hy1, hy2⟩ := info_parts info_recS
            have HI0 := hide (And.intro hi0 (And.intro hz0 (And.intro hz1 hz2)))
            have HJ0' := hide (And.intro hj0 (And.intro hy0 (And.intro hy1 hy2)))
            clear hi0 hz0 hz1 hz2 hj0 hy0 hy1 hy2
            have hr7 := HR7.out
            have hr8 := HR8.out
            rw [← HNE.out] at hr7 hr8
            have h78 := own_apart hr7 hr8 (by decide)
            have hov : ∀ q, OutR (.slice A7 ne c7) (.slice A8 ne c8) q → q < w3.heap.size := fun q hq => (HA.out.oL q hq).2.1
            have hon : ∀ u ∈ x.cells, u.oneCell' = true := by
              have hok := HX.out.2 x HXM.out
              obtain ⟨Au, nu, cu, eu, _⟩ := hok.2
              have e1 := hok.1.1.one
              intro u hu
              simp only [RecV.cells, List.mem_cons, List.not_mem_nil, or_false] at hu
              rcases hu with rfl | rfl | rfl | rfl | rfl | rfl | rfl | rfl | rfl | rfl | rfl | rfl | rfl | rfl | rfl
              all_goals first | rfl | exact e1 | (rw [eu]; rfl)
            have HR7' := hide hr7
            have HR8' := hide hr8
            have H78 := hide h78
            have HOV := hide hov
            have HON := hide hon
            have hLb : b < L := by have := HBW.out.size; have := HLD2.out.1; omega
            have HG3 := hide (fun (W : World) (hG : Turn (OutR (.slice A7 ne c7) (.slice A8 ne c8)) w3 W) => (show ∀ j u, x.cells[j]? = some u → W.cell? ⟨b, o' + i * 15 + j, none⟩ = some u from fun j u hu => (World.cell?_of_block (w := w3) (by
              refine hG.block b (by have := HB3.out.size; omega) (fun hq => ?_)
              have := (HA.out.oL b hq).1
              omega)).trans (HCL3.out j u hu)))
            clear hr7 hr8 h78 hov hon
            go_upto_region 20 with (fail)
            refine wp_region_inv_tailE 11 [fun v _ => v = .slice A7 ne c7, fun v _ => v = .int .i64 p, ASl w3 3 #[.int .i64 p], ARow w3 L 3 1 ne ((es.map fun e => Value.int .i64 e.lsn) ++ [Value.int .i64 p]) (.slice A7 ne c7), fun v _ => v = .slice A8 ne c8, fun v _ => v = .slice (some ⟨b, o', none⟩) n c, fun v _ => v = .int .i64 i, fun v _ => v = .pointer (some ⟨b, o' + i * 15, none⟩), fun v _ => v = recV x, ASl w3 41 x.cells.toArray, ARow w3 L 41 15 ne (ys.flatMap RecV.cells ++ x.cells) (.slice A8 ne c8)]
              (Turn (OutR (.slice A7 ne c7) (.slice A8 ne c8)) w3) (fun i W => (i = 3 → W.ownsRow L 3 1 (.slice A7 ne c7) ne (es.map fun e => Value.int .i64 e.lsn)) ∧ (i = 10 → W.ownsRow L 41 15 (.slice A8 ne c8) ne (ys.flatMap RecV.cells))) (EOp (.slice A7 ne c7) (.slice A8 ne c8)) ?hg ?hpr ?hdr ?hp0 (by kernel_rfl) (by kernel_rfl) (by kernel_rfl) (by kernel_rfl) (by kernel_rfl) (by first | simp | decide) (by kernel_rfl) ?st ?steps ?fin
            case hg =>
              intro k W W' hG hE
              obtain ⟨r, hgr, hr⟩ := EOp.grown hE
              exact Turn.trans hG (Turn.of_grown hgr (fun q hq => hr q hq.symm))
            case hpr =>
              rintro i j W W' hij hE ⟨h3, h10⟩
              refine ⟨fun hi3 => ?_, fun hi10 => ?_⟩
              · rcases hE with ⟨hj, hgr⟩ | ⟨hj, hgr⟩ | hb
                · exact absurd (hi3.trans hj.symm) hij
                · exact row_keep (h3 hi3) (fun q hq => hgr.block q (World.ownsRow.lt (h3 hi3) q hq).2 (fun e => H78.out q hq e.symm))
                · exact own_via (h3 hi3) hb
              · rcases hE with ⟨hj, hgr⟩ | ⟨hj, hgr⟩ | hb
                · exact row_keep (h10 hi10) (fun q hq => hgr.block q (World.ownsRow.lt (h10 hi10) q hq).2 (fun e => H78.out q e.symm hq))
                · exact absurd (hi10.trans hj.symm) hij
                · exact own_via (h10 hi10) hb
            case hdr => exact Turn.of_below (Below.refl _ _).drew
            case hp0 => exact fun i => ⟨fun _ => row_keep HR7'.out (fun _ _ => rfl), fun _ => row_keep HR8'.out (fun _ _ => rfl)⟩
            case st =>
              intro i j v W W' hij hE h
              match i with
              | 0 | 1 | 4 | 5 | 6 | 7 | 8 => exact h
              | 2 => exact ASl.keep h hE HOV.out
              | 9 => exact ASl.keep h hE HOV.out
              | 3 =>
                rcases hE with ⟨hj, hgr⟩ | ⟨hj, hgr⟩ | hb
                · exact absurd hj.symm hij
                · exact ARow.keep h hgr (fun q hq => ⟨HOV.out q (.inr hq), fun e => H78.out q e hq⟩)
                · exact ARow.keep h (grown_below hb none) (fun q hq => by cases hq)
              | 10 =>
                rcases hE with ⟨hj, hgr⟩ | ⟨hj, hgr⟩ | hb
                · exact ARow.keep h hgr (fun q hq => ⟨HOV.out q (.inl hq), fun e => H78.out q hq e⟩)
                · exact absurd hj.symm hij
                · exact ARow.keep h (grown_below hb none) (fun q hq => by cases hq)
              | (i + 11) => exact h
            case steps =>
              simp only [stepsE, List.take_succ_cons, List.take_zero]
              refine ⟨?_, ?_, ?_, ?_, ?_, ?_, ?_, ?_, ?_, ?_, ?_, trivial⟩
              · intro f W hG hP hdp
                simp only [fillF, Act.put, List.setIfInBounds_toArray, List.set_cons_succ, List.set_cons_zero, Nat.reduceAdd]
                go_wp2
                exact ⟨rfl, _, rfl, rfl, .inr (.inr (Below.refl _ _))⟩
              · intro f W hG hP hdp
                simp only [fillF, Act.put, List.setIfInBounds_toArray, List.set_cons_succ, List.set_cons_zero, Nat.reduceAdd]
                go_wp2
                exact ⟨rfl, _, rfl, rfl, .inr (.inr (Below.refl _ _))⟩
              · intro f W hG hP hdp
                have e1 : f 1 = .int .i64 p := hdp ⟨1, .data⟩ (List.mem_filter.2 ⟨by simp, rfl⟩)
                simp only [fillF, Act.put, List.setIfInBounds_toArray, List.set_cons_succ, List.set_cons_zero, Nat.reduceAdd, e1]
                go_wp2
                exact ⟨rfl, _, rfl, ⟨W.heap.size, rfl, Blk.new _ _ _, hG.size⟩, .inr (.inr ((Below.refl _ _).alloc (Nat.le_refl _) _))⟩
              · intro f W hG hP hdp
                have e0 : f 0 = .slice A7 ne c7 := hdp ⟨0, .data⟩ (List.mem_filter.2 ⟨by simp, rfl⟩)
                obtain ⟨g3, e2, k3, _⟩ : ASl w3 3 #[.int .i64 p] (f 2) W := hdp ⟨2, .data⟩ (List.mem_filter.2 ⟨by simp, rfl⟩)
                have hLz : L ≤ W.heap.size := Nat.le_trans HA.out.LW hG.size
                have hGz := hG.size
                have hP3 := hP.1 rfl
                simp only [fillF, Act.put, List.setIfInBounds_toArray, List.set_cons_succ, List.set_cons_zero, Nat.reduceAdd, e0, e2]
                refine wpList_append_any _ rfl _ _ _ rfl L 3 i0 _ 1 8 Tryz.underlying30 HI0.out.1 HI0.out.2.1 HI0.out.2.2.1 HI0.out.2.2.2 rfl (by omega) (.slice A7 ne c7) ne _ rfl hP3 (g3 + 1) (some ⟨g3, 0, none⟩) 1 1 [.int .i64 p] rfl (Reads.of_blk (n := 1) (size := 1) k3 rfl) (fun u hu => by rw [List.mem_singleton] at hu; subst hu; rfl) (by unfold maxLen; omega) (by omega) hLz ?_
                intro v' w' hown hgr hloc
                obtain ⟨A', c', rfl, _⟩ := own_slice hown
                have HOWN := hide hown
                have HGR := hide hgr
                have HLOC := hide hloc
                clear hown hgr hloc
                go_wp2
                exact ⟨rfl, _, rfl, ⟨A', c', rfl, HOWN.out, HLOC.out.imp id (fun h => ⟨_, h, hGz⟩)⟩, .inl ⟨rfl, HGR.out⟩⟩
              · intro f W hG hP hdp
                simp only [fillF, Act.put, List.setIfInBounds_toArray, List.set_cons_succ, List.set_cons_zero, Nat.reduceAdd]
                go_wp2
                exact ⟨rfl, _, rfl, rfl, .inr (.inr (Below.refl _ _))⟩
              · intro f W hG hP hdp
                simp only [fillF, Act.put, List.setIfInBounds_toArray, List.set_cons_succ, List.set_cons_zero, Nat.reduceAdd]
                go_wp2
                exact ⟨rfl, _, rfl, rfl, .inr (.inr (Below.refl _ _))⟩
              · intro f W hG hP hdp
                simp only [fillF, Act.put, List.setIfInBounds_toArray, List.set_cons_succ, List.set_cons_zero, Nat.reduceAdd]
                go_wp2
                exact ⟨rfl, _, rfl, rfl, .inr (.inr (Below.refl _ _))⟩
              · intro f W hG hP hdp
                have e5 : f 5 = .slice (some ⟨b, o', none⟩) n c := hdp ⟨5, .data⟩ (List.mem_filter.2 ⟨by simp, rfl⟩)
                have e6 : f 6 = .int .i64 i := hdp ⟨6, .data⟩ (List.mem_filter.2 ⟨by simp, rfl⟩)
                simp only [fillF, Act.put, List.setIfInBounds_toArray, List.set_cons_succ, List.set_cons_zero, Nat.reduceAdd, e5, e6]
                go_wp2
                exact ⟨rfl, _, rfl, rfl, .inr (.inr (Below.refl _ _))⟩
              · intro f W hG hP hdp
                have e7 : f 7 = .pointer (some ⟨b, o' + i * 15, none⟩) := hdp ⟨7, .data⟩ (List.mem_filter.2 ⟨by simp, rfl⟩)
                have hcell := HG3.out W hG
                have c0 : W.cell? ⟨b, o' + i * 15, none⟩ = some (.int .i64 x.kind) := hcell 0 _ rfl
                have c1 : W.cell? ⟨b, o' + i * 15 + 1, none⟩ = some (.int .i64 x.txn) := hcell 1 _ rfl
                have c2 : W.cell? ⟨b, o' + i * 15 + 2, none⟩ = some (.int .i64 x.prev) := hcell 2 _ rfl
                have c3 : W.cell? ⟨b, o' + i * 15 + 3, none⟩ = some (.int .i64 x.next) := hcell 3 _ rfl
                have c4 : W.cell? ⟨b, o' + i * 15 + 4, none⟩ = some (x.pv) := hcell 4 _ rfl
                have c5 : W.cell? ⟨b, o' + i * 15 + 5, none⟩ = some (.int .i64 x.undo.act) := hcell 5 _ rfl
                have c6 : W.cell? ⟨b, o' + i * 15 + 6, none⟩ = some (.string x.undo.key) := hcell 6 _ rfl
                have c7' : W.cell? ⟨b, o' + i * 15 + 7, none⟩ = some (.int .i64 x.undo.state) := hcell 7 _ rfl
                have c8' : W.cell? ⟨b, o' + i * 15 + 8, none⟩ = some (.string x.undo.ikey) := hcell 8 _ rfl
                have c9 : W.cell? ⟨b, o' + i * 15 + 9, none⟩ = some (.int .i64 x.undo.cell.kind) := hcell 9 _ rfl
                have c10 : W.cell? ⟨b, o' + i * 15 + 10, none⟩ = some (x.undo.cv) := hcell 10 _ rfl
                have c11 : W.cell? ⟨b, o' + i * 15 + 11, none⟩ = some (.int .i64 x.undo.cell.lo) := hcell 11 _ rfl
                have c12 : W.cell? ⟨b, o' + i * 15 + 12, none⟩ = some (.int .i64 x.undo.cell.hi) := hcell 12 _ rfl
                have c13 : W.cell? ⟨b, o' + i * 15 + 13, none⟩ = some (.int .i64 x.undo.cell.val) := hcell 13 _ rfl
                have c14 : W.cell? ⟨b, o' + i * 15 + 14, none⟩ = some (.int .i64 x.undo.n) := hcell 14 _ rfl
                clear hcell
                simp only [fillF, Act.put, List.setIfInBounds_toArray, List.set_cons_succ, List.set_cons_zero, Nat.reduceAdd, e7]
                go_wp2
                exact ⟨rfl, _, rfl, rfl, .inr (.inr (Below.refl _ _))⟩
              · intro f W hG hP hdp
                have e8 : f 8 = recV x := hdp ⟨8, .data⟩ (List.mem_filter.2 ⟨by simp, rfl⟩)
                unfold recV at e8
                simp only [fillF, Act.put, List.setIfInBounds_toArray, List.set_cons_succ, List.set_cons_zero, Nat.reduceAdd, e8]
                go_wp2
                exact ⟨rfl, _, rfl, ⟨W.heap.size, rfl, Blk.new _ _ _, hG.size⟩, .inr (.inr ((Below.refl _ _).alloc (Nat.le_refl _) _))⟩
              · intro f W hG hP hdp
                have e0 : f 4 = .slice A8 ne c8 := hdp ⟨4, .data⟩ (List.mem_filter.2 ⟨by simp, rfl⟩)
                obtain ⟨g3, e2, k3, _⟩ : ASl w3 41 x.cells.toArray (f 9) W := hdp ⟨9, .data⟩ (List.mem_filter.2 ⟨by simp, rfl⟩)
                have hLz : L ≤ W.heap.size := Nat.le_trans HA.out.LW hG.size
                have hGz := hG.size
                have hP3 := hP.2 rfl
                simp only [fillF, Act.put, List.setIfInBounds_toArray, List.set_cons_succ, List.set_cons_zero, Nat.reduceAdd, e0, e2]
                refine wpList_append_any _ rfl _ _ _ rfl L 41 j0 _ 15 168 Tryz.underlying22 HJ0'.out.1 HJ0'.out.2.1 HJ0'.out.2.2.1 HJ0'.out.2.2.2 rfl (by omega) (.slice A8 ne c8) ne _ rfl hP3 (g3 + 1) (some ⟨g3, 0, none⟩) 1 1 x.cells rfl (Reads.of_blk (n := 1) (size := 15) k3 rfl) HON.out (by unfold maxLen; omega) (by omega) hLz ?_
                intro v' w' hown hgr hloc
                obtain ⟨A', c', rfl, _⟩ := own_slice hown
                have HOWN := hide hown
                have HGR := hide hgr
                have HLOC := hide hloc
                clear hown hgr hloc
                go_wp2
                exact ⟨rfl, _, rfl, ⟨A', c', rfl, HOWN.out, HLOC.out.imp id (fun h => ⟨_, h, hGz⟩)⟩, .inr (.inl ⟨rfl, HGR.out⟩)⟩
            case fin =>
              intro f W hG hA
              have ne0 : ne = es.length := HNE.out
              obtain ⟨A9, c9', e3, r3, l3⟩ : ARow w3 L 3 1 ne ((es.map fun e => Value.int .i64 e.lsn) ++ [Value.int .i64 p]) (.slice A7 ne c7) (f 3) W := hA 3 (by omega)
              obtain ⟨A10, c10', e10, r10, l10⟩ : ARow w3 L 41 15 ne (ys.flatMap RecV.cells ++ x.cells) (.slice A8 ne c8) (f 10) W := hA 10 (by omega)
              simp only [List.drop_succ_cons, List.drop_zero, List.take_succ_cons, List.take_zero, fillF, Act.put, List.setIfInBounds_toArray, List.set_cons_succ, List.set_cons_zero, Nat.reduceAdd, e3, e10]
              rw [e3] at l3
              rw [e10] at l10
              have hout : ∀ q, OutR (.slice A9 (ne + 1) c9') (.slice A10 (ne + 1) c10') q → OutR (.slice A7 ne c7) (.slice A8 ne c8) q ∨ (w3.heap.size ≤ q ∧ q < W.heap.size) := by
                rintro q (hq | hq)
                · rcases l3 with h1 | ⟨g', h1, h2⟩
                  · exact .inl (.inl (h1 ▸ hq))
                  · rw [h1] at hq; injection hq with hq; subst hq; exact .inr ⟨h2, (World.ownsRow.lt r3 _ h1).2⟩
                · rcases l10 with h1 | ⟨g', h1, h2⟩
                  · exact .inl (.inr (h1 ▸ hq))
                  · rw [h1] at hq; injection hq with hq; subst hq; exact .inr ⟨h2, (World.ownsRow.lt r10 _ h1).2⟩
              have hlw9 := HA.out.turn hG hout
              have hbw9 : Below w.heap.size w W := hG.below HB3.out HB3.out.size (fun q hq => by have := (HA.out.oL q hq).1; omega)
              have htw := HI.out.tw
              have h65 := HI.out.h1
              have hlen : (es ++ [(⟨head + (bs.length + bs2.length : Nat), x.kind, x.txn⟩ : EntD)]).length = ne + 1 := by rw [List.length_append, ne0]; rfl
              have HJ9 := hide (show RsJ w l d m L sv mv (.slice A9 (ne + 1) c9') (.slice A10 (ne + 1) c10') (i + 1) g head W from ⟨lv2, pv2, bs ++ bs2, es ++ [⟨head + (bs.length + bs2.length : Nat), x.kind, x.txn⟩], ys ++ [x], k + 1, _, sure, fuse, o3,
                ⟨hlw9, by omega, hhd.1, by omega, by rw [List.length_append]; omega, fun h9 => absurd h9 (by omega), by rw [hlen]; omega, by rw [List.map_append, List.map_append, htw]; rfl, by rw [hlen, List.map_append]; have h9 := r3; rw [HP.out] at h9; exact h9, by rw [hlen, List.flatMap_append]; simpa using r10, hbw9⟩⟩)
              clear r3 r10 l3 l10 hout hlw9 hbw9 htw h65 hlen hA ne0
              go_wp2
              go_roundw
              case rel => exact ⟨i + 1, g, head, by omega, hgm, rfl, rfl, by go_num, HJ9⟩
              case measure => simp [intOf]; omega
      · go_ret
        exact ⟨rfl, HBW.out.trans ((HB2.out.trans (HB9.out.mono HB2.out.size)).mono hzw)⟩
    · have hlw := HI.out.lw
      obtain ⟨Al, cl, hlv, _⟩ := own_slice hlw.s.ol
      have hkd := hlw.s.kd
      rw [hlv] at hkd
      have hes : es.length ≤ 40 := by have := HI.out.ei; omega
      have HES := hide hes
      have HLO := hide (wLosers_any l m k L d 1048576 0 0 pv sv mv Al bs.length cl 0 head sure fuse o f es wr (by omega) hlw.kinds hlw.toR hkd)
      have HRL := hide (fun W (hb : Below wr.heap.size wr W) => rLosers_any head A7 es.length c7 A8 es.length c8 es wr.heap.size W hb.size (by omega)
        ((entR_of (by have h9 := HI.out.r8; rw [← HNE.out] at h9; rw [← HNE.out]; exact h9) HI.out.tw).below hb (Nat.le_refl _)) ((atR_of (by have h9 := HI.out.r7; rw [← HNE.out] at h9; rw [← HNE.out]; exact h9)).below hb (Nat.le_refl _)) hlw.kinds)
      have HCO := hide (fun W (hb : Below wr.heap.size wr W) => wCommits_any l m k L _ pv f es W (by omega) (hlw.via hb).toR)
      have HRC := hide (fun W (hb : Below wr.heap.size wr W) => rCommits_any A8 es.length c8 es wr.heap.size W hb.size (by omega) ((entR_of (by have h9 := HI.out.r8; rw [← HNE.out] at h9; rw [← HNE.out]; exact h9) HI.out.tw).below hb (Nat.le_refl _)))
      have HKN := hide hlw.kinds
      rw [← HNE.out] at HRL HRC
      clear hlw hkd hlv hes
      go_upto_region 22 with (first
        | (go_at_call 13; refine HLO.out.mono ?_; rintro e w1 ⟨A2, c2, ts, hts, hmem, rfl, hrow, hb1⟩; have HTS := hide hts; have HMM := hide hmem; have HROW := hide hrow; have HB2 := hide hb1; clear hts hmem hrow hb1)
        | (go_at_call 14; refine (HRL.out _ HB2.out).mono ?_; rintro e w2 ⟨⟨A3, c3, outs, href, rfl, hrow⟩, hb2⟩; have HREF := hide href; have HROW3 := hide hrow; have HB3 := hide hb2; clear href hrow hb2))
      have hout : outs = ts.map (losT head es) := RefL.same (by have h9 := HREF.out; rw [HNE.out] at h9; exact h9) HKN.out HTS.out HMM.out
      have hlo : outs.length = ts.length := by rw [hout, List.length_map]
      have hrA : w2.ownsRow wr.heap.size 53 4 (.slice A2 outs.length c2) outs.length (outs.flatMap txR) := by
        have h9 := own_via HROW.out HB3.out
        rw [← hlo, ← hout] at h9
        exact h9
      obtain ⟨nt, hnt⟩ : ∃ nt, nt = outs.length := ⟨_, rfl⟩
      have hb2' : Below wr.heap.size wr w2 := HB2.out.trans (HB3.out.mono HB2.out.size)
      rw [← hlo, ← hnt]
      have HNT := hide hnt
      have HRA := hide hrA
      have HB2' := hide hb2'
      have HCL := hide (commitsD_length es)
      obtain ⟨nc, hnc⟩ : ∃ nc, nc = (commitsD es).length := ⟨_, rfl⟩
      have HNC := hide hnc
      have HCO2 := HCO.out w2 hb2'
      have HRC2 := HRC.out
      rw [← hnc] at HCO2 HRC2
      have HCO := hide HCO2
      have HRC := hide HRC2
      have hnc1 : nc ≤ 1000000 := by have := HCL.out; have := HES.out; omega
      clear hout hlo hnt hrA hb2' hnc HCO2 HRC2 HTS HMM
      go_upto_region 24 with (first
        | (go_at_call 16; refine HCO.out.mono ?_; rintro e w3 ⟨⟨A4, c4, rfl, hr4⟩, hb4⟩; have HR4 := hide hr4; have HB4 := hide (HB2'.out.trans (hb4.mono HB2'.out.size)); have HB4s := hide hb4; clear hr4 hb4)
        | (go_at_call 17; refine (HRC.out w3 HB4.out).mono ?_; rintro e w4 ⟨⟨A5, c5, rfl, hr5⟩, hb5⟩; have HR5 := hide hr5; have HB5 := hide hb5; clear hr5 hb5)
        | (go_at_call 15; refine (SameList_any A4 A5 nc c4 nc c5 (commitsD es) (commitsD es) w4.heap.size w4 hnc1 hnc1 ⟨HNC.out, (Reads.of_own (own_via HR4.out HB5.out))⟩ ⟨HNC.out, Reads.of_own HR5.out⟩).mono ?_; rintro e w5 ⟨he, hb6⟩; rw [show numsEq (commitsD es) (commitsD es) = true by simp [numsEq]] at he; subst he; have HB6 := hide hb6; clear hb6))
      have hb24 : Below w2.heap.size w2 w4 := HB4s.out.trans (HB5.out.mono HB4s.out.size)
      have hb25 : Below w2.heap.size w2 w5 := hb24.trans (HB6.out.mono hb24.size)
      have HRA5 := hide (own_via HRA.out hb25)
      have HRB5 := hide (own_via HROW3.out hb25)
      have hbw5 : Below w.heap.size w w5 := (HBW.out.trans (HB2'.out.mono HBW.out.size)).trans (hb25.mono (by have := HBW.out.size; have := HB2'.out.size; omega))
      have HBW5 := hide hbw5
      have hnt40 : (nt : Int) ≤ 9223372036854775807 := by
        obtain ⟨_, _, e9, h1, h2, _⟩ := own_slice HRA5.out
        injection e9 with _ _ e9
        subst e9
        unfold maxLen at h2
        have := HNT.out
        omega
      have HLN := hide (fun W => wLosers_nil W)
      have HCN := hide (fun W => wCommits_nil W)
      clear hb24 hb25 hbw5
      go_wp2
      go_loopw [15] (fun iv wx => ∃ j : Nat, j ≤ nt ∧ iv = .int .i64 j ∧ Below w5.heap.size w5 wx) (fun iv _ => nt - (intOf iv).toNat)
      case atStart => exact ⟨0, Nat.zero_le _, rfl, Below.refl _ _⟩
      case round =>
        obtain ⟨j, hj, rfl, hbx⟩ := hrel
        by_cases hjt : (j : Int) < nt
        · have hjl : j < outs.length := by have := HNT.out; omega
          obtain ⟨x, hx⟩ : ∃ x, outs[j]? = some x := ⟨_, List.getElem?_eq_getElem hjl⟩
          obtain ⟨g1, k1, hv1, hg1, p0, p1, p2, p3⟩ := rowT4 (own_via HRA5.out hbx) hx
          obtain ⟨g2, k2, hv2, hg2, q0, q1, q2, q3⟩ := rowT4 (own_via HRB5.out hbx) hx
          injection hv1 with hv1 _ hv1'
          injection hv2 with hv2 _ hv2'
          subst hv1 hv1' hv2 hv2'
          have u0 : (0 : Int) ≤ j := by omega
          have HBX := hide hbx
          clear hx hbx hjl
          go_wp2
          go_quiet (fail)
          go_wp2
          go_roundw
          case rel => exact ⟨j + 1, by omega, by go_num, below_drewN HBX.out _⟩
          case measure => simp [intOf]; omega
        · have HBX := hide hbx
          clear hbx
          go_wp2_with (first
            | (go_at_call 13; refine (HLN.out _).mono ?_; rintro e w6 ⟨⟨A6, c6, rfl⟩, hb6⟩; have HB7 := hide hb6; clear hb6)
            | (go_at_call 16; refine (HCN.out _).mono ?_; rintro e w7 ⟨⟨A9, c9, rfl⟩, hb7⟩; have HB8 := hide hb7; clear hb7)
            | (go_at_call 6; refine (HLV.out _).mono ?_; rintro e w8 ⟨rfl, hb8⟩; have HB9 := hide hb8; clear hb8))
          go_ret
          have h1 := HBW5.out.trans (HBX.out.mono HBW5.out.size)
          have h2 := h1.trans (HB7.out.mono h1.size)
          have h3 := h2.trans (HB8.out.mono h2.size)
          exact ⟨rfl, h3.trans (HB9.out.mono h3.size)⟩
end Go.Proofs.YtnanlaefehaifaaGreat
