/-
  Texts of this claim, joined: DO0, DO1, DO, DT.
-/
import Derived.Test.YtnanlaefehaifaaGreatAu18
set_option maxHeartbeats 6400000
set_option maxRecDepth 100000
namespace Go.Proofs.YtnanlaefehaifaaGreat
open Go.RowKit Go.Maps Go.Shelf
def StM (s : StN) (mi mk : Nat) (A B : World) : Prop := Turn (fun q => StB s.d s.p A q ∨ MiMk mi mk q) A B
theorem StM.refl (s : StN) (mi mk : Nat) (A : World) : StM s mi mk A A := ⟨rfl, rfl, rfl, Nat.le_refl _, fun _ _ _ => rfl⟩
theorem StM.trans {s : StN} {mi mk : Nat} {A B C : World} (h : StM s mi mk A B) (k : StM s mi mk B C) : StM s mi mk A C :=
  ⟨k.os.trans h.os, k.tape.trans h.tape, k.output.trans h.output, Nat.le_trans h.size k.size, fun q hq hn =>
    (k.block q (Nat.lt_of_lt_of_le hq h.size) (fun hs => hn (by
      rcases hs with (h1 | h1 | ⟨hl, cs, h1⟩) | h1
      · exact .inl (.inl h1)
      · exact .inl (.inr (.inl h1))
      · exact .inl (.inr (.inr ⟨hl, cs, (h.block q hq hn).symm.trans h1⟩))
      · exact .inr h1))).trans (h.block q hq hn)⟩
theorem StM.of_st {s : StN} {mi mk : Nat} {A B : World} (h : StT s.d s.p A B) : StM s mi mk A B := Turn.mono h (fun _ _ e => .inl e)
theorem StM.of_mm {s : StN} {mi mk : Nat} {A B : World} (h : Turn (MiMk mi mk) A B) : StM s mi mk A B := Turn.mono h (fun _ _ e => .inr e)
theorem StM.of_below {s : StN} {mi mk : Nat} {A B : World} (h : Below A.heap.size A B) : StM s mi mk A B := Turn.of_below h
def markD (D : Nat) : Deferred := { target := .collected D, args := #[] }
def Marks (N : Nat) (W : World) (ds : List Nat) : Prop := ds.Nodup ∧ ∀ D ∈ ds, N ≤ D ∧ W.heap[D]? = some (.deferred (some []))
theorem Marks.keep {N : Nat} {W W' : World} {ds : List Nat} (h : Marks N W ds) (hk : ∀ D ∈ ds, W'.heap[D]? = W.heap[D]?) : Marks N W' ds := ⟨h.1, fun D hD => ⟨(h.2 D hD).1, (hk D hD).trans (h.2 D hD).2⟩⟩
theorem Marks.nil (N : Nat) (W : World) : Marks N W [] := ⟨List.nodup_nil, fun _ h => by cases h⟩
def takeAll (W : World) : List Nat → World
  | [] => W
  | D :: r => takeAll (W.putObj D (.deferred none)) r
theorem takeAll_block (ds : List Nat) : ∀ (W : World) (q : Nat), q ∉ ds → (takeAll W ds).heap[q]? = W.heap[q]? := by
  induction ds with
  | nil => exact fun _ _ _ => rfl
  | cons D r ih =>
    intro W q hq
    rw [List.mem_cons, not_or] at hq
    exact (ih _ q hq.2).trans (World.putObj_heap_other hq.1)
theorem takeAll_size (ds : List Nat) : ∀ (W : World), (takeAll W ds).heap.size = W.heap.size := by
  induction ds with
  | nil => exact fun _ => rfl
  | cons D r ih => intro W; exact (ih _).trans (by simp [World.putObj])
theorem takeAll_turn (ds : List Nat) : ∀ (W : World), Turn (fun q => q ∈ ds) W (takeAll W ds) := by
  intro W
  have : (takeAll W ds).os = W.os ∧ (takeAll W ds).tape = W.tape ∧ (takeAll W ds).output = W.output := by
    induction ds generalizing W with
    | nil => exact ⟨rfl, rfl, rfl⟩
    | cons D r ih => exact ih _
  exact ⟨this.1, this.2.1, this.2.2, Nat.le_of_eq (takeAll_size ds W).symm, fun q _ hq => takeAll_block ds W q hq⟩
theorem leave_marks {F : Fence} {n : Nat} {P : Program} {fn : Func} {tmps : Array Value} {R : Ending → World → Prop} {v : Value} (N : Nat) (ds : List Nat) : ∀ (W : World), Marks N W ds →
    (results fn tmps).run P (takeAll W ds) = .ok v (takeAll W ds) → R (.returned v) (takeAll W ds) → LeavesInM F n P fn tmps R (ds.map markD) .returning W := by
  induction ds with
  | nil => intro W _ h1 h2; exact ⟨_, h1, h2⟩
  | cons D r ih =>
    intro W hm h1 h2
    have hD := (hm.2 D (List.mem_cons_self ..)).2
    refine ⟨by simp, .inl ⟨D, _, rfl, run_takeDeferred hD, ih _ ⟨(List.nodup_cons.1 hm.1).2, fun E hE => ⟨(hm.2 E (List.mem_cons_of_mem _ hE)).1, ?_⟩⟩ h1 h2⟩⟩
    refine (World.putObj_heap_other (fun e => ?_)).trans (hm.2 E (List.mem_cons_of_mem _ hE)).2
    subst e
    exact (List.nodup_cons.1 hm.1).1 hE
theorem keysD_len {hd : ByteArray → Int} {head : Int} {l : List ItemD} : ∀ {ks ks' : List ByteArray}, keysD hd head l ks = some ks' → ks'.length ≤ ks.length + l.length := by
  induction l with
  | nil => intro ks ks' h; unfold keysD at h; injection h with h; subst h; simp
  | cons x r ih =>
    intro ks ks' h
    unfold keysD at h
    split at h
    · have := ih h
      simp only [List.length_cons]
      omega
    · split at h
      · cases h
      · have := ih h
        simp only [List.length_append, List.length_cons, List.length_nil] at *
        omega
theorem fitsD_some {hd : ByteArray → Int} {it : Nat → List ItemD} {head : Int} {st st' : List Nat × List ByteArray} {no : Nat} (h : fitsD hd it head st no = some st') : st'.1 = st.1 ++ [no] ∧ st'.2.length ≤ st.2.length + (it no).length := by
  unfold fitsD at h
  split at h
  · cases h
  · obtain ⟨ks, hk, rfl⟩ := Option.map_eq_some_iff.1 h
    exact ⟨rfl, keysD_len hk⟩
theorem fitsL_snoc (hd : ByteArray → Int) (it : Nat → List ItemD) (head : Int) (l : List Nat) (no : Nat) : ∀ st, fitsL hd it head (l ++ [no]) st = (fitsL hd it head l st).bind fun s => fitsD hd it head s no := by
  induction l with
  | nil =>
    intro st
    show (fitsD hd it head st no).bind (fitsL hd it head []) = fitsD hd it head st no
    cases fitsD hd it head st no <;> rfl
  | cons x r ih =>
    intro st
    show (fitsD hd it head st x).bind (fitsL hd it head (r ++ [no])) = _
    conv => rhs; unfold fitsL
    cases h : fitsD hd it head st x with
    | none => rfl
    | some s => exact ih s
theorem fitsL_none {hd : ByteArray → Int} {it : Nat → List ItemD} {head : Int} {l r : List Nat} {no : Nat} {st s : List Nat × List ByteArray} (h : fitsL hd it head l st = some s) (h2 : fitsD hd it head s no = none) : fitsL hd it head (l ++ no :: r) st = none := by
  induction l generalizing st with
  | nil =>
    unfold fitsL at h
    injection h with h
    subst h
    show (fitsD hd it head st no).bind _ = none
    rw [h2]
    rfl
  | cons x q ih =>
    unfold fitsL at h
    show (fitsD hd it head st x).bind (fitsL hd it head (q ++ no :: r)) = none
    cases hx : fitsD hd it head st x with
    | none => rfl
    | some s' =>
      rw [hx] at h
      exact ih h
theorem walkP_len {nx : Nat → Nat} {used : Nat} : ∀ (k no : Nat), (walkP nx used k no).1.length ≤ k := by
  intro k
  induction k with
  | zero => intro no; exact Nat.le_refl _
  | succ k ih =>
    intro no
    unfold walkP
    split
    · exact Nat.zero_le _
    · split
      · simp
      · have := ih (nx no)
        simp only [List.length_cons]
        omega
end Go.Proofs.YtnanlaefehaifaaGreat
namespace Go.Proofs.YtnanlaefehaifaaGreat
open Go.RowKit Go.Maps Go.Shelf
attribute [local go_sem] Oper.semAt_some
theorem ViewS.turnN {s : StN} {W W' : World} {v mi mk : Nat} {u : Int} {pin : List Nat} {keys : List ByteArray} {t : TalD} (h : ViewS s W v mi mk u pin keys t) {S : Nat → Prop} (ht : Turn S W W') (hS : ∀ q, S q → q ≠ mi ∧ q ≠ mk ∧ q ≠ s.m ∧ ∃ o, W.heap[q]? = some o ∧ o.isCells = false) : ViewS s W' v mi mk u pin keys t := by
  have hne : ∀ {q : Nat} {t : TypeId} {cs : Array Value}, Blk W q t cs → ¬ S q := by
    intro q t cs k hq
    obtain ⟨_, _, _, o, ho, hc⟩ := hS q hq
    rw [show W.heap[q]? = _ from k] at ho
    injection ho with ho
    subst ho
    cases hc
  obtain ⟨k1, h1, m1⟩ := h.hi
  obtain ⟨k2, h2, m2⟩ := h.hk
  exact ⟨h.st.keep ht (fun e => (hS _ e).2.2.1 rfl) (fun q t' cs hq k => absurd hq (hne k)), ht.blk h.kv (hne h.kv), ⟨k1, h1, m1.kept (ht.block mi m1.lt (fun e => (hS _ e).1 rfl))⟩, ⟨k2, h2, m2.kept (ht.block mk m2.lt (fun e => (hS _ e).2.1 rfl))⟩, h.im, h.ip, h.kp⟩
theorem ViewS.lts {s : StN} {W : World} {v mi mk : Nat} {u : Int} {pin : List Nat} {keys : List ByteArray} {t : TalD} (h : ViewS s W v mi mk u pin keys t) : mi < W.heap.size ∧ mk < W.heap.size ∧ s.m < W.heap.size ∧ v < W.heap.size := by
  obtain ⟨_, _, m1⟩ := h.hi
  obtain ⟨_, _, m2⟩ := h.hk
  exact ⟨m1.lt, m2.lt, h.st.dev.hm.lt, h.kv.lt⟩
def chR (s : StN) (u B : Nat) : Option (List Nat × List ByteArray) := chainsD (headI s.x.b) (itP s) (nxI s) u B 1 ([], [])
structure ChS (s : StN) (u B v mi mk B1 B2 : Nat) (t : TalD) (w : World) (k hb : Nat) (ds pin : List Nat) (keys : List ByteArray) (W : World) : Prop where
  vs : ViewS s W v mi mk u pin keys t
  st : StM s mi mk w W
  b1 : Blk W B1 145 #[.pointer (some ⟨v, 0, none⟩)]
  b2 : Blk W B2 25 #[.int .i64 0]
  bh : Blk W hb 3 #[.int .i64 (k : Nat)]
  ms : Marks w.heap.size W ds
  eq : chR s u B = chainsD (headI s.x.b) (itP s) (nxI s) u (B + 1 - k) k (pin, keys)
  pl : pin.length ≤ (k - 1) * u
  kl : keys.length ≤ 7 * pin.length
  k1 : 1 ≤ k
  kB : k ≤ B + 1
  hz : w.heap.size ≤ hb
theorem ChS.via {s : StN} {u B v mi mk B1 B2 : Nat} {t : TalD} {w W W' : World} {k hb : Nat} {ds pin : List Nat} {keys : List ByteArray} (h : ChS s u B v mi mk B1 B2 t w k hb ds pin keys W) (hb' : Below W.heap.size W W') : ChS s u B v mi mk B1 B2 t w k hb ds pin keys W' :=
  ⟨h.vs.via hb', h.st.trans (StM.of_below hb'), Blk.via hb' h.b1, Blk.via hb' h.b2, Blk.via hb' h.bh, h.ms.keep (fun D hD => hb'.block D (Array.getElem?_eq_some_iff.1 (h.ms.2 D hD).2).1), h.eq, h.pl, h.kl, h.k1, h.kB, h.hz⟩
def WalkV (s : StN) (k u N : Nat) (x : Value) (W : World) : Prop := ∃ g : Nat, x = .func (.func 199) #[] #[.pointer (some ⟨g, 0, none⟩), .pointer (some ⟨g + 1, 0, none⟩), .pointer (some ⟨g + 1 + 1, 0, none⟩)] ∧ N ≤ g ∧ Blk W g 283 #[getF s.b] ∧ Blk W (g + 1) 3 #[.int .i64 (k : Nat)] ∧ Blk W (g + 1 + 1) 3 #[.int .i64 (u : Nat)]
theorem WalkV.via {s : StN} {k u N : Nat} {x : Value} {W W' : World} (h : WalkV s k u N x W) (hb : Below W.heap.size W W') : WalkV s k u N x W' := by
  obtain ⟨g, h1, h2, h3, h4, h5⟩ := h
  exact ⟨g, h1, h2, Blk.via hb h3, Blk.via hb h4, Blk.via hb h5⟩
def ChP (s : StN) (u B v mi mk : Nat) (t : TalD) (w : World) (e : Ending) (w' : World) : Prop :=
  StoreI s w' ∧ StM s mi mk w w' ∧ ((∃ pin keys, chR s u B = some (pin, keys) ∧ e = .returned (.int .i64 0) ∧ ViewS s w' v mi mk u pin keys t) ∨ (chR s u B = none ∧ e = .returned (.int .i64 14)))
theorem results_cell_1 {fn : Func} {p : Tmp} {ty : TypeId} (h : fn.results = #[.cell p ty]) (tmps : Array Value) (w : World) (g : Nat) (v : Value) (hp : tmps.getD p undef = .pointer (some ⟨g, 0, none⟩)) (hl : (loadVar ty ⟨g, 0, none⟩).run Tryz.prog w = .ok v w) : (results fn tmps).run Tryz.prog w = .ok v w := by
  have hp' : tmps[p]?.getD undef = .pointer (some ⟨g, 0, none⟩) := by simpa using hp
  simp [results, h, hp', asAddr, hl]
def muC (a : Act) (W : World) : Nat := match (a.tmps.getD 3 undef : Value) with
  | Value.pointer (some ad) => (match W.cell? ad with | some (Value.int _ q) => 17 - q.toNat | _ => 0)
  | _ => 0
theorem StM.newS {s : StN} {mi mk : Nat} {A B C : World} (h : StM s mi mk A B) {S : Nat → Prop} (k : Turn S B C) (hS : ∀ q, S q → A.heap.size ≤ q) : StM s mi mk A C :=
  ⟨k.os.trans h.os, k.tape.trans h.tape, k.output.trans h.output, Nat.le_trans h.size k.size, fun i hi hn => (k.block i (Nat.lt_of_lt_of_le hi h.size) (fun hs => by have := hS i hs; omega)).trans (h.block i hi hn)⟩
theorem ViewS.own {s : StN} {W W' : World} {v mi mk : Nat} {u : Int} {pin : List Nat} {keys : List ByteArray} {t : TalD} (h : ViewS s W v mi mk u pin keys t) {r : Nat} {t' : TypeId} {cs : Array Value} (k : Blk W r t' cs) (ht' : stTy t' = false) (hv : r ≠ v) (T : Turn (fun q => q = r) W W') : ViewS s W' v mi mk u pin keys t := by
  obtain ⟨k1, h1, m1⟩ := h.hi
  obtain ⟨k2, h2, m2⟩ := h.hk
  obtain ⟨o1, e1, c1⟩ := m1.obj
  obtain ⟨o2, e2, c2⟩ := m2.obj
  have ne1 : mi ≠ r := by
    rintro rfl
    rw [show W.heap[mi]? = _ from k] at e1; injection e1 with e1; subst e1; cases c1
  have ne2 : mk ≠ r := by
    rintro rfl
    rw [show W.heap[mk]? = _ from k] at e2; injection e2 with e2; subst e2; cases c2
  refine ⟨h.st.keep T (fun e => h.st.dev.hm.ne k e.symm) ?_, T.blk h.kv (fun e => hv e.symm), ⟨k1, h1, m1.kept (T.block mi m1.lt ne1)⟩, ⟨k2, h2, m2.kept (T.block mk m2.lt ne2)⟩, h.im, h.ip, h.kp⟩
  rintro q t2 cs2 rfl k'
  have e := (show W.heap[q]? = _ from k).symm.trans (show W.heap[q]? = _ from k')
  injection e with e
  injection e with _ e _
  rw [← e]
  exact ht'
theorem Marks.ne {N : Nat} {W : World} {ds : List Nat} (h : Marks N W ds) {g : Nat} {t : TypeId} {cs : Array Value} (k : Blk W g t cs) : g ∉ ds := fun hm => by
  have := (h.2 g hm).2
  rw [show W.heap[g]? = _ from k] at this
  cases this
theorem elems_next {s : StN} {r : List Nat × Bool} {pre : List (List UInt8 × Int)} {x : List UInt8 × Int} (h : TNext (elemsD s r) pre x) :
    (∃ n l2, r.1 = r.1.take pre.length ++ n :: l2 ∧ r.1.take (pre.length + 1) = r.1.take pre.length ++ [n] ∧ n ∈ r.1 ∧ x = (s.pg n, 0)) ∨ (x = (zPg, 14) ∧ r.2 = false ∧ r.1.take pre.length = r.1) := by
  obtain ⟨rest, h⟩ := h
  have h1 : (elemsD s r)[pre.length]? = some x := by rw [h, List.getElem?_append_right (Nat.le_refl _)]; simp
  unfold elemsD at h1
  by_cases hl : pre.length < r.1.length
  · rw [List.getElem?_append_left (by simpa using hl), List.getElem?_map, List.getElem?_eq_getElem hl] at h1
    injection h1 with h1
    refine .inl ⟨r.1[pre.length], r.1.drop (pre.length + 1), ?_, ?_, List.getElem_mem hl, h1.symm⟩
    · conv => lhs; rw [← List.take_append_drop pre.length r.1, List.drop_eq_getElem_cons hl]
    · rw [List.take_add_one, List.getElem?_eq_getElem hl]
      rfl
  · rw [List.getElem?_append_right (by simpa using hl)] at h1
    by_cases hr : r.2 = true
    · rw [if_pos hr] at h1
      cases h1
    · rw [if_neg hr] at h1
      refine .inr ⟨?_, by simpa using hr, List.take_of_length_le (by omega)⟩
      have := List.mem_of_getElem? h1
      rw [List.mem_singleton] at this
      exact this
theorem elems_end {s : StN} {r : List Nat × Bool} (h : ∀ x ∈ elemsD s r, x.2 = 0) : r.2 = true ∧ (elemsD s r).length = r.1.length := by
  by_cases hr : r.2 = true
  · refine ⟨hr, ?_⟩
    unfold elemsD
    rw [if_pos hr]
    simp
  · have := h (zPg, 14) (by unfold elemsD; rw [if_neg hr]; simp)
    cases this
def chW (s : StN) (u k : Nat) : List Nat × Bool := walkP (nxI s) u u k
theorem chR_fits {s : StN} {u B k : Nat} {st : List Nat × List ByteArray} (hk : k ≤ B) (h : chR s u B = chainsD (headI s.x.b) (itP s) (nxI s) u (B + 1 - k) k st) (hf : fitsL (headI s.x.b) (itP s) (k : Nat) (chW s u k).1 st = none) : chR s u B = none := by
  rw [h, show B + 1 - k = (B - k) + 1 by omega]
  unfold chainsD
  unfold chW at hf
  rw [hf]
  rfl
theorem chR_short {s : StN} {u B k : Nat} {st st' : List Nat × List ByteArray} (hk : k ≤ B) (h : chR s u B = chainsD (headI s.x.b) (itP s) (nxI s) u (B + 1 - k) k st) (hf : fitsL (headI s.x.b) (itP s) (k : Nat) (chW s u k).1 st = some st') (h2 : (chW s u k).2 = false) : chR s u B = none := by
  rw [h, show B + 1 - k = (B - k) + 1 by omega]
  unfold chainsD
  unfold chW at hf h2
  rw [hf, h2]
  rfl
theorem chR_next {s : StN} {u B k : Nat} {st st' : List Nat × List ByteArray} (hk : k ≤ B) (h : chR s u B = chainsD (headI s.x.b) (itP s) (nxI s) u (B + 1 - k) k st) (hf : fitsL (headI s.x.b) (itP s) (k : Nat) (chW s u k).1 st = some st') (h2 : (chW s u k).2 = true) : chR s u B = chainsD (headI s.x.b) (itP s) (nxI s) u (B + 1 - (k + 1)) (k + 1) st' := by
  rw [h, show B + 1 - k = (B + 1 - (k + 1)) + 1 by omega]
  conv => lhs; unfold chainsD
  unfold chW at hf h2
  rw [hf, h2]
  rfl
theorem Turn.put1 {W : World} {q : Nat} {o' : Obj} : Turn (fun r => r = q) W (W.putObj q o') := ⟨rfl, rfl, rfl, by simp [World.putObj], fun _ _ hi => World.putObj_heap_other hi⟩
structure ChI (s : StN) (u v mi mk B1 hb : Nat) (t : TalD) (w : World) (ds : List Nat) (W : World) : Prop where
  st : StM s mi mk w W
  b1 : Blk W B1 145 #[.pointer (some ⟨v, 0, none⟩)]
  ms : Marks w.heap.size W ds
  si : StoreI s W
theorem ChI.put {s : StN} {u v mi mk B1 hb : Nat} {t : TalD} {w : World} {ds : List Nat} {W : World} (h : ChI s u v mi mk B1 hb t w ds W) {q : Nat} {o o' : Obj} (ho : W.heap[q]? = some o) (hc : o.isCells = false) (hq : w.heap.size ≤ q) (hm : q ≠ s.m) (hd : q ∉ ds) : ChI s u v mi mk B1 hb t w ds (W.putObj q o') := by
  have T := Turn.put1 (W := W) (q := q) (o' := o')
  have hne : ∀ {r : Nat} {t : TypeId} {cs : Array Value}, Blk W r t cs → r ≠ q := by
    rintro r t cs k rfl
    rw [show W.heap[r]? = _ from k] at ho
    injection ho with ho
    subst ho
    cases hc
  exact ⟨h.st.newS T (fun r hr => hr ▸ hq), T.blk h.b1 (hne h.b1), h.ms.keep (fun D hD => World.putObj_heap_other (fun e => hd (e ▸ hD))), h.si.keep T (fun e => hm e.symm) (fun r t' cs hr k => absurd hr (hne k))⟩
theorem ChI.rd {s : StN} {u v mi mk B1 hb : Nat} {t : TalD} {w : World} {ds : List Nat} {A B : World} (h : ChI s u v mi mk B1 hb t w ds A) (hR : StR s A B) : ChI s u v mi mk B1 hb t w ds B :=
  ⟨h.st.trans (StM.of_st hR.1), hR.blk h.b1 (by decide), h.ms.keep (fun D hD => (hR.other (h.ms.2 D hD).2 rfl).trans (h.ms.2 D hD).2.symm), hR.2.2⟩
theorem ChI.via {s : StN} {u v mi mk B1 hb : Nat} {t : TalD} {w : World} {ds : List Nat} {A B : World} (h : ChI s u v mi mk B1 hb t w ds A) (hb' : Below A.heap.size A B) : ChI s u v mi mk B1 hb t w ds B :=
  ⟨h.st.trans (StM.of_below hb'), Blk.via hb' h.b1, h.ms.keep (fun D hD => hb'.block D (Array.getElem?_eq_some_iff.1 (h.ms.2 D hD).2).1), h.si.via hb'⟩
def ChJ (s : StN) (u v mi mk B1 B2 hb k : Nat) (t : TalD) (w : World) (ds : List Nat) (st : List Nat × List ByteArray) (pre : List (List UInt8 × Int)) (W : World) : Prop :=
  ChI s u v mi mk B1 hb t w ds W ∧ (∀ x ∈ pre, x.2 = 0) ∧ Blk W B2 25 #[.int .i64 0] ∧ Blk W hb 3 #[.int .i64 (k : Nat)] ∧ ∃ pin' keys', ViewS s W v mi mk u pin' keys' t ∧
    fitsL (headI s.x.b) (itP s) (k : Nat) ((chW s u k).1.take pre.length) st = some (pin', keys') ∧ pin'.length = st.1.length + ((chW s u k).1.take pre.length).length ∧ keys'.length ≤ 7 * pin'.length
def ChX (s : StN) (u v mi mk B1 B2 B hb : Nat) (t : TalD) (w : World) (ds : List Nat) (c : Code) (W : World) : Prop := c = .ret ∧ chR s u B = none ∧ ChI s u v mi mk B1 hb t w ds W ∧ Blk W B2 25 #[.int .i64 14]
theorem ChJ.rd {s : StN} {u v mi mk B1 B2 hb k : Nat} {t : TalD} {w : World} {ds : List Nat} {st : List Nat × List ByteArray} {pre : List (List UInt8 × Int)} {A B : World} (h : ChJ s u v mi mk B1 B2 hb k t w ds st pre A) (hR : StR s A B) : ChJ s u v mi mk B1 B2 hb k t w ds st pre B := by
  obtain ⟨h1, h2, h3, h4, pin', keys', h5, h6⟩ := h
  exact ⟨h1.rd hR, h2, hR.blk h3 (by decide), hR.blk h4 (by decide), pin', keys', h5.st' hR, h6⟩
theorem ChJ.via {s : StN} {u v mi mk B1 B2 hb k : Nat} {t : TalD} {w : World} {ds : List Nat} {st : List Nat × List ByteArray} {pre : List (List UInt8 × Int)} {A B : World} (h : ChJ s u v mi mk B1 B2 hb k t w ds st pre A) (hb' : Below A.heap.size A B) : ChJ s u v mi mk B1 B2 hb k t w ds st pre B := by
  obtain ⟨h1, h2, h3, h4, pin', keys', h5, h6⟩ := h
  exact ⟨h1.via hb', h2, Blk.via hb' h3, Blk.via hb' h4, pin', keys', h5.via hb', h6⟩
theorem ChJ.put {s : StN} {u v mi mk B1 B2 hb k : Nat} {t : TalD} {w : World} {ds : List Nat} {st : List Nat × List ByteArray} {pre : List (List UInt8 × Int)} {W : World} (h : ChJ s u v mi mk B1 B2 hb k t w ds st pre W) {q : Nat} {o o' : Obj} (ho : W.heap[q]? = some o) (hc : o.isCells = false) (hq : w.heap.size ≤ q)
    (h0 : mi < w.heap.size ∧ mk < w.heap.size ∧ s.m < w.heap.size) (hd : q ∉ ds) : ChJ s u v mi mk B1 B2 hb k t w ds st pre (W.putObj q o') := by
  obtain ⟨h1, h2, h3, h4, pin', keys', h5, h6⟩ := h
  have T := Turn.put1 (W := W) (q := q) (o' := o')
  have hne : ∀ {r : Nat} {t : TypeId} {cs : Array Value}, Blk W r t cs → r ≠ q := by
    rintro r t cs k rfl
    rw [show W.heap[r]? = _ from k] at ho
    injection ho with ho
    subst ho
    cases hc
  exact ⟨h1.put ho hc hq (by omega) hd, h2, T.blk h3 (hne h3), T.blk h4 (hne h4), pin', keys', h5.turnN T (fun r hr => by subst hr; exact ⟨by omega, by omega, by omega, o, ho, hc⟩), h6⟩
theorem ChX.put {s : StN} {u v mi mk B1 B2 B hb : Nat} {t : TalD} {w : World} {ds : List Nat} {c : Code} {W : World} (h : ChX s u v mi mk B1 B2 B hb t w ds c W) {q : Nat} {o o' : Obj} (ho : W.heap[q]? = some o) (hc : o.isCells = false) (hq : w.heap.size ≤ q)
    (h0 : mi < w.heap.size ∧ mk < w.heap.size ∧ s.m < w.heap.size) (hd : q ∉ ds) : ChX s u v mi mk B1 B2 B hb t w ds c (W.putObj q o') := by
  obtain ⟨h1, h2, h3, h4⟩ := h
  have T := Turn.put1 (W := W) (q := q) (o' := o')
  refine ⟨h1, h2, h3.put ho hc hq (by omega) hd, T.blk h4 ?_⟩
  rintro rfl
  rw [show W.heap[B2]? = _ from h4] at ho
  injection ho with ho
  subst ho
  cases hc
theorem ChS.start {s : StN} {u B v mi mk B1 B2 : Nat} {t : TalD} {w : World} {k hb : Nat} {ds pin : List Nat} {keys : List ByteArray} {W : World} (h : ChS s u B v mi mk B1 B2 t w k hb ds pin keys W) : ChJ s u v mi mk B1 B2 hb k t w ds (pin, keys) [] W :=
  ⟨⟨h.st, h.b1, h.ms, h.vs.st⟩, (fun _ hx => by cases hx), h.b2, h.bh, pin, keys, h.vs, rfl, rfl, h.kl⟩
theorem ChI.own {s : StN} {u v mi mk B1 hb : Nat} {t : TalD} {w : World} {ds : List Nat} {W W' : World} (h : ChI s u v mi mk B1 hb t w ds W) {r : Nat} {t' : TypeId} {cs : Array Value} (k : Blk W r t' cs) (ht' : stTy t' = false) (hr : w.heap.size ≤ r) (h1 : B1 ≠ r) (hm : s.m < w.heap.size) (T : Turn (fun q => q = r) W W') : ChI s u v mi mk B1 hb t w ds W' := by
  refine ⟨h.st.newS T (fun q e => e ▸ hr), T.blk h.b1 h1, h.ms.keep fun D hD => T.block D (Array.getElem?_eq_some_iff.1 (h.ms.2 D hD).2).1 (fun e => Marks.ne h.ms k (e ▸ hD)), h.si.keep T (fun e => by omega) ?_⟩
  rintro q t2 cs2 rfl k'
  have e := (show W.heap[q]? = _ from k).symm.trans (show W.heap[q]? = _ from k')
  injection e with e
  injection e with _ e _
  rw [← e]
  exact ht'
theorem ChI.maps {s : StN} {u v mi mk B1 hb : Nat} {t : TalD} {w : World} {ds : List Nat} {W W' : World} (h : ChI s u v mi mk B1 hb t w ds W) (hl : mi < w.heap.size ∧ mk < w.heap.size) (h1 : ¬ MiMk mi mk B1) (T : Turn (MiMk mi mk) W W') (hs : StoreI s W') : ChI s u v mi mk B1 hb t w ds W' := by
  refine ⟨h.st.trans (StM.of_mm T), T.blk h.b1 h1, h.ms.keep fun D hD => T.block D (Array.getElem?_eq_some_iff.1 (h.ms.2 D hD).2).1 ?_, hs⟩
  have := (h.ms.2 D hD).1
  rintro (e | e) <;> omega
theorem takeAll_store {s : StN} {N : Nat} {W : World} {ds : List Nat} (h : StoreI s W) (M : Marks N W ds) (hm : s.m < N) : StoreI s (takeAll W ds) :=
  h.keep (takeAll_turn ds W) (fun e => by have := (M.2 _ e).1; omega) (fun q t cs hq k => absurd hq (M.ne k))
theorem Marks.more {N : Nat} {W : World} {ds : List Nat} (h : Marks N W ds) {D : Nat} (hD : D ∉ ds) (hN : N ≤ D) (k : W.heap[D]? = some (.deferred (some []))) : Marks N W (D :: ds) := by
  refine ⟨List.nodup_cons.2 ⟨hD, h.1⟩, fun E hE => ?_⟩
  rcases List.mem_cons.1 hE with rfl | hE
  · exact ⟨hN, k⟩
  · exact h.2 E hE
theorem wpListIn_load_rowG {F : Fence} {nf : Nat} {P : Program} {ops : Array Oper} {rest : List Oper} {o : Oper} {a : Act} {w : World} {Q : Exit → Act → World → Prop} (hw : Region.wanted o (yielded ops a.tmps) = true) (ty : TypeId) (x : Operand) (ho : o.op = .load ty x)
    (g : Nat) (hx : a.eval x = .pointer (some ⟨g, 0, none⟩)) (t : TypeId) (cs : Array Value) (d : TypeDesc) (hg : w.heap[g]? = some (.cells cs t (0, 0))) (hu : P.underlying ty = some d) (hd : (match d with | .struct _ | .array _ _ => true | _ => false) = true) (hi : (P.info? ty).map (·.size) = some cs.size)
    (h : wpListIn F nf P ops Q rest (a.put o.dst (.agg cs)) w) : wpListIn F nf P ops Q (o :: rest) a w := by
  have hrun := run_loadVar_row w g t ty cs (0, 0) d hg hu hd hi
  unfold wpListIn
  rw [if_pos hw]
  unfold Oper.wpIn
  refine ⟨?_, ?_⟩
  · simp [Oper.about, ho]
  · rw [Oper.semAt_plain F _ _ (by rw [ho]; intro c hc'; cases hc')]
    simp only [execOp, ho, hx, Instr.loadAt, Instr.sureAddr, Sem.run_bind, Sem.run_pure, Result.andThen_ok, hrun]
    exact h
end Go.Proofs.YtnanlaefehaifaaGreat
namespace Go.Proofs.YtnanlaefehaifaaGreat
open Go.RowKit Go.Maps Go.Shelf
attribute [local go_sem] Oper.semAt_some
theorem vChains_any (s : StN) (u B : Nat) (hK : StK s u) (hB : s.x.b = B) (hB16 : B ≤ 16) (hu : u ≤ 800) (hrt : ∀ no : Nat, 1 ≤ no → no < u → rightP (s.pg no) no = true) (vp mi mk : Nat) (t : TalD) (w : World) (h : ViewS s w vp mi mk u [] [] t) (hkz : ∀ no : Nat, 1 ≤ no → no < u → ∀ x ∈ itP s no, x.key.size ≤ 1000) :
    Calls Tryz.prog 89 #[ptrV vp] w (ChP s u B vp mi mk t w) := by
  have HV := hide h
  have HBB := hide hB
  have HRT := hide hrt
  have HKZ := hide hkz
  have hlts := h.lts
  have hmf : ∀ (fn : Fn) (first cap : Array Value) (w : World), (Instr.makeFunc fn first cap).run Tryz.prog w = .ok (.func fn first cap) w := fun _ _ _ _ => rfl
  clear h hB hrt hkz
  unfold ptrV
  refine (callsIn_wide (n := 9)).1 ?_
  refine callsIn_of_wp_marks Tryz.func89 rfl trivial ?_ rfl
  simp only [Tryz.ntmps89, List.size_toArray, List.length_cons, List.length_nil, Nat.reduceAdd, Nat.reduceSub, Array.replicate_succ, Array.replicate_zero, List.push_toArray, List.append_toArray, List.nil_append, List.cons_append]
  refine wpIn_wide.2 ?_
  go_upto_region 1 with (fail)
  refine gen2 (R := fun W => Code.wp _ _ _ _ W) (fun W1 kb1 kb2 hb1 hz1 => ?_)
  obtain ⟨B1, hB1⟩ : ∃ b, b = w.heap.size := ⟨_, rfl⟩
  obtain ⟨B2, hB2⟩ : ∃ b, b = w.heap.size + 1 := ⟨_, rfl⟩
  rw [← hB2, ← hB1]
  have K1 := hide (show Blk W1 B1 145 #[.pointer (some ⟨vp, 0, none⟩)] from hB1 ▸ kb1)
  have K2 := hide (show Blk W1 B2 25 #[.int .i64 0] from hB2 ▸ kb2)
  have HB1 := hide hb1
  have HN1 := hide (And.intro hB1 hB2)
  clear kb1 kb2 hb1 hB1 hB2
  go_wp2
  refine gen1 (R := fun W => Code.wp _ _ _ _ W) (fun W2 kh hb2 hz2 => ?_)
  have h0 : ChS s u B vp mi mk B1 B2 t w 1 W1.heap.size [] [] [] W2 := by
    have hb := HB1.out.trans (hb2.mono HB1.out.size)
    exact ⟨HV.out.via hb, StM.of_below hb, Blk.via hb2 K1.out, Blk.via hb2 K2.out, kh, Marks.nil _ _, by unfold chR; rw [show B + 1 - 1 = B by omega], by simp, by simp, Nat.le_refl _, by omega, HB1.out.size⟩
  have H0 := hide h0
  clear kh hb2 h0 hz2
  refine wp_loop (fun a W => ∃ (k hb : Nat) (ds pin : List Nat) (keys : List ByteArray) (u4 u5 u6 u7 u8 u9 u10 u11 u12 u13 u14 u15 u16 u17 u18 u19 u20 u21 u22 u23 u24 u25 u26 u27 u28 u29 u30 u31 u32 u33 u34 u35 u36 u37 u38 u39 u40 : Value), a = { tmps := #[.pointer (some ⟨vp, 0, none⟩), .pointer (some ⟨B1, 0, none⟩), .pointer (some ⟨B2, 0, none⟩), .pointer (some ⟨hb, 0, none⟩), u4, u5, u6, u7, u8, u9, u10, u11, u12, u13, u14, u15, u16, u17, u18, u19, u20, u21, u22, u23, u24, u25, u26, u27, u28, u29, u30, u31, u32, u33, u34, u35, u36, u37, u38, u39, u40], defers := ds.map markD } ∧ Hid (ChS s u B vp mi mk B1 B2 t w k hb ds pin keys W)) muC ⟨1, W1.heap.size, [], [], [], _, _, _, _, _, _, _, _, _, _, _, _, _, _, _, _, _, _, _, _, _, _, _, _, _, _, _, _, _, _, _, _, _, _, _, _, _, rfl, H0⟩ ?_
  rintro a W ⟨k, hb, ds, pin, keys, u4, u5, u6, u7, u8, u9, u10, u11, u12, u13, u14, u15, u16, u17, u18, u19, u20, u21, u22, u23, u24, u25, u26, u27, u28, u29, u30, u31, u32, u33, u34, u35, u36, u37, u38, u39, u40, rfl, HC⟩
  have q0 : W.cell? ⟨hb, 0, none⟩ = some (.int .i64 (k : Nat)) := HC.out.bh.cell 0
  have q1 : W.cell? ⟨B1, 0, none⟩ = some (.pointer (some ⟨vp, 0, none⟩)) := HC.out.b1.cell 0
  have q2 : W.cell? ⟨vp, 0, none⟩ = some (.pointer (some ⟨s.b, 0, none⟩)) := HC.out.vs.kv.cell 0
  obtain ⟨r1, r2, r3, r4, kbase⟩ := HC.out.vs.st.base
  have q3 : W.cell? ⟨s.b, 1, none⟩ = some (.int .i64 (B : Nat)) := by have := kbase.cell 1; rw [← HBB.out]; exact this
  have ql0 := HC.out.bh.lt
  have ql1 := HC.out.b1.lt
  have ql2 := HC.out.vs.kv.lt
  have ql3 := kbase.lt
  clear kbase
  by_cases hkB : k ≤ B
  · have hkb : decide ((k : Int) ≤ (B : Nat)) = true := decide_eq_true (by omega)
    go_wp2
    go_quiet (fail)
    go_upto_region 4 with (fail)
    refine nameW (R := fun W => Code.wp _ _ _ _ W) (fun W4 hW4 => ?_)
    have HC4 := hide (HC.out.via (show Below W.heap.size W W4 from hW4 ▸ drewN_below W nq))
    clear hW4 q0 q1 q2 q3 ql0 ql1 ql2 ql3 hkb
    have HWK := hide (fun V => (callsIn_wide (n := 9)).1 (walk_in 9 (.func (.func 36) #[.pointer (some ⟨s.b, 0, none⟩)] #[]) ⟨_, _, _, rfl⟩ (k : Nat) (u : Nat) V))
    refine wp_region_inv [fun v _ => v = .pointer (some ⟨vp, 0, none⟩), fun v _ => v = .pointer (some ⟨vp, 0, none⟩), fun v _ => v = .pointer (some ⟨vp, 0, none⟩), fun v _ => v = .pointer (some ⟨s.b, 0, none⟩), fun v _ => v = .func (.func 36) #[.pointer (some ⟨s.b, 0, none⟩)] #[], fun v _ => v = .int .i64 (k : Nat), fun v _ => v = .pointer (some ⟨vp, 0, none⟩), fun v _ => v = .pointer (some ⟨vp, 0, none⟩), fun v _ => v = .pointer (some ⟨vp, 1, none⟩), fun v _ => v = .int .i64 (u : Nat), fun v W => WalkV s k u W4.heap.size v W] (by kernel_rfl) (by kernel_rfl) (by kernel_rfl) ?st ?steps ?fin
    case st =>
      intro i v W W' hWW h
      match i with
      | 0 | 1 | 2 | 3 | 4 | 5 | 6 | 7 | 8 | 9 => exact h
      | 10 => exact h.via hWW
      | (i + 11) => exact h
    case steps =>
      simp only [stepsI]
      refine ⟨?_, ?_, ?_, ?_, ?_, ?_, ?_, ?_, ?_, ?_, ?_, trivial⟩
      · intro f W hbW hdp
        have z1 : W.cell? ⟨B1, 0, none⟩ = some (.pointer (some ⟨vp, 0, none⟩)) := (Blk.via hbW HC4.out.b1).cell 0
        have z2 := (Blk.via hbW HC4.out.b1).lt
        simp only [fS, Nat.reduceAdd]
        go_wp2
        exact ⟨rfl, _, rfl, rfl, Below.refl _ _⟩
      · intro f W hbW hdp
        have e0 : f 0 = .pointer (some ⟨vp, 0, none⟩) := hdp ⟨0, .data⟩ (mfl (by simp) rfl)
        simp only [fS, Nat.reduceAdd, e0]
        go_wp2
        exact ⟨rfl, _, rfl, rfl, Below.refl _ _⟩
      · intro f W hbW hdp
        have e1 : f 1 = .pointer (some ⟨vp, 0, none⟩) := hdp ⟨1, .data⟩ (mfl (by simp) rfl)
        simp only [fS, Nat.reduceAdd, e1]
        go_wp2
        exact ⟨rfl, _, rfl, rfl, Below.refl _ _⟩
      · intro f W hbW hdp
        have e2 : f 2 = .pointer (some ⟨vp, 0, none⟩) := hdp ⟨2, .data⟩ (mfl (by simp) rfl)
        have z1 : W.cell? ⟨vp, 0, none⟩ = some (.pointer (some ⟨s.b, 0, none⟩)) := (Blk.via hbW HC4.out.vs.kv).cell 0
        have z2 := (Blk.via hbW HC4.out.vs.kv).lt
        simp only [fS, Nat.reduceAdd, e2]
        go_wp2
        exact ⟨rfl, _, rfl, rfl, Below.refl _ _⟩
      · intro f W hbW hdp
        have e3 : f 3 = .pointer (some ⟨s.b, 0, none⟩) := hdp ⟨3, .data⟩ (mfl (by simp) rfl)
        simp only [fS, Nat.reduceAdd, e3]
        go_wp2
        exact ⟨rfl, _, rfl, rfl, Below.refl _ _⟩
      · intro f W hbW hdp
        have z1 : W.cell? ⟨hb, 0, none⟩ = some (.int .i64 (k : Nat)) := (Blk.via hbW HC4.out.bh).cell 0
        have z2 := (Blk.via hbW HC4.out.bh).lt
        simp only [fS, Nat.reduceAdd]
        go_wp2
        exact ⟨rfl, _, rfl, rfl, Below.refl _ _⟩
      · intro f W hbW hdp
        have z1 : W.cell? ⟨B1, 0, none⟩ = some (.pointer (some ⟨vp, 0, none⟩)) := (Blk.via hbW HC4.out.b1).cell 0
        have z2 := (Blk.via hbW HC4.out.b1).lt
        simp only [fS, Nat.reduceAdd]
        go_wp2
        exact ⟨rfl, _, rfl, rfl, Below.refl _ _⟩
      · intro f W hbW hdp
        have e6 : f 6 = .pointer (some ⟨vp, 0, none⟩) := hdp ⟨6, .data⟩ (mfl (by simp) rfl)
        simp only [fS, Nat.reduceAdd, e6]
        go_wp2
        exact ⟨rfl, _, rfl, rfl, Below.refl _ _⟩
      · intro f W hbW hdp
        have e7 : f 7 = .pointer (some ⟨vp, 0, none⟩) := hdp ⟨7, .data⟩ (mfl (by simp) rfl)
        simp only [fS, Nat.reduceAdd, e7]
        go_wp2
        exact ⟨rfl, _, rfl, rfl, Below.refl _ _⟩
      · intro f W hbW hdp
        have e8 : f 8 = .pointer (some ⟨vp, 1, none⟩) := hdp ⟨8, .data⟩ (mfl (by simp) rfl)
        have z1 : W.cell? ⟨vp, 1, none⟩ = some (.int .i64 (u : Nat)) := (Blk.via hbW HC4.out.vs.kv).cell 1
        have z2 := (Blk.via hbW HC4.out.vs.kv).lt
        simp only [fS, Nat.reduceAdd, e8]
        go_wp2
        exact ⟨rfl, _, rfl, rfl, Below.refl _ _⟩
      · intro f W hbW hdp
        have e4 : f 4 = .func (.func 36) #[.pointer (some ⟨s.b, 0, none⟩)] #[] := hdp ⟨4, .data⟩ (mfl (by simp) rfl)
        have e5 : f 5 = .int .i64 (k : Nat) := hdp ⟨5, .data⟩ (mfl (by simp) rfl)
        have e9 : f 9 = .int .i64 (u : Nat) := hdp ⟨9, .data⟩ (mfl (by simp) rfl)
        simp only [fS, Nat.reduceAdd, e4, e5, e9]
        go_wp2_with (go_at_call 145; refine (HWK.out _).mono ?_; rintro e w' ⟨rfl, hw'⟩)
        subst hw'
        have h3 := gen3R (w := W) (c0 := #[.func (.func 36) #[.pointer (some ⟨s.b, 0, none⟩)] #[]]) (c1 := #[.int .i64 (k : Nat)]) (c2 := #[.int .i64 (u : Nat)]) (t0 := 283) (t1 := 3) (t2 := 3) (R := fun V => Blk V W.heap.size 283 #[getF s.b] ∧ Blk V (W.heap.size + 1) 3 #[.int .i64 (k : Nat)] ∧ Blk V (W.heap.size + 1 + 1) 3 #[.int .i64 (u : Nat)] ∧ Below W.heap.size W V) (fun V a b c d _ => ⟨a, b, c, d⟩)
        exact ⟨rfl, _, rfl, ⟨W.heap.size, rfl, hbW.size, h3.1, h3.2.1, h3.2.2.1⟩, h3.2.2.2⟩
    case fin =>
      intro f W hbW hA
      have a10 : WalkV s k u W4.heap.size (f 10) W := hA 10 (by simp)
      show wpList Tryz.prog #[] (Exit.then _ _) [] _ _
      simp only [fS, Nat.reduceAdd]
      clear hA
      obtain ⟨g, e10, hg, kg0, kg1, kg2⟩ := a10
      simp only [e10]
      clear e10
      have HC5 := hide (HC4.out.via hbW)
      have HKG := hide (And.intro kg0 (And.intro kg1 kg2))
      have hz5 := hbW.size
      have HC4S := hide (show w.heap.size ≤ W4.heap.size ∧ B2 < W4.heap.size from ⟨HC4.out.st.size, HC4.out.b2.lt⟩)
      clear kg0 kg1 kg2 hbW HC4
      generalize f 0 = g_0
      generalize f 1 = g_1
      generalize f 2 = g_2
      generalize f 3 = g_3
      generalize f 4 = g_4
      generalize f 5 = g_5
      generalize f 6 = g_6
      generalize f 7 = g_7
      generalize f 8 = g_8
      generalize f 9 = g_9
      go_wp2
      obtain ⟨N0, hN0⟩ : ∃ n, n = W.heap.size := ⟨_, rfl⟩
      have hds : ∀ D ∈ ds, D < N0 := fun D hD => hN0 ▸ (Array.getElem?_eq_some_iff.1 (HC5.out.ms.2 D hD).2).1
      have hb2l : B2 < N0 := hN0 ▸ HC5.out.b2.lt
      have hbl : hb < N0 := hN0 ▸ HC5.out.bh.lt
      have hwN : w.heap.size ≤ N0 := hN0 ▸ HC5.out.st.size
      have hg1 : g < N0 := hN0 ▸ HKG.out.1.lt
      obtain ⟨hw4, hw5⟩ := HC4S.out
      have HLN := hide (show ∀ pre (x : List UInt8 × Int), TNext (elemsD s (walkP (nxI s) u u k)) pre x → x.1.length = 512 by
        intro pre x hT
        rcases elems_next hT with ⟨n, l2, _, _, hn3, rfl⟩ | ⟨rfl, _⟩
        · exact pgOf_length HV.out.st.dev (by have := hK.b.p; have := hK.ul; have := walkP_in hn3; omega)
        · rfl)
      refine (wpIn_wide (n := 9)).1 ?_
      refine wpIn_rangeFunc_st (α := List UInt8 × Int) (encs := elArg) (R := StR s) (Inv := StoreI s) (Bs := fun q => q = mi ∨ q = mk ∨ q = B2) rfl (by omega) (gf := 199) (lb := #[.pointer (some ⟨g, 0, none⟩), .pointer (some ⟨g + 1, 0, none⟩), .pointer (some ⟨g + 1 + 1, 0, none⟩)]) rfl trivial (enters_of Tryz.func199 (by kernel_rfl) rfl)
        (walk_seq 8 (by omega) s u hK (by omega) HRT.out g (g + 1) (g + 1 + 1) k (fun q => q = mi ∨ q = mk ∨ q = B2) W ?bs1 ?bs2 ?bs3 HKG.out.1 HKG.out.2.1 HKG.out.2.2 (by omega)) ?bs1 (fun _ => rfl)
        (ChJ s u vp mi mk B1 B2 hb k t w ds (pin, keys)) (fun c _ => ChX s u vp mi mk B1 B2 B hb t w ds c) (fun _ _ h => h.1.si) (fun _ _ _ h r => h.rd r) (fun _ _ _ _ r _ _ h1 h2 => r.other h1 h2)
        ?own (fun _ _ _ h => h.via ((Below.refl _ _).alloc (Nat.le_refl _) _)) ?ownx HC5.out.start
        (fun _ x a' W' => ∃ (gp : Nat) (X : Array Value), pgV x.1 = .agg X ∧ Blk W' gp 63 X ∧ a' = { tmps := #[.pointer (some ⟨vp, 0, none⟩), .pointer (some ⟨B1, 0, none⟩), .pointer (some ⟨B2, 0, none⟩), .pointer (some ⟨hb, 0, none⟩), .pointer (some ⟨gp, 0, none⟩), .int .i64 x.2, .int .i64 (k : Nat), .pointer (some ⟨vp, 0, none⟩), .pointer (some ⟨vp, 0, none⟩), .pointer (some ⟨vp, 0, none⟩), .pointer (some ⟨s.b, 0, none⟩), .pointer (some ⟨s.b, 0, none⟩), .pointer (some ⟨s.b, 1, none⟩), .pointer (some ⟨s.b, 1, none⟩), .int .i64 (B : Nat), .bool true, u16, u17, g_0, g_1, g_2, g_3, g_4, g_5, g_6, g_7, g_8, g_9, .func (.func 199) #[] #[.pointer (some ⟨g, 0, none⟩), .pointer (some ⟨g + 1, 0, none⟩), .pointer (some ⟨g + 1 + 1, 0, none⟩)], pgV x.1, .int .i64 x.2, u31, u32, u33, u34, u35, u36, u37, u38, u39, u40], defers := [] }) ?ownA ?assign ?body ?done ?stop
      case bs1 => rintro q (rfl | rfl | rfl) <;> omega
      case bs2 => rintro (h | h | h) <;> omega
      case bs3 => rintro (h | h | h) <;> omega
      case own =>
        intro pre V q o o' h hq ho hc
        exact h.put ho hc (by omega) ⟨hlts.1, hlts.2.1, hlts.2.2.1⟩ (fun hd => by have := hds q hd; omega)
      case ownx =>
        intro c pre V q o o' h hq ho hc
        exact h.put ho hc (by omega) ⟨hlts.1, hlts.2.1, hlts.2.2.1⟩ (fun hd => by have := hds q hd; omega)
      case ownA =>
        rintro pre x a' ⟨⟩ V q o o' ⟨gp, X, h1, h2, h3⟩ hq ho hc
        refine ⟨gp, X, h1, (World.putObj_heap_other ?_).trans h2, h3⟩
        rintro rfl
        rw [show V.heap[gp]? = _ from h2] at ho
        injection ho with ho
        subst ho
        cases hc
      case assign =>
        intro l pre x V K hI hT hK
        have hxl := HLN.out pre x hT
        have HX := hide (show (Tryz.prog.info? 63).map (·.size) = some (x.1.map byteV).toArray.size by rw [List.size_toArray, List.length_map, hxl]; exact info_pg)
        have HXZ := hide (show Tryz.zeroCells63.size = (x.1.map byteV).toArray.size by rw [zeros_page, List.size_toArray, List.length_map, hxl])
        have HX1 := hide (row_one x.1)
        have HXX := hide (show pgV x.1 = .agg (x.1.map byteV).toArray from rfl)
        generalize (x.1.map byteV).toArray = X at HX HXZ HX1 HXX
        obtain ⟨x1, x2⟩ := x
        have hb3 : Below V.heap.size V ((V.alloc (.cells Tryz.zeroCells63 63)).setRow V.heap.size X) := (touch_setRow _ V.heap.size X).below ((Below.refl V.heap.size V).alloc (Nat.le_refl _) _) (Nat.le_refl _)
        have kq3 : Blk ((V.alloc (.cells Tryz.zeroCells63 63)).setRow V.heap.size X) V.heap.size 63 X := setRow_heap _ V.heap.size _ _ _ _ (Blk.new V _ _)
        have HK := hide hK
        clear hK
        unfold elArg
        simp only [HXX.out] at *
        gi_wp2_with (refine wpListIn_store_row rfl 63 (.tmp 4) (.tmp 29) rfl V.heap.size X rfl rfl 63 _ (Blk.new V _ _) HX.out HXZ.out HX1.out ?_)
        exact HK.out _ _ (Turn.of_below hb3) (hI.via hb3) ⟨V.heap.size, X, rfl, kq3, rfl⟩
      case body =>
        rintro l pre x a' V hl hlp hI ⟨gp, X, hX, kp, rfl⟩ hT
        obtain ⟨hi1, hi2, hi3, hi4, pin', keys', hi5, hi6, hi7, hi8⟩ := hI
        have HI1 := hide hi1
        have HK2 := hide hi3
        have HV5 := hide hi5
        have HF := hide hi6
        have z0 : V.cell? ⟨B2, 0, none⟩ = some (.int .i64 0) := hi3.cell 0
        have z1 := hi3.frozen 0
        have z2 := hi3.lt
        have y0 : V.cell? ⟨B1, 0, none⟩ = some (.pointer (some ⟨vp, 0, none⟩)) := hi1.b1.cell 0
        have y2 := hi1.b1.lt
        have x0 : V.cell? ⟨hb, 0, none⟩ = some (.int .i64 (k : Nat)) := hi4.cell 0
        have x2 := hi4.lt
        rcases elems_next hT with ⟨n, l2, hn1, hn2, hn3, rfl⟩ | ⟨rfl, hr2, hr1⟩
        · obtain ⟨q1, q2⟩ := walkP_in hn3
          have hkl : (k - 1) * u ≤ 15 * u := Nat.mul_le_mul_right _ (by omega)
          have hpl := HC5.out.pl
          have htl : ((chW s u k).1.take pre.length).length ≤ u := by rw [List.length_take]; exact Nat.le_trans (Nat.min_le_right _ _) (walkP_len u k)
          simp only at hi7
          have HFT := hide (vFits_any s u hK (by have := HBB.out; omega) vp mi mk pin' keys' t n k V hi5 q2 (by omega) (HRT.out n q1 q2) (by omega) (by omega) (HKZ.out n q1 q2))
          have HN2 := hide hn1
          have HN3 := hide hn2
          have HI2 := hide hi2
          have HI4 := hide hi4
          have HI7 := hide hi7
          have HI8 := hide hi8
          have HKP := hide kp
          have HXs := hide (show (Tryz.prog.info? 63).map (·.size) = some X.size by
            have e : pgV (s.pg n) = .agg X := hX
            have hl := HLN.out pre _ hT
            unfold pgV at e
            injection e with e
            rw [← e, List.size_toArray, List.length_map, hl]
            exact info_pg)
          simp only [hX] at *
          clear hi1 hi2 hi3 hi4 hi5 hi6 hi7 hi8 hT hn1 hn2 hn3 kp
          gi_wp2_with (refine wpListIn_load_rowG (by simp [Region.wanted, yielded]) 63 (.tmp 4) rfl gp rfl 63 X _ HKP.out Tryz.underlying63 rfl HXs.out ?_)
          refine ⟨trivial, ?_⟩
          gi_at_call 146
          refine (CallsIn.inRound l (callsIn_wide.2 HFT.out)).mono ?_
          rintro e w2 ⟨hs2, hT2, hcase⟩
          have hT3 : Turn (fun q => q = mi ∨ q = mk ∨ q = B2) V w2 := hT2.mono (fun _ _ e => e.elim .inl (fun e => .inr (.inl e)))
          have hI2 := HI1.out.maps ⟨hlts.1, hlts.2.1⟩ (MiMk.ne HV5.out HI1.out.b1) hT2 hs2
          have hk2 := hT2.blk HK2.out (MiMk.ne HV5.out HK2.out)
          have hk4 := hT2.blk HI4.out (MiMk.ne HV5.out HI4.out)
          have HF3 := hide (show fitsL (headI s.x.b) (itP s) (k : Nat) ((walkP (nxI s) u u k).1.take pre.length) (pin, keys) = some (pin', keys') from HF.out)
          rcases hcase with ⟨pin2, keys2, hf2, rfl, hv2⟩ | ⟨hf2, rfl⟩
          · obtain ⟨g1, g2⟩ := fitsD_some hf2
            have HJ := hide (show ChJ s u vp mi mk B1 B2 hb k t w ds (pin, keys) (pre ++ [(s.pg n, 0)]) w2 by
              refine ⟨hI2, ?_, hk2, hk4, pin2, keys2, hv2, ?_, ?_, ?_⟩
              · intro y hy
                rcases List.mem_append.1 hy with hy | hy
                · exact HI2.out y hy
                · rw [List.mem_singleton] at hy; rw [hy]
              · show fitsL (headI s.x.b) (itP s) (k : Nat) ((walkP (nxI s) u u k).1.take (pre ++ [(s.pg n, (0 : Int))]).length) (pin, keys) = _
                rw [List.length_append, List.length_singleton, HN3.out, fitsL_snoc, HF3.out]
                exact hf2
              · show pin2.length = pin.length + ((walkP (nxI s) u u k).1.take (pre ++ [(s.pg n, (0 : Int))]).length).length
                have h7 : pin'.length = pin.length + ((walkP (nxI s) u u k).1.take pre.length).length := HI7.out
                rw [List.length_append, List.length_singleton, HN3.out, show pin2 = pin' ++ [n] from g1, List.length_append, List.length_append, List.length_singleton, h7]
                omega
              · have h1 : pin2 = pin' ++ [n] := g1
                have h2 : keys2.length ≤ keys'.length + (itP s n).length := g2
                have h8 := HI8.out
                rw [itP_len] at h2
                rw [h1, List.length_append, List.length_singleton]
                omega)
            clear hI2 hk2 hk4 hv2
            gi_wp2
            exact ⟨hT3, HJ.out⟩
          · have HR := hide (chR_fits hkB HC5.out.eq (show fitsL (headI s.x.b) (itP s) (k : Nat) (walkP (nxI s) u u k).1 (pin, keys) = none by rw [HN2.out]; exact fitsL_none HF3.out hf2))
            have z0 := hk2.cell 0
            have z1 := hk2.frozen 0
            have z2 := hk2.lt
            have HI5 := hide hI2
            have HK5 := hide hk2
            clear hI2 hk2 hk4
            gi_wp2
            have T1 : Turn (fun q => q = B2) w2 (w2.setCell ⟨B2, 0, none⟩ (.int .i64 14)) := Turn.set (S := fun q => q = B2) (Turn.of_below (Below.refl w2.heap.size w2)) (p := ⟨B2, 0, none⟩) (.inl rfl) _
            have hn1 := HN1.out
            refine ⟨hT3.trans (T1.mono (fun _ _ e => .inr (.inr e))), rfl, HR.out, HI5.out.own HK5.out (by decide) (by omega) (by omega) (by omega) T1, HK5.out.set_ 0 _⟩
        · have HR := hide (chR_short hkB HC5.out.eq (show fitsL (headI s.x.b) (itP s) (k : Nat) (chW s u k).1 (pin, keys) = some (pin', keys') from hr1 ▸ hi6) hr2)
          clear hi1 hi2 hi3 hi4 hi5 hi6 hi7 hi8 hT hr1 hr2
          simp only [hX]
          gi_wp2_with (refine ⟨trivial, ?_⟩)
          have T1 : Turn (fun q => q = B2) V (V.setCell ⟨B2, 0, none⟩ (.int .i64 14)) := Turn.set (S := fun q => q = B2) (Turn.of_below (Below.refl V.heap.size V)) (p := ⟨B2, 0, none⟩) (.inl rfl) _
          have hn1 := HN1.out
          refine ⟨T1.mono (fun _ _ e => .inr (.inr e)), rfl, HR.out, HI1.out.own HK2.out (by decide) (by omega) (by omega) (by omega) T1, HK2.out.set_ 0 _⟩
      case done =>
        rintro D xs V hD rfl hI hDV
        obtain ⟨hi1, hi2, hi3, hi4, pin', keys', hi5, hi6, hi7, hi8⟩ := hI
        obtain ⟨e1, e2⟩ : (chW s u k).2 = true ∧ (elemsD s (walkP (nxI s) u u k)).length = (chW s u k).1.length := elems_end hi2
        rw [e2, List.take_of_length_le (Nat.le_refl _)] at hi6 hi7
        have HR := hide (chR_next hkB HC5.out.eq hi6 e1)
        have HI1 := hide hi1
        have HK2 := hide hi3
        have HV5 := hide hi5
        have x0 : V.cell? ⟨hb, 0, none⟩ = some (.int .i64 (k : Nat)) := hi4.cell 0
        have x2 := hi4.lt
        clear hi1 hi3 hi4 hi5 hi2
        go_upto_region 3 with (fail)
        refine gen1 (R := fun W => Code.wp _ _ _ _ W) (fun V2 kh hb2 hz2 => ?_)
        have p0 := kh.cell 0
        have p1 := kh.frozen 0
        have p2 := kh.lt
        have hkk : (k : Int) + 1 ≤ 17 := by omega
        have HKH := hide kh
        have HB2 := hide hb2
        clear kh hb2
        go_wp2
        have T1 : Turn (fun q => q = V.heap.size) V2 (V2.setCell ⟨V.heap.size, 0, none⟩ (.int .i64 ((k : Int) + 1))) := Turn.set (S := fun q => q = V.heap.size) (Turn.of_below (Below.refl V2.heap.size V2)) (p := ⟨V.heap.size, 0, none⟩) (.inl rfl) _
        have kn : Blk (V2.setCell ⟨V.heap.size, 0, none⟩ (.int .i64 ((k : Int) + 1))) V.heap.size 3 #[.int .i64 ((k + 1 : Nat) : Int)] := HKH.out.set_ 0 _
        have hI2 := (HI1.out.via HB2.out)
        have hv2 := HV5.out.via HB2.out
        have hwV := HI1.out.st.size
        have hn1 := HN1.out
        have hDD : D ∉ ds := fun hd => by have := hds D hd; omega
        have hDl : D < V.heap.size := (Array.getElem?_eq_some_iff.1 hDV).1
        have hb1l : B1 ≠ V.heap.size := Nat.ne_of_lt HI1.out.b1.lt
        have hI3 := hI2.own HKH.out (by decide) hwV hb1l (by omega) T1
        have hD3 : (V2.setCell ⟨V.heap.size, 0, none⟩ (.int .i64 ((k : Int) + 1))).heap[D]? = some (.deferred (some [])) := (T1.block D (by omega) (by omega)).trans ((HB2.out.block D hDl).trans hDV)
        have hch : ChS s u B vp mi mk B1 B2 t w (k + 1) V.heap.size (D :: ds) pin' keys' (V2.setCell ⟨V.heap.size, 0, none⟩ (.int .i64 ((k : Int) + 1))) := by
          refine ⟨hv2.own HKH.out (by decide) (by have := HV5.out.lts; omega) T1, hI3.st, hI3.b1, T1.blk (Blk.via HB2.out HK2.out) (by have := HK2.out.lt; omega), kn, hI3.ms.more hDD (by omega) hD3, HR.out, ?_, hi8, by omega, by omega, hwV⟩
          have hpl := HC5.out.pl
          have hk1 := HC5.out.k1
          have hwl : (chW s u k).1.length ≤ u := walkP_len u k
          have h7 : pin'.length = pin.length + (chW s u k).1.length := hi7
          obtain ⟨j, rfl⟩ : ∃ j, k = j + 1 := ⟨k - 1, by omega⟩
          rw [show j + 1 - 1 = j by omega] at hpl
          rw [show j + 1 + 1 - 1 = j + 1 by omega, Nat.succ_mul]
          omega
        have m1 := kn.cell 0
        have m2 := HC.out.bh.cell 0
        refine ⟨⟨k + 1, V.heap.size, D :: ds, ⟨rfl, rfl⟩, pin', keys', hide hch⟩, ?_⟩
        simp [muC, m1, m2]
        omega
      case stop =>
        rintro D c pre V hD hS ⟨rfl, hx1, hx2, hx3⟩ hDV
        refine wpIn_wide.2 ?_
        go_wp2
        have hwD : w.heap.size ≤ D := by omega
        have M1 : Marks w.heap.size V (D :: ds) := hx2.ms.more (fun hd => by have := hds D hd; omega) hwD hDV
        have T2 := takeAll_turn (D :: ds) V
        have k2 := T2.blk hx3 (Marks.ne M1 hx3)
        refine leave_marks w.heap.size (D :: ds) _ M1 (results_cell_1 Tryz.results89 _ _ B2 (.int .i64 14) rfl (by simp [loadVar, go_sem, k2.cell 0])) ⟨takeAll_store hx2.si M1 (by omega), hx2.st.newS T2 (fun q hq => (M1.2 q hq).1), .inr ⟨hx1, rfl⟩⟩
  · have hkb : decide ((k : Int) ≤ (B : Nat)) = false := decide_eq_false (by omega)
    go_wp2
    go_quiet (fail)
    have z0 : W.cell? ⟨B2, 0, none⟩ = some (.int .i64 0) := HC.out.b2.cell 0
    have z1 := HC.out.b2.frozen 0
    have z2 := HC.out.b2.lt
    go_wp2
    have T1 : Turn (fun q => q = B2) W ((W.drewN nq).setCell ⟨B2, 0, none⟩ (.int .i64 0)) := Turn.set (S := fun q => q = B2) (Turn.of_below (drewN_below W nq)) (p := ⟨B2, 0, none⟩) (.inl rfl) _
    have hB2v : B2 ≠ vp := HC.out.b2.ne_ HC.out.vs.kv (by decide)
    have V1 := HC.out.vs.own HC.out.b2 (by decide) hB2v T1
    have M1 : Marks w.heap.size ((W.drewN nq).setCell ⟨B2, 0, none⟩ (.int .i64 0)) ds := HC.out.ms.keep fun D hD => T1.block D (Array.getElem?_eq_some_iff.1 (HC.out.ms.2 D hD).2).1 (fun e => Marks.ne HC.out.ms HC.out.b2 (e ▸ hD))
    have k1 : Blk ((W.drewN nq).setCell ⟨B2, 0, none⟩ (.int .i64 0)) B2 25 #[.int .i64 0] := (show Blk (W.drewN nq) B2 25 #[.int .i64 0] from HC.out.b2).set_ 0 _
    have T2 := takeAll_turn ds ((W.drewN nq).setCell ⟨B2, 0, none⟩ (.int .i64 0))
    have k2 := T2.blk k1 (Marks.ne M1 k1)
    have V2 := V1.turnN T2 (fun q hq => by
      have h1 := M1.2 q hq
      exact ⟨by omega, by omega, by omega, _, h1.2, rfl⟩)
    refine leave_marks w.heap.size ds _ M1 (results_cell_1 Tryz.results89 _ _ B2 (.int .i64 0) rfl (by simp [loadVar, go_sem, k2.cell 0])) ⟨V2.st, ?_, .inl ⟨pin, keys, ?_, rfl, V2⟩⟩
    · exact (HC.out.st.newS T1 (fun q hq => by have := HN1.out; omega)).newS T2 (fun q hq => (M1.2 q hq).1)
    · rw [HC.out.eq, show B + 1 - k = 0 by omega]
      rfl
end Go.Proofs.YtnanlaefehaifaaGreat
namespace Go.Proofs.YtnanlaefehaifaaGreat
open Go.RowKit Go.Maps Go.Shelf
theorem StM.blk {s : StN} {A B : World} {v mi mk : Nat} {u : Int} {pin : List Nat} {keys : List ByteArray} {t : TalD} (h : StM s mi mk A B) (hv : ViewS s A v mi mk u pin keys t) {q : Nat} {t' : TypeId} {cs : Array Value} (k : Blk A q t' cs) (ht : stTy t' = false) : Blk B q t' cs := by
  have ne : ∀ t2, stTy t2 = true → t' ≠ t2 := fun t2 e e' => by rw [e', e] at ht; cases ht
  obtain ⟨o, kd⟩ := hv.st.dev.kd
  obtain ⟨fs, hp⟩ := hv.st.pool
  obtain ⟨x, kp, _⟩ := hp.pf.kp
  refine Turn.blk h k ?_
  rintro ((e | e | ⟨_, cs', e⟩) | e)
  · exact k.ne_ kd (ne _ (by decide)) e
  · exact k.ne_ kp (ne _ (by decide)) e
  · exact k.ne_ e (ne _ (by decide)) rfl
  · exact MiMk.ne hv k e
def checkB (s : StN) (u B : Nat) : Bool := pagesB s u && okD (headI s.x.b) (itP s) (nxI s) B u
theorem pagesB_rt {s : StN} {u : Nat} (h : pagesB s u = true) : ∀ no : Nat, 1 ≤ no → no < u → rightP (s.pg no) no = true := by
  intro no h1 h2
  unfold pagesB at h
  rw [List.all_eq_true] at h
  have h3 := h no (mem_from1.2 ⟨h1, h2⟩)
  unfold auI at h3
  rw [if_neg (by omega), Int.toNat_natCast] at h3
  by_cases hr : rightP (s.pg no) no = true
  · exact hr
  · rw [if_neg (fun e => hr e.1)] at h3
    cases h3
theorem okD_some {s : StN} {u B : Nat} {pin : List Nat} {keys : List ByteArray} (h : chR s u B = some (pin, keys)) : okD (headI s.x.b) (itP s) (nxI s) B u = wholeB u pin := by
  unfold okD
  rw [show chainsD (headI s.x.b) (itP s) (nxI s) u B 1 ([], []) = some (pin, keys) from h]
  rfl
theorem okD_none {s : StN} {u B : Nat} (h : chR s u B = none) : okD (headI s.x.b) (itP s) (nxI s) B u = false := by
  unfold okD
  rw [show chainsD (headI s.x.b) (itP s) (nxI s) u B 1 ([], []) = none from h]
def lookV (f v : Nat) : Value := .func (.func f) #[ptrV v] #[]
theorem vLook3_any (s : StN) (u B : Nat) (hK : StK s u) (hB : s.x.b = B) (hB16 : B ≤ 16) (hu : u ≤ 800) (hkz : ∀ no : Nat, 1 ≤ no → no < u → ∀ x ∈ itP s no, x.key.size ≤ 1000) (v mi mk : Nat) (t : TalD) (w : World) (h : ViewS s w v mi mk u [] [] t)
    (sb : Nat) (tt : TypeId) (ht : stTy tt = false) (hs : Blk w sb tt #[lookV 88 v, lookV 89 v, lookV 90 v]) :
    Calls Tryz.prog 82 #[ptrV v, .slice (some ⟨sb, 0, none⟩) 3 3] w fun e w' => e = .returned (.int .i64 (errI (checkB s u B))) ∧ StoreI s w' ∧ StM s mi mk w w' := by
  have HV := hide h
  have HS := hide hs
  have HP := hide (fun W (hv : ViewS s W v mi mk u [] [] t) => vPages_any s u hK (by omega) v mi mk [] [] t W hv)
  have HC := hide (fun (hp : pagesB s u = true) W (hv : ViewS s W v mi mk u [] [] t) => vChains_any s u B hK hB hB16 hu (pagesB_rt hp) v mi mk t W hv hkz)
  have HW := hide (fun pin keys W (hv : ViewS s W v mi mk u pin keys t) => vWhole_any s u (by omega) v mi mk pin keys t W hv)
  clear h hs hkz
  unfold lookV ptrV at *
  go_enter Tryz.func82, Tryz.ntmps82
  go_wp2
  go_loopw [10] (fun i wr => Hid (Blk wr sb tt #[.func (.func 88) #[.pointer (some ⟨v, 0, none⟩)] #[], .func (.func 89) #[.pointer (some ⟨v, 0, none⟩)] #[], .func (.func 90) #[.pointer (some ⟨v, 0, none⟩)] #[]]) ∧ Hid (StM s mi mk w wr) ∧
    ((i = .int .i64 0 ∧ Hid (ViewS s wr v mi mk u [] [] t)) ∨ (i = .int .i64 1 ∧ Hid (pagesB s u = true) ∧ Hid (ViewS s wr v mi mk u [] [] t)) ∨ (i = .int .i64 2 ∧ Hid (pagesB s u = true) ∧ ∃ pin keys, Hid (chR s u B = some (pin, keys)) ∧ Hid (ViewS s wr v mi mk u pin keys t)) ∨
      (i = .int .i64 3 ∧ Hid (pagesB s u = true) ∧ ∃ pin keys, Hid (chR s u B = some (pin, keys)) ∧ Hid (wholeB u pin = true) ∧ Hid (ViewS s wr v mi mk u pin keys t)))) (fun i _ => 3 - (intOf i).toNat)
  case atStart => exact ⟨HS, hide (StM.refl _ _ _ _), .inl ⟨rfl, HV⟩⟩
  case round =>
    obtain ⟨HSr, HMr, hrel⟩ := hrel
    have q0 : wr.cell? ⟨sb, 0, none⟩ = some (.func (.func 88) #[.pointer (some ⟨v, 0, none⟩)] #[]) := HSr.out.cell 0
    have q1 : wr.cell? ⟨sb, 1, none⟩ = some (.func (.func 89) #[.pointer (some ⟨v, 0, none⟩)] #[]) := HSr.out.cell 1
    have q2 : wr.cell? ⟨sb, 2, none⟩ = some (.func (.func 90) #[.pointer (some ⟨v, 0, none⟩)] #[]) := HSr.out.cell 2
    have ql := HSr.out.lt
    rcases hrel with ⟨rfl, HVr⟩ | ⟨rfl, HPB, HVr⟩ | ⟨rfl, HPB, pin, keys, HCR, HVr⟩ | ⟨rfl, HPB, pin, keys, HCR, HWB, HVr⟩
    · go_wp2_with fail
      refine (HP.out wr HVr.out).mono ?_
      rintro e w2 ⟨rfl, hR⟩
      have HM2 := hide (HMr.out.trans (StM.of_st hR.1))
      have HS2 := hide ((StM.of_st hR.1).blk HVr.out HSr.out ht)
      have HV2 := hide (HVr.out.st' hR)
      clear hR q0 q1 q2
      cases hpb : pagesB s u with
      | true =>
        have HPB := hide hpb
        simp only [show errI true = 0 from rfl]
        clear hpb
        go_wp2
        go_roundw
        case rel => exact ⟨HS2, HM2, .inr (.inl ⟨by go_num, HPB, HV2⟩)⟩
        case measure => simp [intOf]
      | false =>
        have HCB := hide (show checkB s u B = false by unfold checkB; rw [hpb]; rfl)
        simp only [show errI false = 14 from rfl]
        clear hpb
        go_wp2
        go_ret
        exact ⟨by rw [HCB.out]; rfl, HV2.out.st, HM2.out⟩
    · go_wp2_with fail
      refine (HC.out HPB.out wr HVr.out).mono ?_
      rintro e w2 ⟨hst, hM, hcase⟩
      have HM2 := hide (HMr.out.trans hM)
      have HS2 := hide (hM.blk HVr.out HSr.out ht)
      have HST := hide hst
      rcases hcase with ⟨pin, keys, hc, rfl, hv⟩ | ⟨hc, rfl⟩
      · have HCR := hide hc
        have HV2 := hide hv
        clear hc hv hM hst q0 q1 q2
        go_wp2
        go_roundw
        case rel => exact ⟨HS2, HM2, .inr (.inr (.inl ⟨by go_num, HPB, pin, keys, HCR, HV2⟩))⟩
        case measure => simp [intOf]
      · have HCB := hide (show checkB s u B = false by unfold checkB; rw [okD_none hc, Bool.and_false])
        clear hc hM hst q0 q1 q2
        go_wp2
        go_ret
        exact ⟨by rw [HCB.out]; rfl, HST.out, HM2.out⟩
    · go_wp2_with fail
      refine (HW.out pin keys wr HVr.out).mono ?_
      rintro e w2 ⟨rfl, rfl⟩
      clear q0 q1 q2
      cases hwb : wholeB u pin with
      | true =>
        have HWB := hide hwb
        simp only [show errI true = 0 from rfl]
        clear hwb
        go_wp2
        go_roundw
        case rel => exact ⟨HSr, HMr, .inr (.inr (.inr ⟨by go_num, HPB, pin, keys, HCR, HWB, HVr⟩))⟩
        case measure => simp [intOf]
      | false =>
        have HCB := hide (show checkB s u B = false by unfold checkB; rw [okD_some HCR.out, hwb, Bool.and_false])
        simp only [show errI false = 14 from rfl]
        clear hwb
        go_wp2
        go_ret
        exact ⟨by rw [HCB.out]; rfl, HVr.out.st, HMr.out⟩
    · have HCB := hide (show checkB s u B = true by unfold checkB; rw [okD_some HCR.out, HWB.out, HPB.out]; rfl)
      clear q0 q1 q2
      go_wp2
      go_ret
      exact ⟨by rw [HCB.out]; rfl, HVr.out.st, HMr.out⟩
end Go.Proofs.YtnanlaefehaifaaGreat
