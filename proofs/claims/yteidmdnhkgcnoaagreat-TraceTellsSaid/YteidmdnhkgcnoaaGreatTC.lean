/-
  WALK OF THE PROGRAM: hist.Stories.
-/
import Derived.Test.YteidmdnhkgcnoaaGreatTB
import Derived.Maps.OwnIn
namespace Go.Proofs.YteidmdnhkgcnoaaGreat
open Go.RowKit Go.Shelf Go.Maps

attribute [local go_sem] Oper.semAt_some

theorem gen4s {w : World} {c0 c1 c2 c3 : Array Value} {t0 t1 t2 t3 : TypeId} {R : World → Prop} (h : ∀ W, Blk W w.heap.size t0 c0 → Blk W (w.heap.size + 1) t1 c1 → Blk W (w.heap.size + 1 + 1) t2 c2 → Blk W (w.heap.size + 1 + 1 + 1) t3 c3 → Below w.heap.size w W → W.heap.size = w.heap.size + 4 → R W) :
    R ((((w.alloc (.cells c0 t0)).alloc (.cells c1 t1)).alloc (.cells c2 t2)).alloc (.cells c3 t3)) := by
  refine h _ ((((Blk.new w t0 c0).alloc _).alloc _).alloc _) ?_ ?_ ?_ ?_ (by simp)
  · exact (((by simpa using Blk.new (w.alloc (.cells c0 t0)) t1 c1 : Blk _ (w.heap.size + 1) t1 c1).alloc _).alloc _)
  · exact ((by simpa using Blk.new ((w.alloc (.cells c0 t0)).alloc (.cells c1 t1)) t2 c2 : Blk _ (w.heap.size + 1 + 1) t2 c2).alloc _)
  · exact (by simpa using Blk.new (((w.alloc (.cells c0 t0)).alloc (.cells c1 t1)).alloc (.cells c2 t2)) t3 c3 : Blk _ (w.heap.size + 1 + 1 + 1) t3 c3)
  · exact ((((Below.refl _ _).alloc (Nat.le_refl _) _).alloc (by simp) _).alloc (by simp; omega) _).alloc (by simp; omega) _

def roundB (A : Option Addr) (m c N Bx : Nat) (x : Value) : Act := { tmps := #[.slice A m c, undef, .slice none 0 0, .pointer (some ⟨N, 0, none⟩), .pointer (some ⟨Bx, 0, none⟩), undef, undef, undef, undef, undef, .slice A m c, .slice (some ⟨N + 1, 0, none⟩) 1 1, .func (.func 60) #[] #[.pointer (some ⟨N + 1 + 1, 0, none⟩), .pointer (some ⟨N + 1 + 1 + 1, 0, none⟩)], x, undef, undef, undef, undef, undef, undef, undef, undef, undef, undef, undef, undef, undef, undef, undef, undef, undef, undef, undef, undef, undef, undef, undef, undef, undef, undef, undef, undef, undef, undef, undef, undef, undef, undef, undef, undef, undef, undef, undef, undef, undef, undef, undef, undef, undef, undef, undef, undef, undef, undef, undef, undef, undef, undef, undef, undef, undef, undef, undef, undef, undef, undef, undef, undef, undef, undef, undef], defers := [] }
def roundC (A : Option Addr) (m c N M mp Bx : Nat) (v1 v2 x : Value) : Act := { tmps := #[.slice A m c, undef, .slice none 0 0, .pointer (some ⟨N, 0, none⟩), undef, .pointer (some ⟨M, 0, none⟩), .pointer (some ⟨Bx, 0, none⟩), undef, undef, undef, .slice A m c, .slice (some ⟨N + 1, 0, none⟩) 1 1, .func (.func 60) #[] #[.pointer (some ⟨N + 1 + 1, 0, none⟩), .pointer (some ⟨N + 1 + 1 + 1, 0, none⟩)], undef, undef, undef, undef, undef, undef, undef, undef, undef, v1, v2, v2, .map (some mp), .slice A m c, .slice (some ⟨M + 1, 0, none⟩) 4 4, .func (.func 60) #[] #[.pointer (some ⟨M + 1 + 1, 0, none⟩), .pointer (some ⟨M + 1 + 1 + 1, 0, none⟩)], x, undef, undef, undef, undef, undef, undef, undef, undef, undef, undef, undef, undef, undef, undef, undef, undef, undef, undef, undef, undef, undef, undef, undef, undef, undef, undef, undef, undef, undef, undef, undef, undef, undef, undef, undef, undef, undef, undef, undef, undef, undef, undef, undef, undef, undef, undef, undef, undef, undef, undef, undef], defers := [] }
def begsOf {xs : List EvV} (pre : List (EvIn xs)) : List StoD := pre.map (fun x => ⟨x.1.d.txn, x.1.d.client, 0, false⟩)
/-- What the first loop holds between two rounds. -/
def StI (w w1 : World) (xs : List EvV) (pre : List (EvIn xs)) (W : World) : Prop :=
  ∃ v, Blk W w.heap.size 61 #[v] ∧ W.ownsRow w1.heap.size 64 4 v pre.length ((begsOf pre).flatMap StoD.cells) ∧ Below w.heap.size w W ∧ KeepBut w1.heap.size w.heap.size w1 W
theorem keepBut_own {N1 g B : Nat} {w1 W W' : World} {row : Option Nat} (k5 : KeepBut N1 g w1 W) (hg : W.grownBy W' row) (hNB : N1 ≤ B) (hN : N1 ≤ W.heap.size) (hr : ∀ r, row = some r → B ≤ r ∧ ∃ o : Obj, W.heap[r]? = some o ∧ o.isCells = false) : KeepBut N1 g w1 W' :=
  ⟨Nat.le_trans k5.size hg.size, fun q hq hne => (hg.block q (Nat.lt_of_lt_of_le hq hN) (fun e => by have := (hr q e.symm).1; omega)).trans (k5.block q hq hne), fun q cs e => (hg.block q (Array.getElem?_eq_some_iff.1 ((k5.ev q cs e).trans e)).1 (nc_ne hr ((k5.ev q cs e).trans e))).trans (k5.ev q cs e)⟩
theorem stI_own (w w1 : World) (xs : List EvV) (hw : w.heap.size ≤ w1.heap.size) : OwnFrom w1.heap.size (StI w w1 xs) := by
  rintro s W W' row ⟨v, k1, k2, k4, k5⟩ hg hr
  exact ⟨v, k1.grown hg (nc_ne hr k1), row_keep k2 (fun q hq => by
    obtain ⟨cur, e⟩ := row_obj k2 hq
    exact hg.block q (Array.getElem?_eq_some_iff.1 e).1 (nc_ne hr e)), k4.grown hg k4.size (fun q hq => by have := (hr q hq).1; omega), keepBut_own k5 hg (Nat.le_refl _) k5.size hr⟩
theorem kb_put {B N1 g : Nat} {W : World} {l : Nat} {o o' : Obj} (hl : B ≤ l) (hB : N1 ≤ B) (ho : W.heap[l]? = some o) (hc : o.isCells = false) : KeepBut N1 g W (W.putObj l o') := by
  have hg := grownBy_putObj' W l o'
  have hlt := (Array.getElem?_eq_some_iff.1 ho).1
  exact ⟨hg.size, fun q hq _ => hg.block q (by omega) (fun e => by injection e with e; omega), fun q cs e => hg.block q (Array.getElem?_eq_some_iff.1 e).1 (fun e2 => by
    injection e2 with e2
    subst e2
    rw [ho] at e
    injection e with e
    subst e
    cases hc)⟩
theorem begs_those (xs : List EvV) (m : Nat) (hm : m = xs.length) : begsOf (thoseL xs [0] m) = begsD (xs.map EvV.d) := by
  subst hm
  have h := thoseL_map xs [0] xs.length (Nat.le_refl _)
  rw [List.take_length] at h
  have e : begsOf (thoseL xs [0] xs.length) = ((thoseL xs [0] xs.length).map (·.1)).map (fun x => (⟨x.d.txn, x.d.client, 0, false⟩ : StoD)) := by
    unfold begsOf
    rw [List.map_map]
    rfl
  rw [e, h]
  unfold begsD
  rw [List.filter_map, List.map_map]
  congr 1
  congr 1
  funext x
  rw [Bool.eq_iff_iff]
  simp
theorem st_those (us : List StoD) (xs : List EvV) (m : Nat) (hm : m = xs.length) : stAt us ((thoseL xs [1, 2, 3, 4] m).map (fun x => x.1.d)) = stAt us (xs.map EvV.d) := by
  subst hm
  have h := thoseL_map xs [1, 2, 3, 4] xs.length (Nat.le_refl _)
  rw [List.take_length] at h
  have e : (thoseL xs [1, 2, 3, 4] xs.length).map (fun x => x.1.d) = (xs.map EvV.d).filter (fun d => decide (d.act ∈ [(1 : Int), 2, 3, 4])) := by
    rw [List.filter_map]
    have e2 : (thoseL xs [1, 2, 3, 4] xs.length).map (fun x => x.1.d) = ((thoseL xs [1, 2, 3, 4] xs.length).map (·.1)).map EvV.d := by
      rw [List.map_map]; rfl
    rw [e2, h]
    rfl
  rw [e]
  unfold stAt
  apply List.map_congr_left
  intro s _
  exact fold_filter s _
/-- A story among others is turned in one cell. -/
theorem sto_set {L : List StoD} {cs : Array Value} {i j : Nat} {s s' : StoD} {u : Value} (h : ∀ (q : Nat) (v : Value), (L.flatMap StoD.cells)[q]? = some v → cs[q]? = some v) (hi : L[i]? = some s) (hj : j < 4) (hs : s'.cells = s.cells.set j u) :
    ∀ (q : Nat) (v : Value), ((L.set i s').flatMap StoD.cells)[q]? = some v → (cs.setIfInBounds (i * 4 + j) u)[q]? = some v := by
  intro q v hv
  obtain ⟨hil, hie⟩ := List.getElem?_eq_some_iff.1 hi
  have h2 : q = (q / 4) * 4 + q % 4 := by omega
  have hq4 : q % 4 < 4 := Nat.mod_lt _ (by omega)
  rw [h2, flat_at _ 4 StoD.cells_length _ _ _ hq4, List.getElem?_set] at hv
  have hold : ∀ (k r : Nat) (x : StoD) (u : Value), r < 4 → L[k]? = some x → x.cells[r]? = some u → cs[k * 4 + r]? = some u := fun k r x u hr hk hu => h _ u (by rw [flat_at _ 4 StoD.cells_length _ _ _ hr, hk]; exact hu)
  rw [Array.getElem?_setIfInBounds]
  by_cases hiq : i = q / 4
  · rw [if_pos hiq, if_pos (hiq ▸ hil)] at hv
    simp only [Option.bind_some, hs, List.getElem?_set] at hv
    by_cases hjq : j = q % 4
    · rw [if_pos hjq] at hv
      have hsz : i * 4 + j < cs.size := by
        obtain ⟨u0, hu0⟩ : ∃ u0, s.cells[j]? = some u0 := ⟨_, List.getElem?_eq_getElem (by rw [StoD.cells_length]; exact hj)⟩
        exact (Array.getElem?_eq_some_iff.1 (hold i j s u0 hj hi hu0)).1
      rw [if_pos (by omega), if_pos hsz]
      rw [if_pos (by rw [StoD.cells_length]; omega)] at hv
      exact hv
    · rw [if_neg hjq] at hv
      rw [if_neg (by omega)]
      rw [h2]
      exact hold (q / 4) (q % 4) s v hq4 (hiq ▸ hi) hv
  · rw [if_neg hiq] at hv
    rw [if_neg (by omega)]
    cases hx : L[q / 4]? with
    | none => rw [hx] at hv; cases hv
    | some x =>
      rw [hx] at hv
      rw [h2]
      exact hold (q / 4) (q % 4) x v hq4 hx hv
/-- What the second loop holds between two rounds. -/
def StJ (w w5 : World) (xs : List EvV) (us : List StoD) (gR cap : Nat) (pre : List (EvIn xs)) (W : World) : Prop :=
  Below w.heap.size w W ∧ KeepBut w5.heap.size gR w5 W ∧ (us = [] ∨ ∃ cs : Array Value, Blk W gR 64 cs ∧ cs.size = cap * 4 ∧ ∀ (q : Nat) (u : Value), ((stAt us (pre.map (fun x => x.1.d))).flatMap StoD.cells)[q]? = some u → cs[q]? = some u)
theorem stJ_own (w w5 : World) (xs : List EvV) (us : List StoD) (gR cap : Nat) (hw : w.heap.size ≤ w5.heap.size) : OwnFrom w5.heap.size (StJ w w5 xs us gR cap) := by
  rintro s W W' row ⟨k4, k5, k6⟩ hg hr
  refine ⟨k4.grown hg k4.size (fun q hq => by have := (hr q hq).1; omega), keepBut_own k5 hg (Nat.le_refl _) k5.size hr, ?_⟩
  rcases k6 with k6 | ⟨cs, k1, k2, k3⟩
  · exact .inl k6
  · exact .inr ⟨cs, k1.grown hg (nc_ne hr k1), k2, k3⟩
theorem plc_idx {us : List StoD} {t : Int} (h : t ∈ us.map StoD.txn) : ∃ i s, us[i]? = some s ∧ t = s.txn ∧ plc (us.map StoD.txn) t = (i : Nat) := by
  have h1 : ¬ plc (us.map StoD.txn) t < 0 := fun hn => plc_neg.1 hn h
  unfold plc at h1 ⊢
  cases hi : (us.map StoD.txn).idxOf? t with
  | none => rw [hi] at h1; simp at h1
  | some i =>
    unfold List.idxOf? at hi
    rw [List.findIdx?_eq_some_iff_getElem] at hi
    obtain ⟨h4, h5, h6⟩ := hi
    have h7 : i < us.length := by simpa using h4
    exact ⟨i, us[i], List.getElem?_eq_getElem h7, (by simpa using h5 : us[i].txn = t).symm, rfl⟩
/-- The stories told, in a row of the call's own. -/
def StoPost (w : World) (l : List StoD) (e : Ending) (w' : World) : Prop := ∃ A c, e = .returned (.slice A l.length c) ∧ Stos w' w'.heap.size A l.length l ∧ Below w.heap.size w w'
set_option maxRecDepth 100000 in
set_option maxHeartbeats 4000000 in
theorem hStories_any (A : Option Addr) (m c : Nat) (xs : List EvV) (w : World) (hm : m ≤ 1000) (h : Evs w w.heap.size A m xs) (hwf : ∀ x ∈ xs, wfI x.d.txn) :
    Calls Tryz.prog 27 #[.slice A m c] w (StoPost w (storiesD (xs.map EvV.d))) := by
  have HE := hide h
  have HWF := hide hwf
  have HL := hide h.1
  clear h hwf
  obtain ⟨i0, hi, hz0, hz1, hz2⟩ := info_parts info_sto
  have HI := hide hi
  have HZ0 := hide hz0
  have HZ1 := hide hz1
  have HZ2 := hide hz2
  clear hi hz0 hz1 hz2
  refine (callsIn_wide (n := 9)).1 ?_
  refine callsIn_of_wp_marks Tryz.func27 rfl trivial ?_ rfl
  simp only [Tryz.ntmps27, List.size_toArray, List.length_cons, List.length_nil, Nat.reduceAdd, Nat.reduceSub, Array.replicate_succ, Array.replicate_zero, List.push_toArray, List.append_toArray, List.nil_append, List.cons_append]
  gi_wp2_with (refine ⟨trivial, ?_⟩; gi_at_call 46; refine (those_in Fence.wide _ trivial rfl A _ m c _ _ _).mono ?_; rintro e w' ⟨rfl, rfl⟩)
  refine gen4s (fun w1 kA kq kl kd hb1 hz1 => ?_)
  have hE1 := HE.out.below hb1 (Nat.le_refl _)
  refine wpIn_rangeFunc_ownH (α := EvIn xs) rfl (by omega) (gf := 60) (lb := #[.pointer (some ⟨w.heap.size + 1 + 1, 0, none⟩), .pointer (some ⟨w.heap.size + 1 + 1 + 1, 0, none⟩)]) rfl trivial (enters_of Tryz.func60 (by kernel_rfl) rfl)
    (those_stops Fence.wide 8 trivial rfl (by omega) (w.heap.size + 1 + 1) (w.heap.size + 1 + 1 + 1) (w.heap.size + 1) w1.heap.size w.heap.size w.heap.size m c 1 1 A xs [0] w1 (by omega) rfl (by omega) (by simp) (by omega) (by omega) (Nat.le_refl _) (by omega) (by omega) (by omega) (by omega) kl kd kq hE1)
    (fun h1 h2 => h1.trans h2) (fun W l o o' hl ho hc _ => kb_put hl (Nat.le_refl _) ho hc) (Below.refl _ _) (fun _ => rfl)
    (StI w w1 xs) (fun _ _ _ => False) (stI_own w w1 xs (by omega)) (fun _ _ _ _ _ hs _ _ => hs) ?start
    (fun x a' W => ∃ Bx, w1.heap.size ≤ Bx ∧ Blk W Bx 38 (evCells x.1) ∧ a' = roundB A m c w.heap.size Bx (.agg (evCells x.1))) ?ax ?assign ?body ?done ?stop
  case start => exact ⟨_, kA, World.ownsRow_nil _ _ _ _, hb1, KeepBut.refl _ _ _⟩
  case ax =>
    rintro x a' s W W' row ⟨Bx, h1, h2, h3⟩ hg hr
    exact ⟨Bx, h1, h2.grown hg (nc_ne hr h2), h3⟩
  case assign =>
    rintro l pre x W K hI hK
    obtain ⟨v, i1, i2, i4, i5⟩ := hI
    obtain ⟨⟨d, dv, cv⟩, hx⟩ := x
    obtain ⟨⟨A1, n1, m1, e1, p1⟩, ⟨A2, n2, m2, e2, p2⟩⟩ := HE.out.2.2 _ hx
    clear p1 p2
    dsimp only at e1 e2
    subst e1 e2
    have z5 := i5.size
    simp only [evArg]
    gi_wp2
    exact hK _ _ ((KeepsOthers.alloc _ _).from _) (KeepBut.of_below ((Below.refl _ W).alloc (Nat.le_refl _) _) z5) ⟨v, i1.alloc _, i2.alloc _, i4.alloc i4.size _, i5.trans (KeepBut.of_below ((Below.refl _ W).alloc (Nat.le_refl _) _) z5)⟩ ⟨W.heap.size, z5, Blk.new W _ _, rfl⟩
  case body =>
    rintro l pre x a' W hl ⟨r, hr⟩ ⟨v, i1, i2, i4, i5⟩ ⟨Bx, hBx, kx, rfl⟩ hpl
    obtain ⟨⟨d, dv, cv⟩, hx⟩ := x
    obtain ⟨⟨A1, n1, m1, e1, p1⟩, ⟨A2, n2, m2, e2, p2⟩⟩ := HE.out.2.2 _ hx
    dsimp only at *
    subst e1 e2
    clear p1 p2
    have z5 := i5.size
    have q1 := i1.cell 0
    have f1 := i1.frozen 0
    have l1 := i1.lt
    have qx := kx.cell
    have lx := kx.lt
    obtain ⟨A3, c3, rfl, _⟩ := own_slice i2
    simp only [roundB, evCells] at *
    gi_wp2_with (gi_at_builtin; refine held ?_)
    refine unheld ?_
    generalize hW8 : W.alloc (.cells #[.int .i64 d.txn, .int .i64 d.client, .int .i64 0, .bool false] 64) = W8
    have kb8 : Blk W8 W.heap.size 64 #[.int .i64 d.txn, .int .i64 d.client, .int .i64 0, .bool false] := hW8 ▸ Blk.new _ _ _
    have b8 : Below W.heap.size W W8 := hW8 ▸ (Below.refl _ W).alloc (Nat.le_refl _) _
    clear hW8
    have i28 := row_keep i2 (fun q hq => b8.block q (World.ownsRow.lt i2 q hq).2)
    have i18 := Blk.via b8 i1
    have z8 := b8.size
    gi_at_builtin
    refine wpListIn_append_own _ rfl _ _ _ rfl w1.heap.size 64 i0 _ 4 32 Tryz.underlying61 HI.out HZ0.out HZ1.out HZ2.out rfl (by omega) (.slice A3 pre.length c3) pre.length _ rfl i28 ⟨W.heap.size, 0, none⟩ 1 1 (StoD.cells ⟨d.txn, d.client, 0, false⟩) rfl rfl ?c2 ?c3 ?c4 ?c5 ?c6 ?_
    case c2 => intro j u hu; rw [add_plain, Nat.zero_add, kb8.cell]; simpa [StoD.cells] using hu
    case c3 => simpa using stos_one [⟨d.txn, d.client, 0, false⟩]
    case c4 => unfold maxLen; omega
    case c5 => omega
    case c6 => omega
    intro v' w9 hown9 hg9 _
    have hrow : ∀ q, Value.ownBlock (.slice A3 pre.length c3) = some q → w1.heap.size ≤ q := fun q hq => (World.ownsRow.lt i28 q hq).1
    have t89 : KeepsOthers W8 w9 := KeepsOthers.of_grownBy hg9 (fun j o e ho => by
      obtain ⟨cur, e'⟩ := row_obj i28 e
      rw [e'] at ho
      injection ho with ho
      subst ho
      rfl)
    have kb89 : KeepBut w1.heap.size w.heap.size W8 w9 := KeepBut.grown hg9 (by omega) hrow (fun q e => by obtain ⟨cur, e'⟩ := row_obj i28 e; exact ⟨cur, _, e', by decide⟩)
    have i19 := i18.grown hg9 (fun e => by have := hrow _ e.symm; omega)
    have b89 : Below w.heap.size W8 w9 := (Below.refl _ _).grown hg9 (by have := i4.size; omega) (fun k hk => by have := hrow k hk; omega)
    have q19 := i19.cell 0
    have f19 := i19.frozen 0
    have l19 := i19.lt
    obtain ⟨A6, c6, rfl, _⟩ := own_slice hown9
    have HOWN9 := hide hown9
    clear i28 i18 kb8 hown9 hg9 q1 f1 qx
    gi_wp2_with fail
    refine ⟨(didKeepB b8 _).trans ((t89.from _).trans ((KeepsOthers.setCell _ _ _).from _)), (KeepBut.of_below b8 z5).trans (kb89.trans (KeepBut.cell i19 (by decide) _)), _, i19.set_ 0 _, ?_, ?_, i5.trans ((KeepBut.of_below b8 z5).trans (kb89.trans (KeepBut.cell i19 (by decide) _)))⟩
    · refine row_keep (v := .slice A6 (pre.length + 1) c6) ?_ (fun q hq => Below.heap_setCell w9 ⟨w.heap.size, 0, none⟩ _ q (fun e => by have := (World.ownsRow.lt HOWN9.out q hq).1; have e2 : q = w.heap.size := e; omega))
      simpa [begsOf] using HOWN9.out
    · exact ((i4.trans (b8.mono i4.size)).trans b89).setCell (p := ⟨w.heap.size, 0, none⟩) (Nat.le_refl _) _
  case done =>
    rintro D ys W hD hS hI hK
    obtain ⟨v, i1, i2, i4, i5⟩ := hI
    subst hS
    have hbl := begs_those xs m HL.out
    obtain ⟨A3, c3, rfl, _⟩ := own_slice i2
    have hn1 : (thoseL xs [0] m).length ≤ m := thoseL_len _ _ _
    have hwb : ∀ s ∈ begsD (xs.map EvV.d), wfI s.txn := fun s hs => by
      obtain ⟨d, hd, rfl⟩ := List.mem_map.1 hs
      obtain ⟨x, hx, rfl⟩ := List.mem_map.1 (List.mem_filter.1 hd).1
      exact HWF.out x hx
    have hSt : Stos W W.heap.size A3 (thoseL xs [0] m).length (begsD (xs.map EvV.d)) := ⟨by rw [← hbl]; simp [begsOf], by have := Reads.of_own i2; rwa [hbl] at this⟩
    have HU := hide (unique_any A3 _ c3 (begsD (xs.map EvV.d)) W.heap.size W (Nat.le_refl _) (by omega) hSt hwb)
    have hul := uniq_len (begsD (xs.map EvV.d))
    have hul2 := begsD_len (xs.map EvV.d)
    have hnd := uniq_nodup (begsD (xs.map EvV.d))
    have hwu : ∀ s ∈ uniq (begsD (xs.map EvV.d)), wfI s.txn := fun s hs => by
      have h1 := (uniq_mem (begsD (xs.map EvV.d)) s.txn).1 (List.mem_map.2 ⟨s, hs, rfl⟩)
      obtain ⟨s2, hs2, e⟩ := List.mem_map.1 h1
      rw [← e]
      exact hwb s2 hs2
    have hfin : storiesD (xs.map EvV.d) = stAt (uniq (begsD (xs.map EvV.d))) (xs.map EvV.d) := rfl
    have HFIN := hide hfin
    have HND := hide hnd
    have HWU := hide hwu
    have hus1000 : (uniq (begsD (xs.map EvV.d))).length ≤ 1000 := by have := HL.out; rw [List.length_map] at hul2; omega
    clear hbl hwb hSt hul hul2 hnd hwu hfin i2
    generalize uniq (begsD (xs.map EvV.d)) = us at *
    generalize (thoseL xs [0] m).length = n1 at *
    dsimp only
    have q1 := i1.cell 0
    have l1 := i1.lt
    have z5 := i5.size
    gi_wp2_with fail
    refine ⟨trivial, ?_⟩
    gi_at_call 47
    refine (callsIn_wide.2 HU.out).mono ?_
    rintro e w2 ⟨v2, rfl, hrow2, hb2⟩
    have k3 := Blk.via hb2 i1
    have f3 := k3.frozen 0
    have q3 := k3.cell 0
    have l3 := k3.lt
    have b2 : Below w.heap.size w w2 := i4.trans (hb2.mono i4.size)
    have hD2 : w2.heap[D]? = some (.deferred (some [])) := (hb2.block D (Array.getElem?_eq_some_iff.1 hK).1).trans hK
    have hDW : D < W.heap.size := (Array.getElem?_eq_some_iff.1 hK).1
    obtain ⟨A4, c4, rfl, hcap4, hcm4, _⟩ := own_slice hrow2
    have hrl := World.ownsRow.lt hrow2
    have HROW2 := hide hrow2
    clear hrow2 q1 HU
    gi_wp2_with fail
    generalize hW3 : w2.setCell ⟨w.heap.size, 0, none⟩ (.slice A4 us.length c4) = w3
    have k33 : Blk w3 w.heap.size 61 #[.slice A4 us.length c4] := hW3 ▸ k3.set_ 0 _
    have b3 : Below w.heap.size w w3 := hW3 ▸ b2.setCell (p := ⟨w.heap.size, 0, none⟩) (Nat.le_refl _) _
    have hrow3 : w3.ownsRow W.heap.size 64 4 (.slice A4 us.length c4) us.length (us.flatMap StoD.cells) := hW3 ▸ row_keep HROW2.out (fun q hq => Below.heap_setCell w2 ⟨w.heap.size, 0, none⟩ _ q (fun e => by have := (hrl q hq).1; have e2 : q = w.heap.size := e; omega))
    have hD3 : w3.heap[D]? = some (.deferred (some [])) := hW3 ▸ (Below.heap_setCell w2 ⟨w.heap.size, 0, none⟩ _ D (fun e => by have e2 : D = w.heap.size := e; omega)).trans hD2
    have s3 : w3.heap.size = w2.heap.size := by rw [← hW3]; simp [World.setCell]
    clear hW3 q3 f3 k3
    have HPL := hide (places_any A4 us.length c4 us w3.heap.size w3 (Nat.le_refl _) (by omega) ⟨rfl, Reads.of_own hrow3⟩ HWU.out)
    refine ⟨trivial, ?_⟩
    gi_at_call 49
    refine (callsIn_wide.2 HPL.out).mono ?_
    rintro e w4 ⟨mp, NN, DD, rfl, hNl, hown4, hrm, hb4, hmp⟩
    have HRM := hide hrm
    have k34 := Blk.via hb4 k33
    have hrow4 := row_keep hrow3 (fun q hq => hb4.block q (World.ownsRow.lt hrow3 q hq).2)
    have hD4 : w4.heap[D]? = some (.deferred (some [])) := (hb4.block D (Array.getElem?_eq_some_iff.1 hD3).1).trans hD3
    have b4 : Below w.heap.size w w4 := b3.trans (hb4.mono b3.size)
    have z4 := hb4.size
    have hmpl := hown4.lt
    clear hrm HPL k33 hD3 hD2
    gi_wp2_with (refine ⟨trivial, ?_⟩; gi_at_call 46; refine (those_in Fence.wide _ trivial rfl A _ m c _ _ _).mono ?_; rintro e w' ⟨rfl, rfl⟩)
    refine gen4s (fun w5 kM kq5 kl5 kd5 hb5 hz5 => ?_)
    have hz5a : w5.heap.size ≤ w4.heap.size + 4 := by omega
    have hz5b : w4.heap.size + 4 ≤ w5.heap.size := by omega
    clear hz5
    have zb2 := hb2.size
    have zi4 := i4.size
    have s3a : w3.heap.size ≤ w2.heap.size := by omega
    have s3b : w2.heap.size ≤ w3.heap.size := by omega
    clear s3
    have hE5 := (HE.out.below b4 (Nat.le_refl _)).below hb5 b4.size
    have k35 := Blk.via hb5 k34
    have hrow5 := row_keep hrow4 (fun q hq => hb5.block q (World.ownsRow.lt hrow4 q hq).2)
    have hown5 := ownsMap_viaB hown4 hb5
    have b5 : Below w.heap.size w w5 := b4.trans (hb5.mono b4.size)
    have hD5 : w5.heap[D]? = some (.deferred (some [])) := (hb5.block D (Array.getElem?_eq_some_iff.1 hD4).1).trans hD4
    have l35 := k34.lt
    have b3s := b3.size
    have b4s := b4.size
    clear hrow4 hown4 k34 hD4
    obtain ⟨gR, hgR, hstart⟩ : ∃ gR, ((us = [] ∧ gR = w5.heap.size) ∨ (A4 = some ⟨gR, 0, none⟩ ∧ W.heap.size ≤ gR ∧ gR < w3.heap.size)) ∧ StJ w w5 xs us gR c4 [] w5 := by
      obtain ⟨hx, ⟨e1, e2⟩ | ⟨g, cap, cur, e1, hbg, hh, hnc, hcm, hs, ht⟩⟩ := hrow5
      · exact ⟨w5.heap.size, .inl ⟨List.eq_nil_of_length_eq_zero e2, rfl⟩, b5, KeepBut.refl _ _ _, .inl (List.eq_nil_of_length_eq_zero e2)⟩
      · injection e1 with e1 e2 e3
        subst e1 e3
        refine ⟨g, .inr ⟨rfl, hbg, (World.ownsRow.lt hrow3 g rfl).2⟩, b5, KeepBut.refl _ _ _, .inr ⟨cur, hh, hs, fun q u hu => ?_⟩⟩
        rw [List.map_nil, stAt_nil, ← ht, List.getElem?_take] at hu
        split at hu
        · simpa using hu
        · cases hu
    have HROW5 := hide hrow5
    clear hrow5 hrow3
    have hgw : w.heap.size ≤ gR ∧ gR ≠ w.heap.size ∧ gR ≠ w4.heap.size ∧ gR ≠ w4.heap.size + 1 ∧ gR ≠ w4.heap.size + 1 + 1 ∧ gR ≠ w4.heap.size + 1 + 1 + 1 ∧ gR ≠ mp ∧ gR ≠ D := by
      rcases hgR with ⟨_, h⟩ | ⟨_, h1, h2⟩ <;> omega
    obtain ⟨g1, g2, g3, g4, g5, g6, g7, g8⟩ := hgw
    refine wpIn_rangeFunc_ownH (α := EvIn xs) rfl (by omega) (gf := 60) (lb := #[.pointer (some ⟨w4.heap.size + 1 + 1, 0, none⟩), .pointer (some ⟨w4.heap.size + 1 + 1 + 1, 0, none⟩)]) rfl trivial (enters_of Tryz.func60 (by kernel_rfl) rfl)
      (those_stops Fence.wide 8 trivial rfl (by omega) (w4.heap.size + 1 + 1) (w4.heap.size + 1 + 1 + 1) (w4.heap.size + 1) w5.heap.size gR w.heap.size m c 4 4 A xs [1, 2, 3, 4] w5 (by omega) rfl (by omega) (by simp) (by omega) (by omega) (Nat.le_refl _) (by omega) (by omega) (by omega) (by omega) kl5 kd5 kq5 hE5)
      (fun h1 h2 => h1.trans h2) (fun W l o o' hl ho hc _ => kb_put hl (Nat.le_refl _) ho hc) (Below.refl _ _) (fun _ => rfl)
      (StJ w w5 xs us gR c4) (fun _ _ _ => False) (stJ_own w w5 xs us gR c4 (by omega)) (fun _ _ _ _ _ hs _ _ => hs) hstart
      (fun x a' W => ∃ Bx, w5.heap.size ≤ Bx ∧ Blk W Bx 38 (evCells x.1) ∧ a' = roundC A m c w.heap.size w4.heap.size mp Bx (.slice A3 n1 c3) (.slice A4 us.length c4) (.agg (evCells x.1))) ?ax2 ?assign2 ?body2 ?done2 ?stop2
    case ax2 =>
      rintro x a' s W W' row ⟨Bx, h1, h2, h3⟩ hg hr
      exact ⟨Bx, h1, h2.grown hg (nc_ne hr h2), h3⟩
    case assign2 =>
      rintro l pre x W K ⟨j1, j2, j3⟩ hK'
      obtain ⟨⟨d, dv, cv⟩, hx⟩ := x
      obtain ⟨⟨A1, n2, m1, e1, p1⟩, ⟨A2, n3, m2, e2, p2⟩⟩ := HE.out.2.2 _ hx
      clear p1 p2
      dsimp only at e1 e2
      subst e1 e2
      have z5 := j2.size
      simp only [evArg]
      gi_wp2
      refine hK' _ _ ((KeepsOthers.alloc _ _).from _) (KeepBut.of_below ((Below.refl _ W).alloc (Nat.le_refl _) _) z5) ⟨j1.alloc j1.size _, j2.trans (KeepBut.of_below ((Below.refl _ W).alloc (Nat.le_refl _) _) z5), ?_⟩ ⟨W.heap.size, z5, Blk.new W _ _, rfl⟩
      rcases j3 with j3 | ⟨cs, j3, j4⟩
      · exact .inl j3
      · exact .inr ⟨cs, j3.alloc _, j4⟩
    case body2 =>
      rintro l pre x a' W6 hl ⟨r, hr⟩ ⟨j1, j2, j3⟩ ⟨Bx, hBx, kx, rfl⟩ hpl
      obtain ⟨⟨d, dv, cv⟩, hx⟩ := x
      obtain ⟨⟨A1, n2, m1, e1, p1⟩, ⟨A2, n3, m2, e2, p2⟩⟩ := HE.out.2.2 _ hx
      have hwt := HWF.out _ hx
      dsimp only at *
      subst e1 e2
      clear p1 p2
      have HWT := hide hwt
      clear hwt
      have z6 := j2.size
      have kM6 := j2.blk kM (by omega) (Ne.symm g3)
      have k36 := j2.blk k35 (by omega) (Ne.symm g2)
      have hown6 : W6.ownsMap Tryz.prog 3 (plainElem Tryz.prog 3) mp NN DD := by
        obtain ⟨es, clock, he, r⟩ := hown5
        exact ⟨es, clock, (j2.block mp (by omega) (Ne.symm g7)).trans he, r⟩
      have qM := kM6.cell 0
      have lM := kM6.lt
      have q36 := k36.cell 0
      have l36 := k36.lt
      have qx := kx.cell
      have lx := kx.lt
      simp only [roundC, evCells] at *
      by_cases hin : d.txn ∈ us.map StoD.txn
      · obtain ⟨i, s, hi, hts, hpl2⟩ := plc_idx hin
        have hhas : Maps.has DD (.int .i64 d.txn) = true := by rw [(HRM.out d.txn).1]; exact decide_eq_true hin
        have HCC := hide (fun (c : Int) (hc : DD.atKey (.int .i64 d.txn) (.lit (.int .i64 0)) = .lit (.int .i64 c)) => show c = (i : Int) by
          have h1 := (HRM.out d.txn).2 hin
          rw [hc, hpl2] at h1
          injection h1 with h1
          injection h1)
        rcases j3 with j3 | ⟨cs, kR, hcs, hcl⟩
        · rw [j3] at hi; simp at hi
        have hgA : A4 = some ⟨gR, 0, none⟩ := by
          rcases hgR with ⟨h, _⟩ | ⟨h, _⟩
          · rw [h] at hi; simp at hi
          · exact h
        subst hgA
        have hiu : i < us.length := (List.getElem?_eq_some_iff.1 hi).1
        have hst := stAt_at (l := pre.map (fun x => x.1.d)) HND.out hi hts
        have hsi : (stAt us (pre.map (fun x => x.1.d)))[i]? = some (fold s (pre.map (fun x => x.1.d))) := by unfold stAt; rw [List.getElem?_map, hi]; rfl
        generalize fold s (pre.map (fun x => x.1.d)) = s6 at hst hsi
        have hcell : ∀ (j : Nat) (u : Value), j < 4 → s6.cells[j]? = some u → W6.cell? ⟨gR, i * 4 + j, none⟩ = some u := fun j u hj hu => by
          rw [kR.cell]
          refine hcl _ u ?_
          rw [flat_at _ 4 StoD.cells_length _ _ _ hj, hsi]
          exact hu
        have hc2 := hcell 2 _ (by omega) rfl
        have hc3 := hcell 3 _ (by omega) rfl
        have fR := kR.frozen
        have lR := kR.lt
        have FIN := hide (fun (j : Nat) (u : Value) (hj : j < 4) (hs : (rupd s6 d).cells = s6.cells.set j u) =>
          show KeepsFrom w5.heap.size W6 (W6.setCell ⟨gR, i * 4 + j, none⟩ u) ∧ KeepBut w5.heap.size gR W6 (W6.setCell ⟨gR, i * 4 + j, none⟩ u) ∧ StJ w w5 xs us gR c4 (pre ++ [⟨⟨d, .slice A1 n2 m1, .slice A2 n3 m2⟩, hx⟩]) (W6.setCell ⟨gR, i * 4 + j, none⟩ u) from
          ⟨(KeepsOthers.setCell _ _ _).from _, KeepBut.cell kR (by decide) _, j1.setCell (p := ⟨gR, i * 4 + j, none⟩) g1 _, j2.trans (KeepBut.cell kR (by decide) _), .inr ⟨_, kR.set_ _ _, by simpa using hcs, by
            rw [List.map_append]
            have := sto_set hcl hsi hj hs
            rw [← hst] at this
            exact this⟩⟩)
        have FIN0 := hide (fun (hs : rupd s6 d = s6) => show KeepsFrom w5.heap.size W6 W6 ∧ KeepBut w5.heap.size gR W6 W6 ∧ StJ w w5 xs us gR c4 (pre ++ [⟨⟨d, .slice A1 n2 m1, .slice A2 n3 m2⟩, hx⟩]) W6 from
          ⟨(KeepsOthers.refl _).from _, KeepBut.refl _ _ _, j1, j2, .inr ⟨cs, kR, hcs, by
            rw [List.map_append]
            have e : stAt us (pre.map (fun x => x.1.d) ++ [d]) = stAt us (pre.map (fun x => x.1.d)) := by
              rw [hst, hs]
              obtain ⟨h1, h2⟩ := List.getElem?_eq_some_iff.1 hsi
              rw [← h2, List.set_getElem_self]
            have e2 : List.map (fun x : EvIn xs => x.1.d) [⟨⟨d, .slice A1 n2 m1, .slice A2 n3 m2⟩, hx⟩] = [d] := rfl
            rw [e2, e]
            exact hcl⟩⟩)
        have s1 : (i : Int) < us.length := by omega
        have s2 : (0 : Int) ≤ i := by omega
        obtain ⟨t6, cl6, fa6, wr6⟩ := s6
        dsimp only [StoD.cells] at hc2 hc3
        have HHAS := hide hhas
        clear hin hi hts hpl2 hhas hst hsi hcell hcl hcs HND kR
        by_cases a1 : d.act = 1
        · have b1 : ((d.act : Int) == 1) = true := by simpa using a1
          have HA := hide a1
          clear a1
          cases o3 : wr6
          · subst o3
            cases o1 : (d.op.act != 0)
            · gi_wp2_with (gi_at_lookup; refine wpListIn_lookup_own_ok_int _ rfl _ _ 82 rfl 3 3 .i64 law_int Tryz.underlying82 Tryz.underlying3 (zero_int _) mp NN DD rfl hown6 _ _ rfl (keyOf_int_mk Tryz.underlying3 HWT.out) ?_; intro cc hat hwc; rw [HHAS.out]; (obtain rfl := HCC.out cc hat); clear hat hwc)
              refine FIN.out 3 _ (by omega) ?_; simp [rupd, StoD.cells, HA.out, o1]
            · cases o2 : (d.err == 0)
              · gi_wp2_with (gi_at_lookup; refine wpListIn_lookup_own_ok_int _ rfl _ _ 82 rfl 3 3 .i64 law_int Tryz.underlying82 Tryz.underlying3 (zero_int _) mp NN DD rfl hown6 _ _ rfl (keyOf_int_mk Tryz.underlying3 HWT.out) ?_; intro cc hat hwc; rw [HHAS.out]; (obtain rfl := HCC.out cc hat); clear hat hwc)
                refine FIN.out 3 _ (by omega) ?_; simp [rupd, StoD.cells, HA.out, o1, o2]
              · gi_wp2_with (gi_at_lookup; refine wpListIn_lookup_own_ok_int _ rfl _ _ 82 rfl 3 3 .i64 law_int Tryz.underlying82 Tryz.underlying3 (zero_int _) mp NN DD rfl hown6 _ _ rfl (keyOf_int_mk Tryz.underlying3 HWT.out) ?_; intro cc hat hwc; rw [HHAS.out]; (obtain rfl := HCC.out cc hat); clear hat hwc)
                refine FIN.out 3 _ (by omega) ?_; simp [rupd, StoD.cells, HA.out, o1, o2]
          · subst o3
            gi_wp2_with (gi_at_lookup; refine wpListIn_lookup_own_ok_int _ rfl _ _ 82 rfl 3 3 .i64 law_int Tryz.underlying82 Tryz.underlying3 (zero_int _) mp NN DD rfl hown6 _ _ rfl (keyOf_int_mk Tryz.underlying3 HWT.out) ?_; intro cc hat hwc; rw [HHAS.out]; (obtain rfl := HCC.out cc hat); clear hat hwc)
            refine FIN.out 3 _ (by omega) ?_; simp [rupd, StoD.cells, HA.out]
        have b1 : ((d.act : Int) == 1) = false := by simpa using a1
        by_cases a2 : d.act = 2
        · have b2 : ((d.act : Int) == 2) = true := by simpa using a2
          have HA := hide a2
          clear a2 a1
          gi_wp2_with (gi_at_lookup; refine wpListIn_lookup_own_ok_int _ rfl _ _ 82 rfl 3 3 .i64 law_int Tryz.underlying82 Tryz.underlying3 (zero_int _) mp NN DD rfl hown6 _ _ rfl (keyOf_int_mk Tryz.underlying3 HWT.out) ?_; intro cc hat hwc; rw [HHAS.out]; (obtain rfl := HCC.out cc hat); clear hat hwc)
          refine FIN.out 2 _ (by omega) ?_; simp [rupd, StoD.cells, HA.out]
        have b2 : ((d.act : Int) == 2) = false := by simpa using a2
        by_cases a3 : d.act = 3
        · have b3 : ((d.act : Int) == 3) = true := by simpa using a3
          have HA := hide a3
          clear a2 a1 a3
          gi_wp2_with (gi_at_lookup; refine wpListIn_lookup_own_ok_int _ rfl _ _ 82 rfl 3 3 .i64 law_int Tryz.underlying82 Tryz.underlying3 (zero_int _) mp NN DD rfl hown6 _ _ rfl (keyOf_int_mk Tryz.underlying3 HWT.out) ?_; intro cc hat hwc; rw [HHAS.out]; (obtain rfl := HCC.out cc hat); clear hat hwc)
          refine FIN.out 2 _ (by omega) ?_; simp [rupd, StoD.cells, HA.out]
        have b3 : ((d.act : Int) == 3) = false := by simpa using a3
        by_cases a4 : d.act = 4
        · have b4 : ((d.act : Int) == 4) = true := by simpa using a4
          have HA := hide a4
          clear a2 a1 a3 a4
          gi_wp2_with (gi_at_lookup; refine wpListIn_lookup_own_ok_int _ rfl _ _ 82 rfl 3 3 .i64 law_int Tryz.underlying82 Tryz.underlying3 (zero_int _) mp NN DD rfl hown6 _ _ rfl (keyOf_int_mk Tryz.underlying3 HWT.out) ?_; intro cc hat hwc; rw [HHAS.out]; (obtain rfl := HCC.out cc hat); clear hat hwc)
          refine FIN.out 2 _ (by omega) ?_; simp [rupd, StoD.cells, HA.out]
        have b4 : ((d.act : Int) == 4) = false := by simpa using a4
        have HA := hide (show d.act ∉ [(1 : Int), 2, 3, 4] by simp [a1, a2, a3, a4])
        clear a1 a2 a3 a4
        gi_wp2_with (gi_at_lookup; refine wpListIn_lookup_own_ok_int _ rfl _ _ 82 rfl 3 3 .i64 law_int Tryz.underlying82 Tryz.underlying3 (zero_int _) mp NN DD rfl hown6 _ _ rfl (keyOf_int_mk Tryz.underlying3 HWT.out) ?_; intro cc hat hwc; rw [HHAS.out]; (obtain rfl := HCC.out cc hat); clear hat hwc)
        exact FIN0.out (rupd_out HA.out)
      · have hhas : Maps.has DD (.int .i64 d.txn) = false := by rw [(HRM.out d.txn).1]; exact decide_eq_false hin
        have HHAS := hide hhas
        have HIN := hide hin
        clear hin hhas
        gi_wp2_with (gi_at_lookup; refine wpListIn_lookup_own_ok_int _ rfl _ _ 82 rfl 3 3 .i64 law_int Tryz.underlying82 Tryz.underlying3 (zero_int _) mp NN DD rfl hown6 _ _ rfl (keyOf_int_mk Tryz.underlying3 HWT.out) ?_; intro cc hat hwc; rw [HHAS.out]; clear hat hwc)
        refine ⟨(KeepsOthers.refl _).from _, KeepBut.refl _ _ _, j1, j2, ?_⟩
        rw [List.map_append, show List.map (fun x : EvIn xs => x.1.d) [⟨⟨d, .slice A1 n2 m1, .slice A2 n3 m2⟩, hx⟩] = [d] from rfl, stAt_far HIN.out]
        exact j3
    case done2 =>
      rintro D2 ys W7 hD2 hS2 ⟨j1, j2, j3⟩ hK2
      subst hS2
      rw [st_those us xs m HL.out] at j3
      have k37 := j2.blk k35 (by omega) (Ne.symm g2)
      have hD7 : W7.heap[D]? = some (.deferred (some [])) := (j2.block D (by have := (Array.getElem?_eq_some_iff.1 hD5).1; exact this) (Ne.symm g8)).trans hD5
      have hDD : D < w5.heap.size := (Array.getElem?_eq_some_iff.1 hD5).1
      have q37 := k37.cell 0
      have l37 := k37.lt
      dsimp only
      gi_wp2_with fail
      have hD8 : (W7.putObj D2 (.deferred none)).heap[D]? = some (.deferred (some [])) := (World.putObj_heap_other (by omega)).trans hD7
      refine ⟨by simp, .inl ⟨_, _, rfl, run_takeDeferred hK2, by simp, .inl ⟨_, _, rfl, run_takeDeferred hD8, ?_⟩⟩⟩
      refine ⟨_, results_tmp rfl _ _ _, ?_⟩
      have hlen : us.length = (storiesD (xs.map EvV.d)).length := by rw [HFIN.out]; simp [stAt]
      refine ⟨A4, c4, by rw [← hlen]; rfl, ⟨rfl, ?_⟩, ?_⟩
      · refine ⟨flat_length _ 4 StoD.cells_length _, fun hn => ?_⟩
        have hne : us ≠ [] := fun e => by rw [← hlen, e] at hn; simp at hn
        rcases hgR with ⟨h, _⟩ | ⟨rfl, h1, h2⟩
        · exact absurd h hne
        rcases j3 with j3 | ⟨cs, kR, hcs, hcl⟩
        · exact absurd j3 hne
        have hgD2 : gR ≠ D2 := fun e => by
          subst e
          unfold Blk at kR
          rw [hK2] at kR
          cases kR
        have kR2 : Blk ((W7.putObj D2 (.deferred none)).putObj D (.deferred none)) gR 64 cs := ((World.putObj_heap_other g8).trans (World.putObj_heap_other hgD2)).trans kR
        refine ⟨_, rfl, kR2.lt, fun j u hu => ?_⟩
        rw [add_plain, Nat.zero_add, kR2.cell]
        rw [HFIN.out] at hu
        exact hcl j u hu
      · exact (j1.grown (grownBy_putObj' W7 D2 _) j1.size (fun k hk => by injection hk with hk; omega)).grown (grownBy_putObj' _ D _) (by simp [World.putObj]; exact j1.size) (fun k hk => by injection hk with hk; omega)
    case stop2 =>
      rintro D c' pre W _ _ hI _
      exact hI.elim
  case stop =>
    rintro D c' pre W _ _ hI _
    exact hI.elim
end Go.Proofs.YteidmdnhkgcnoaaGreat
