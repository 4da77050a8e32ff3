/-
  WALKS OF THE PROGRAM: be.parts, be.Put.
-/
import Derived.Test.YtnanlaefehaifaaGreatRA
namespace Go.Proofs.YtnanlaefehaifaaGreat
open Go.RowKit Go.Shelf

attribute [local go_sem] Oper.semAt_some

/-- The byte of a number that lies s bits up. -/
def byteS (n : Int) (s : Nat) : UInt8 := UInt8.ofNat ((IntKind.u64.wrap n / 2 ^ s % 256).toNat)
theorem byteS_int (n : Int) (s : Nat) : (((byteS n s).toNat : Nat) : Int) = IntKind.u64.wrap n / 2 ^ s % 256 := by
  unfold byteS
  have h1 : 0 ≤ IntKind.u64.wrap n / 2 ^ s % 256 := Int.emod_nonneg _ (by omega)
  have h2 : IntKind.u64.wrap n / 2 ^ s % 256 < 256 := Int.emod_lt_of_pos _ (by omega)
  rw [UInt8.toNat_ofNat']
  omega
/-- The lowest bytes of a number, the greatest ahead. -/
def beB (width : Nat) (n : Int) : List UInt8 := (List.range width).map fun i => byteS n (8 * (width - 1 - i))
theorem beB_length (width : Nat) (n : Int) : (beB width n).length = width := by simp [beB]
theorem beB_at {width k : Nat} (n : Int) (h : k < width) : (beB width n)[k]? = some (byteS n (8 * (width - 1 - k))) := by simp [beB, h]
/-- What a round keeps: the iterator's two boxes. -/
def KeepT (b1 b2 : Nat) (W W' : World) : Prop := W'.heap[b1]? = W.heap[b1]? ∧ W'.heap[b2]? = W.heap[b2]? ∧ W.heap.size ≤ W'.heap.size
theorem KeepT.refl (b1 b2 : Nat) (W : World) : KeepT b1 b2 W W := ⟨rfl, rfl, Nat.le_refl _⟩
theorem KeepT.trans {b1 b2 : Nat} {A B C : World} (h : KeepT b1 b2 A B) (k : KeepT b1 b2 B C) : KeepT b1 b2 A C := ⟨k.1.trans h.1, k.2.1.trans h.2.1, Nat.le_trans h.2.2 k.2.2⟩
set_option maxRecDepth 100000 in
set_option maxHeartbeats 4000000 in
/-- The iterator's closure. -/
theorem parts1_in (m : Nat) (hm : 1 ≤ m) (l b1 b2 width : Nat) (n : Int) (J Jx : List UInt8 → World → Prop) (hw1 : 1 ≤ width) (hw8 : width ≤ 8)
    (hY : ∀ pre (x : UInt8) W, J pre W → pre.length < width → YieldAt Fence.wide (m - 1) Tryz.prog l #[.int .u8 (x.toNat : Nat)] W fun e W' =>
      (e = .returned (.bool true) ∧ J (pre ++ [x]) W' ∧ KeepT b1 b2 W W') ∨ (e = .returned (.bool false) ∧ Jx (pre ++ [x]) W'))
    (W : World) (k1 : Blk W b1 3 #[.int .i64 (width : Nat)]) (k2 : Blk W b2 3 #[.int .i64 n]) (h0 : J [] W) :
    CallsIn Fence.wide m Tryz.prog 225 #[.func (.yield l) #[] #[], .pointer (some ⟨b1, 0, none⟩), .pointer (some ⟨b2, 0, none⟩)] W fun e W' => (∃ v, e = .returned v) ∧
      (J (beB width n) W' ∨ (∃ k, k ≤ width ∧ Jx ((beB width n).take k) W')) := by
  refine callsIn_of_wp Tryz.func225 rfl trivial ?_ rfl
  simp only [Tryz.ntmps225, List.size_toArray, List.length_cons, List.length_nil, Nat.reduceAdd, Nat.reduceSub, Array.replicate_succ, Array.replicate_zero, List.push_toArray, List.append_toArray, List.nil_append, List.cons_append]
  have q1 := k1.cell 0
  gi_wp2
  gi_loopw [4] (fun sv wr => ∃ (k : Nat), k ≤ width ∧ sv = .int .i64 (8 * ((width : Int) - 1 - k)) ∧ J ((beB width n).take k) wr ∧ KeepT b1 b2 W wr) (fun sv _ => (intOf sv + 8).toNat)
  case atStart => exact ⟨0, Nat.zero_le _, by go_num, by simpa using h0, KeepT.refl _ _ _⟩
  case round =>
    obtain ⟨k, hk, rfl, hJ, hkp⟩ := hrel
    have k1' : Blk wr b1 3 #[.int .i64 (width : Nat)] := hkp.1.trans k1
    have k2' : Blk wr b2 3 #[.int .i64 n] := hkp.2.1.trans k2
    have q2 := k2'.cell 0
    by_cases hlt : k < width
    · have hpl : ((beB width n).take k).length < width := by rw [List.length_take, beB_length]; omega
      have HJ := hide hJ
      have s1 : (0 : Int) ≤ 8 * ((width : Int) - 1 - k) := by omega
      clear hJ
      obtain ⟨fn, tmps, assign, body, hy, hR⟩ := hY _ (byteS n (8 * (width - 1 - k))) wr HJ.out hpl
      rw [byteS_int] at hy
      have HTK := hide (show (beB width n).take k ++ [byteS n (8 * (width - 1 - k))] = (beB width n).take (k + 1) by
        obtain ⟨hk2, e⟩ := List.getElem?_eq_some_iff.1 (beB_at n hlt)
        rw [List.take_succ_eq_append_getElem hk2, e])
      gi_wp2
      refine hR.mono ?_
      rintro e W3 (⟨rfl, hJ3, hk3⟩ | ⟨rfl, hJx3⟩)
      · gi_wp2
        go_roundw
        case rel => exact ⟨k + 1, by omega, by go_num, by rw [← HTK.out]; exact hJ3, hkp.trans hk3⟩
        case measure => simp [intOf]; omega
      · gi_wp2
        refine bodyPost_ret (results_none rfl _ _ _) rfl ?_
        exact ⟨⟨_, rfl⟩, .inr ⟨k + 1, by omega, by rw [← HTK.out]; exact hJx3⟩⟩
    · have hT : (beB width n).take k = beB width n := List.take_of_length_le (by rw [beB_length]; omega)
      have HT := hide hT
      have s1 : ¬ (0 : Int) ≤ 8 * ((width : Int) - 1 - k) := by omega
      clear hT
      gi_wp2
      go_end0
      exact ⟨⟨_, rfl⟩, .inl (by rw [← HT.out]; exact hJ)⟩
theorem parts_in (m : Nat) (width n : Int) (w : World) :
    CallsIn Fence.wide m Tryz.prog 177 #[.int .i64 width, .int .i64 n] w fun e w' => e = .returned (.func (.func 225) #[] #[.pointer (some ⟨w.heap.size, 0, none⟩), .pointer (some ⟨w.heap.size + 1, 0, none⟩)]) ∧ w' = (w.alloc (.cells #[.int .i64 width] 3)).alloc (.cells #[.int .i64 n] 3) := by
  refine callsIn_of_wp Tryz.func177 rfl trivial ?_ rfl
  simp only [Tryz.ntmps177, List.size_toArray, List.length_cons, List.length_nil, Nat.reduceAdd, Nat.reduceSub, Array.replicate_succ, Array.replicate_zero, List.push_toArray, List.append_toArray, List.nil_append, List.cons_append]
  gi_wp2
  go_ret
  exact ⟨rfl, rfl⟩
theorem parts_stops (m : Nat) (hm : 1 ≤ m) (b1 b2 width : Nat) (n : Int) (w : World) (hw1 : 1 ≤ width) (hw8 : width ≤ 8) (k1 : Blk w b1 3 #[.int .i64 (width : Nat)]) (k2 : Blk w b2 3 #[.int .i64 n]) :
    SeqStopsK Fence.wide m Tryz.prog 225 #[.pointer (some ⟨b1, 0, none⟩), .pointer (some ⟨b2, 0, none⟩)] (fun x : UInt8 => #[.int .u8 (x.toNat : Nat)]) (KeepT b1 b2) (fun ys => ys = beB width n) (fun pre => ∃ k, k ≤ width ∧ pre = (beB width n).take k) width w := by
  intro l J Jx W hW hJ hJx hY hJ0
  refine (parts1_in m hm l b1 b2 width n J Jx hw1 hw8 hY W (Blk.via hW k1) (Blk.via hW k2) hJ0).mono ?_
  rintro e W' ⟨hv, h | ⟨k, hk, h⟩⟩
  · exact ⟨hv, .inl ⟨_, rfl, h⟩⟩
  · exact ⟨hv, .inr ⟨_, ⟨k, hk, rfl⟩, h⟩⟩
/-- While be.Put goes on: out has b's bytes and those that were handed. -/
def PutI (w : World) (Bo : Nat) (width n : Int) (bs : List UInt8) (pre : List UInt8) (W : World) : Prop := ∃ v, Blk W Bo 33 #[v] ∧ OwnB W w.heap.size v (bs ++ pre) ∧ Below w.heap.size w W ∧ Blk W (Bo + 1) 3 #[.int .i64 width] ∧ Blk W (Bo + 1 + 1) 3 #[.int .i64 n]
theorem Blk.keepB {w w' : World} {b base n s : Nat} {t e : TypeId} {cs : Array Value} {v : Value} {xs : List Value} (k : Blk w b t cs) (h2 : w.ownsRow base e s v n xs) (hne : t ≠ e) (hg : w.grownBy w' v.ownBlock) : Blk w' b t cs := by
  refine k.grown hg (fun e' => ?_)
  obtain ⟨_, ⟨rfl, _⟩ | ⟨g, _, cur, rfl, _, hh, _⟩⟩ := h2
  · cases e'
  · injection e' with e'
    subst e'
    exact k.ne_ (show Blk w b e cur from hh) hne rfl
theorem gen3R {w : World} {c0 c1 c2 : Array Value} {t0 t1 t2 : TypeId} {R : World → Prop} (h : ∀ W, Blk W w.heap.size t0 c0 → Blk W (w.heap.size + 1) t1 c1 → Blk W (w.heap.size + 1 + 1) t2 c2 → Below w.heap.size w W → w.heap.size + 3 ≤ W.heap.size → R W) :
    R (((w.alloc (.cells c0 t0)).alloc (.cells c1 t1)).alloc (.cells c2 t2)) := by
  refine h _ (((Blk.new w t0 c0).alloc _).alloc _) ?_ ?_ ?_ (by simp)
  · exact ((by simpa using Blk.new (w.alloc (.cells c0 t0)) t1 c1 : Blk _ (w.heap.size + 1) t1 c1).alloc _)
  · exact (by simpa using Blk.new ((w.alloc (.cells c0 t0)).alloc (.cells c1 t1)) t2 c2 : Blk _ (w.heap.size + 1 + 1) t2 c2)
  · exact ((((Below.refl _ _).alloc (Nat.le_refl _) _).alloc (by simp) _).alloc (by simp; omega) _)
theorem leave_mark {F : Fence} {n D : Nat} {P : Program} {fn : Func} {tmps : Array Value} {R : Ending → World → Prop} {W : World} {v : Value} (hK : W.heap[D]? = some (.deferred (some [])))
    (hres : (results fn tmps).run P (W.putObj D (.deferred none)) = .ok v (W.putObj D (.deferred none))) (hR : R (.returned v) (W.putObj D (.deferred none))) :
    LeavesInM F n P fn tmps R [{ target := .collected D, args := #[] }] .returning W :=
  ⟨by simp, .inl ⟨_, _, rfl, run_takeDeferred hK, _, hres, hR⟩⟩
theorem putI_own (w w1 : World) (Bo : Nat) (width n : Int) (bs : List UInt8) (hw : w.heap.size ≤ w1.heap.size) : OwnFrom w1.heap.size (PutI w Bo width n bs) := by
  rintro pre W W' row ⟨v, k1, k2, k3, k4, k5⟩ hg hr
  refine ⟨v, k1.grown hg (nc_ne hr k1), k2.keep fun q hq => ?_, k3.grown hg k3.size (fun q hq => by have := (hr q hq).1; omega), k4.grown hg (nc_ne hr k4), k5.grown hg (nc_ne hr k5)⟩
  obtain ⟨cur, e⟩ := row_obj k2 hq
  exact hg.block q (k2.lt q hq).2 (nc_ne hr e)
set_option maxRecDepth 100000 in
set_option maxHeartbeats 8000000 in
/-- be.Put behind a nil list. -/
theorem put_nil (width : Nat) (n : Int) (w : World) (hw1 : 1 ≤ width) (hw8 : width ≤ 8) :
    Calls Tryz.prog 113 #[.slice none 0 0, .int .i64 (width : Nat), .int .i64 n] w fun e w' => ∃ g c, e = .returned (.slice (some ⟨g, 0, none⟩) width c) ∧ OwnB w' w.heap.size (.slice (some ⟨g, 0, none⟩) width c) (beB width n) ∧ Below w.heap.size w w' := by
  have hmf : ∀ (fn : Fn) (first cap : Array Value) (w : World), (Instr.makeFunc fn first cap).run Tryz.prog w = .ok (.func fn first cap) w := fun _ _ _ _ => rfl
  have HWI := hide (fun W => wide_any (width : Nat) true (decide_eq_true ⟨by omega, by omega⟩) W)
  have HWT := hide (fun W => with_nil 0 width W (by omega))
  refine (callsIn_wide (n := 9)).1 ?_
  refine callsIn_of_wp_marks Tryz.func113 rfl trivial ?_ rfl
  simp only [Tryz.ntmps113, List.size_toArray, List.length_cons, List.length_nil, Nat.reduceAdd, Nat.reduceSub, Array.replicate_succ, Array.replicate_zero, List.push_toArray, List.append_toArray, List.nil_append, List.cons_append]
  gi_wp2_with (first
    | (refine ⟨trivial, ?_⟩; gi_at_call 175; refine (callsIn_wide.2 (HWI.out _)).mono ?_; rintro e w' ⟨rfl, hw'⟩; obtain rfl := hw'.symm)
    | (refine ⟨trivial, ?_⟩; gi_at_call 176; refine (callsIn_wide.2 (HWT.out _)).mono ?_; rintro e w1 ⟨g1, rfl, ho1, hb1⟩)
    | (refine ⟨trivial, ?_⟩; gi_at_call 177; refine (parts_in _ _ _ _).mono ?_; rintro e w' ⟨rfl, rfl⟩))
  refine gen3R (fun w2 kO k1 k2 hb2 hz2 => ?_)
  have hw12 := hb1.size
  have hbw2 := hb1.trans (hb2.mono hb1.size)
  have ho2 : OwnB w2 w.heap.size (.slice (some ⟨g1, 0, none⟩) 0 width) [] := ho1.via hb2
  refine wpIn_rangeFunc_ownH (α := UInt8) rfl (by omega) (gf := 225) (lb := #[.pointer (some ⟨w1.heap.size + 1, 0, none⟩), .pointer (some ⟨w1.heap.size + 1 + 1, 0, none⟩)]) rfl trivial (enters_of Tryz.func225 (by kernel_rfl) rfl)
    (parts_stops 8 (by omega) (w1.heap.size + 1) (w1.heap.size + 1 + 1) width n w2 hw1 hw8 k1 k2)
    (fun h1 h2 => h1.trans h2) ?kb (Below.refl _ _) (fun _ => rfl)
    (PutI w w1.heap.size (width : Nat) n []) (fun _ _ _ => False) (putI_own w w2 _ _ _ _ (by omega)) (fun _ _ _ _ _ hs _ _ => hs) ?start
    (fun x a' W => a' = { tmps := #[.slice none 0 0, .int .i64 (width : Nat), .int .i64 n, undef, undef, undef, .slice none 0 0, .pointer (some ⟨w1.heap.size, 0, none⟩), .int .u8 (x.toNat : Nat), .int .i64 (width : Nat), .bool true, .bool false, undef, undef, .slice none 0 0, .int .i64 (width : Nat), .slice (some ⟨g1, 0, none⟩) 0 width, .int .i64 (width : Nat), .int .i64 n, .func (.func 225) #[] #[.pointer (some ⟨w1.heap.size + 1, 0, none⟩), .pointer (some ⟨w1.heap.size + 1 + 1, 0, none⟩)], .int .u8 (x.toNat : Nat), undef, undef, undef, undef, undef], defers := [] }) ?ax ?assign ?body ?done ?stop
  case kb =>
    intro W l o o' hl ho hc _
    exact ⟨World.putObj_heap_other (by omega), World.putObj_heap_other (by omega), by simp⟩
  case start => exact ⟨_, kO, ho2, hbw2, k1, k2⟩
  case ax =>
    rintro x a' _ W W' row h _ _
    exact h
  case assign =>
    rintro l pre x W K hI hK
    gi_wp2
    exact hK _ _ (KeepsFrom.refl _ _) (KeepT.refl _ _ _) hI rfl
  case body =>
    rintro l pre x a' W hl ⟨r, hr⟩ ⟨v, i1, i2, i3, i4, i5⟩ rfl hpl
    simp only [List.nil_append] at i2
    obtain ⟨A, cc, rfl, hnc, _⟩ := own_slice i2
    have q1 := i1.cell 0
    have f1 := i1.frozen 0
    have l1 := i1.lt
    have HI2 := hide (show W.ownsRow w.heap.size 5 1 (.slice A pre.length cc) pre.length (pre.map byteV) from i2)
    obtain ⟨i0, hi, hz0', hz1', hz2'⟩ := info_parts info_u8R
    have i3z := i3.size
    clear i2
    gi_wp2_with (gi_at_builtin; refine heldG ?_)
    refine unheldG ?_
    gi_at_builtin
    refine wpListIn_append_own _ rfl _ _ _ rfl w.heap.size 5 i0 _ 1 1 Tryz.underlying33 hi hz0' hz1' hz2' rfl (by omega) (.slice A pre.length cc) pre.length _ rfl (HI2.out.alloc _) ⟨W.heap.size, 0, none⟩ 1 1 [byteV x] rfl rfl ?c2 ?c3 ?c4 ?c5 ?c6 ?_
    case c2 => intro j u hu; rw [add_plain, Nat.zero_add, (Blk.new W 5 _).cell]; simpa [byteV] using hu
    case c3 => intro u hu; rw [List.mem_singleton] at hu; subst hu; rfl
    case c4 => unfold maxLen; omega
    case c5 => omega
    case c6 => simp; omega
    intro v' w4 hown4 hg4 _
    have kk : ∀ {g : Nat} {t : TypeId} {cs : Array Value}, Blk W g t cs → t ≠ 5 → Blk w4 g t cs := fun k hne => (k.alloc _).keepB (HI2.out.alloc _) hne hg4
    have j1 := kk i1 (by decide)
    have j4 := kk i4 (by decide)
    have j5 := kk i5 (by decide)
    have q14 := j1.cell 0
    have f14 := j1.frozen 0
    have l14 := j1.lt
    obtain ⟨A2, c2, rfl, _⟩ := own_slice hown4
    have HO4 := hide hown4
    have hO : KeepsOthers (W.alloc (.cells #[.int .u8 (x.toNat : Nat)] 5)) w4 := KeepsOthers.of_grownBy hg4 (fun j o e ho => by
      obtain ⟨cur, e'⟩ := row_obj (HI2.out.alloc (.cells #[.int .u8 (x.toNat : Nat)] 5)) e
      rw [e'] at ho
      injection ho with ho
      subst ho
      rfl)
    have hb4 : Below w.heap.size w w4 := (i3.alloc i3z _).grown hg4 (by simp; omega) (fun q hq => (World.ownsRow.lt HI2.out q hq).1)
    have hz4 : W.heap.size ≤ w4.heap.size := by have := hg4.size; simp at this; omega
    have HKO := hide hO
    clear hown4 hg4 q1 f1 l1 hO
    gi_wp2_with fail
    have hne1 : w1.heap.size + 1 ≠ w1.heap.size := by omega
    have hne2 : w1.heap.size + 1 + 1 ≠ w1.heap.size := by omega
    refine ⟨((KeepsOthers.alloc _ _).from _).trans ((HKO.out.from _).trans ((KeepsOthers.setCell _ _ _).from _)), ⟨?_, ?_, by simp [World.setCell]; exact hz4⟩, _, j1.set_ 0 _, ?_, hb4.setCell (p := ⟨w1.heap.size, 0, none⟩) hw12 _, j4.far (p := ⟨w1.heap.size, 0, none⟩) hne1 _, j5.far (p := ⟨w1.heap.size, 0, none⟩) hne2 _⟩
    · exact (j4.far (p := ⟨w1.heap.size, 0, none⟩) hne1 _).trans i4.symm
    · exact (j5.far (p := ⟨w1.heap.size, 0, none⟩) hne2 _).trans i5.symm
    · have h2 : OwnB w4 w.heap.size (.slice A2 (pre.length + 1) c2) (pre ++ [x]) := by
        unfold OwnB
        rw [List.map_append, List.length_append]
        exact HO4.out
      exact h2.far j1 (by decide) _
  case done =>
    rintro D ys W hD rfl ⟨v, i1, i2, i3, i4, i5⟩ hK
    obtain ⟨A, cc, rfl, hnc, _⟩ := own_slice i2
    have q1 := i1.cell 0
    have f1 := i1.frozen 0
    have l1 := i1.lt
    have HI2 := hide i2
    clear i2
    simp only [List.nil_append, beB_length] at HI2 hnc q1 ⊢
    gi_wp2
    have hg : ∃ g, A = some ⟨g, 0, none⟩ := by
      have h1 := HI2.out
      unfold OwnB at h1
      rcases h1.2 with ⟨_, h2⟩ | ⟨g, cap, cur, h2, _⟩
      · rw [beB_length] at h2; omega
      · injection h2 with h2 _ _
        exact ⟨g, h2⟩
    obtain ⟨g, rfl⟩ := hg
    refine leave_mark (v := .slice (some ⟨g, 0, none⟩) width cc) hK (by simp [results, Tryz.results113, go_sem]) ⟨g, cc, rfl, HI2.out.keep (fun q hq => World.putObj_heap_other (fun e => ?_)), i3.grown (grownBy_putObj' W D _) i3.size (fun k hk => by injection hk with hk; omega)⟩
    subst e
    obtain ⟨cur, e2⟩ := row_obj HI2.out hq
    rw [hK] at e2
    cases e2
  case stop =>
    rintro D c pre W hD _ hF _
    exact hF.elim
end Go.Proofs.YtnanlaefehaifaaGreat
