/-
  WALK OF THE PROGRAM: act.numbers: words as numbers; strconv.Atoi on any word.
-/
import Derived.Test.YtgokkbocboonnaaDoorShelf
import Derived.Test.YtgokkbocboonnaaDoorAE
import Derived.Lib.AtoiErrMem
import Derived.WalkKit
import Derived.BigCall
namespace Go.Proofs.YtgokkbocboonnaaDoor
open Go.RowKit Go.Shelf

theorem var_below {P : Program} {W W' : World} {nm : String} {cs : Array Value} (hb : Below W.heap.size W W') (h : W.var? P nm = some cs) : W'.var? P nm = some cs := by
  unfold World.var? at h ⊢
  cases hg : P.globalNamed nm with
  | none => rw [hg] at h; cases h
  | some g =>
    rw [hg] at h
    simp only [Option.bind_some] at h ⊢
    have hlt : g < W.heap.size := by
      rcases Nat.lt_or_ge g W.heap.size with h1 | h1
      · exact h1
      · rw [Array.getElem?_eq_none h1] at h; cases h
    rw [hb.block g hlt]
    exact h
/-- The library's two errors lie as they were laid. -/
def ErrV (W : World) : Prop := (∃ tp p, W.var? Tryd.prog "strconv.ErrSyntax" = some #[.iface tp p]) ∧ ∃ tp p, W.var? Tryd.prog "strconv.ErrRange" = some #[.iface tp p]
theorem ErrV.below {W W' : World} (h : ErrV W) (hb : Below W.heap.size W W') : ErrV W' := by
  obtain ⟨⟨t1, p1, h1⟩, t2, p2, h2⟩ := h
  exact ⟨⟨t1, p1, var_below hb h1⟩, t2, p2, var_below hb h2⟩
/-- strconv.Atoi on any word. -/
def AtoiPost (w : World) (x : List UInt8) (e : Ending) (w' : World) : Prop :=
  Below w.heap.size w w' ∧ ((∃ v, okA x = some v ∧ e = .returned (.tuple #[.int .i64 v, .nilIface])) ∨ (okA x = none ∧ ∃ v N, e = .returned (.tuple #[.int .i64 v, .iface 108 (.pointer (some ⟨N, 0, none⟩))])))
theorem atoi_any (x : List UInt8) (w : World) (hx : x.length ≤ 1000000) (hv : ErrV w) : Calls Tryd.prog 54 #[.string (tx x)] w (AtoiPost w x) := by
  obtain ⟨⟨t1, p1, h1⟩, t2, p2, h2⟩ := hv
  have hs := tx_size x
  cases h : Lib.atoiAll x with
  | ok v =>
    refine (Tryd.strconv_Atoi_ok (tx x) (by omega) v (by rw [tx_data]; exact h) w).mono ?_
    rintro e w' ⟨rfl, hw⟩
    refine ⟨?_, .inl ⟨v, by unfold okA; rw [h], rfl⟩⟩
    rcases hw with rfl | ⟨t, rfl⟩
    · exact Below.refl _ _
    · exact Lib.bytesWorld_below _ _ _
  | range =>
    refine (Tryd.strconv_Atoi_range_var (tx x) (by omega) (by rw [tx_data]; exact h) t2 p2 w h2).mono ?_
    rintro e w' ⟨N, rfl, _, _, hb⟩
    exact ⟨hb, .inr ⟨by unfold okA; rw [h], _, N, rfl⟩⟩
  | _ =>
    refine (Tryd.strconv_Atoi_syntax_var (tx x) (by omega) (by rw [tx_data]; exact h) t1 p1 w h1).mono ?_
    rintro e w' ⟨N, rfl, _, _, hb⟩
    exact ⟨hb, .inr ⟨by unfold okA; rw [h], _, N, rfl⟩⟩

/-- The value v is a slice of the words ws, below block B. -/
def Strs (w : World) (B : Nat) (A : Option Addr) (n : Nat) (ws : List (List UInt8)) : Prop := n = ws.length ∧ Reads w B 1 A n (ws.map fun x => .string (tx x))
section
variable {w w' : World} {B B' C n : Nat} {A : Option Addr} {ws : List (List UInt8)}
theorem Strs.below (h : Strs w B A n ws) (hb : Below C w w') (hC : B ≤ C) : Strs w' B A n ws := ⟨h.1, h.2.below hb hC⟩
theorem Strs.more (h : Strs w B A n ws) (hB : B ≤ B') : Strs w B' A n ws := ⟨h.1, h.2.more hB⟩
theorem Strs.at_ {k : Nat} (h : Strs w B A n ws) (hk : k < n) : ∃ b o x, A = some ⟨b, o, none⟩ ∧ b < B ∧ ws[k]? = some x ∧ w.cell? ⟨b, o + k, none⟩ = some (.string (tx x)) := by
  obtain ⟨rfl, hr⟩ := h
  obtain ⟨b, o, e, hb, hc⟩ := hr.plain (by omega) (by omega)
  exact ⟨b, o, ws[k], e, hb, List.getElem?_eq_getElem hk, hc _ _ (by simp [hk])⟩
/-- Without the first k. -/
theorem Strs.cut (h : Strs w B A n ws) {k cap : Nat} (hk : k ≤ n) (hc : n ≤ cap) : Strs w B (if cap = k then A else A.map (·.add (k * 1))) (n - k) (ws.drop k) := by
  obtain ⟨rfl, hr⟩ := h
  have := hr.cut hk hc
  exact ⟨by rw [List.length_drop], by simpa [List.map_drop] using this⟩
end
/-- What act.numbers tells. -/
def NumPost (w : World) (o : Option (List Int)) (e : Ending) (w' : World) : Prop :=
  Below w.heap.size w w' ∧ ((o = none ∧ e = .returned (.tuple #[.slice none 0 0, .bool false])) ∨
    ∃ ns g, o = some ns ∧ e = .returned (.tuple #[.slice (some ⟨g, 0, none⟩) ns.length ns.length, .bool true]) ∧ w.heap.size ≤ g ∧ Blk w' g 3 (ns.map (Value.int .i64)).toArray)
def NumbersRel (w : World) (ws : List (List UInt8)) (n : Nat) (i : Value) (wr : World) : Prop :=
  ∃ (k : Nat) (ns : List Int), k ≤ n ∧ i = .int .i64 k ∧ numsD (ws.take k) = some ns ∧ Below w.heap.size w wr ∧ w.heap.size + 1 ≤ wr.heap.size ∧ Blk wr w.heap.size 3 (ns.map (Value.int .i64) ++ List.replicate (n - k) (Value.int .i64 0)).toArray
theorem info_intA : (Tryd.prog.info? 3).map (fun i => (i.zero, i.size, i.bytes)) = some (some (.int .i64 0), 1, 8) := by kernel_rfl
theorem made_int (n : Nat) : madeCells #[Value.int .i64 0] n = (List.replicate n (Value.int .i64 0)).toArray := by
  refine Array.ext (by simp [size_madeCells]) (fun i h1 h2 => ?_)
  simp at h2
  simp [madeCells, Nat.mod_one]
theorem set_num {ns : List Int} {n k : Nat} {v : Int} (hk : k < n) (hl : ns.length = k) :
    ((ns.map (Value.int .i64) ++ List.replicate (n - k) (Value.int .i64 0)).toArray.setIfInBounds k (.int .i64 v)) = ((ns ++ [v]).map (Value.int .i64) ++ List.replicate (n - (k + 1)) (Value.int .i64 0)).toArray := by
  subst hl
  rw [List.setIfInBounds_toArray, List.set_append_right _ _ (by simp)]
  obtain ⟨r, hr⟩ : ∃ r, n - ns.length = r + 1 := ⟨n - ns.length - 1, by omega⟩
  rw [hr, List.replicate_succ]
  simp only [List.length_map, Nat.sub_self, List.set_cons_zero, List.map_append, List.map_cons, List.map_nil, List.append_assoc, List.singleton_append]
  rw [show n - (ns.length + 1) = r by omega]
set_option maxHeartbeats 1600000 in
theorem numbers_any (A : Option Addr) (m c : Nat) (ws : List (List UInt8)) (n : Nat) (B : Nat) (w : World) (hB : B ≤ w.heap.size) (hm : m ≤ 1000) (hn : n ≤ 1000) (h : Strs w B A m ws) (hl : ∀ x ∈ ws, x.length ≤ 1000000) (hv : ErrV w) :
    Calls Tryd.prog 42 #[.slice A m c, .int .i64 n] w (NumPost w (numsN ws n)) := by
  have HM := hide h.1
  have HLL := hide hl
  clear hl
  by_cases hnm : m < n
  · have HN := hide (show numsN ws n = none by unfold numsN; rw [if_neg (by have := h.1; omega)])
    have s1 : (m : Int) < n := by omega
    clear h hnm
    go_enter Tryd.func42, Tryd.ntmps42
    go_wp2
    refine bodyPost_ret (v := .tuple #[.slice none 0 0, .bool false]) (by simp [results, Tryd.results42, go_sem]) rfl ?_
    exact ⟨Below.refl _ _, .inl ⟨HN.out, rfl⟩⟩
  · have s1 : ¬ (m : Int) < n := by omega
    have HN := hide (show numsN ws n = numsD (ws.take n) by unfold numsN; rw [if_pos (by have := h.1; omega)])
    obtain ⟨i0, hi, hz0, hz1, hz2⟩ := info_parts info_intA
    have hmk := fun W => run_make_rowN (P := Tryd.prog) 26 3 i0 (.int .i64 0) Tryd.underlying26 hi hz0 .i64 .i64 n n (Nat.le_refl _) (by rw [hz2]; omega) (by omega) W
    rw [hz1] at hmk
    clear hi hz0 hz1 hz2
    go_enter Tryd.func42, Tryd.ntmps42
    go_wp2
    go_loopw [17] (NumbersRel w ws n) (fun i _ => n - (intOf i).toNat)
    case atStart => exact ⟨0, [], Nat.zero_le _, rfl, rfl, (Below.refl _ _).alloc (Nat.le_refl _) _, by simp, by rw [made_int]; exact Blk.new _ _ _⟩
    case round =>
      obtain ⟨k, ns, hk, rfl, hns, hbw, hz, hblk⟩ := hrel
      have HNS := hide hns
      by_cases hlt : k < n
      · obtain ⟨b, o, x, rfl, hb, hkx, hc⟩ := (h.below hbw hB).at_ (k := k) (by omega)
        have hxl := HLL.out x (List.mem_of_getElem? hkx)
        have hvw := hv.below hbw
        have HKX := hide hkx
        have HBK := hide hblk
        have s2 : (k : Int) < n := by omega
        have s3 : (k : Int) < m := by omega
        have s4 : (0 : Int) ≤ k := by omega
        clear hns hkx hblk
        go_wp2_with fail
        refine (atoi_any x _ hxl hvw).mono ?_
        rintro e w1 ⟨hb1, ⟨v, hv1, rfl⟩ | ⟨hv1, v, N, rfl⟩⟩
        · have HV := hide hv1
          have hB1 := HBK.out.via hb1
          have hnl : ns.length = k := by rw [numsD_length HNS.out, List.length_take]; have := HM.out; omega
          have q0 : w1.cell? ⟨w.heap.size, k, none⟩ = some (.int .i64 0) := by
            rw [hB1.cell]
            simp [List.getElem?_append_right, hnl]
            rw [List.getElem?_replicate, if_pos (by omega)]
          have q1 := hB1.frozen k
          have HNL := hide hnl
          clear hv1 hnl
          go_wp2
          go_roundw
          case rel =>
            refine ⟨k + 1, ns ++ [v], by omega, by go_num, ?_, (hbw.trans (hb1.mono (by omega))).setCell (p := ⟨w.heap.size, k, none⟩) (Nat.le_refl _) _, ?_, ?_⟩
            · obtain ⟨hk2, e⟩ := List.getElem?_eq_some_iff.1 HKX.out
              rw [List.take_succ_eq_append_getElem hk2, e]
              exact (numsD_snoc HNS.out).1 v HV.out
            · have := hb1.size
              simp [World.setCell]
              omega
            · have := hB1.set_ k (.int .i64 v)
              rw [set_num hlt HNL.out] at this
              exact this
          case measure => simp [intOf]; omega
        · have HV := hide hv1
          clear hv1
          go_wp2
          go_ret2
          refine ⟨hbw.trans (hb1.mono (by omega)), .inl ⟨?_, rfl⟩⟩
          rw [HN.out]
          obtain ⟨hk2, e⟩ := List.getElem?_eq_some_iff.1 HKX.out
          have e2 : ws.take n = ws.take k ++ x :: (ws.take n).drop (k + 1) := by
            conv => lhs; rw [← List.take_append_drop k (ws.take n)]
            rw [List.take_take, Nat.min_eq_left (by omega), List.drop_eq_getElem_cons (by rw [List.length_take]; omega), List.getElem_take, e]
          rw [e2]
          exact (numsD_snoc HNS.out).2 _ HV.out
      · obtain rfl : k = n := by omega
        go_wp2
        go_ret2
        have hnl : ns.length = k := by rw [numsD_length HNS.out, List.length_take]; have := HM.out; omega
        refine ⟨hbw, .inr ⟨ns, w.heap.size, by rw [HN.out, HNS.out], by rw [hnl]; rfl, Nat.le_refl _, ?_⟩⟩
        simpa using hblk
end Go.Proofs.YtgokkbocboonnaaDoor
