/-
  ACTS IN MEMORY; WALK OF THE PROGRAM: act.Print.
-/
import Derived.Test.YtgokkbocboonnaaDoorAO
import Derived.Test.YtgokkbocboonnaaDoorAE
import Derived.Test.YtgokkbocboonnaaDoorAR
namespace Go.Proofs.YtgokkbocboonnaaDoor
open Go.RowKit Go.Lib

/-- The slice reads as the acts xs. -/
def Acts (w : World) (B : Nat) (A : Option Addr) (n : Nat) (xs : List ActV) : Prop :=
  n = xs.length ∧ Reads w B 11 A n (xs.flatMap ActV.cells) ∧ ∀ x ∈ xs, ActOk w B x
section
variable {w w' : World} {B B' C n : Nat} {A : Option Addr} {xs : List ActV}
theorem Acts.below (h : Acts w B A n xs) (hb : Below C w w') (hC : B ≤ C) : Acts w' B A n xs := ⟨h.1, h.2.1.below hb hC, fun x hx => (h.2.2 x hx).below hb hC⟩
theorem Acts.more (h : Acts w B A n xs) (hB : B ≤ B') : Acts w B' A n xs := ⟨h.1, h.2.1.more hB, fun x hx => (h.2.2 x hx).more hB⟩
theorem Acts.at_ {k : Nat} (h : Acts w B A n xs) (hk : k < n) : ∃ b o x, A = some ⟨b, o, none⟩ ∧ b < B ∧ xs[k]? = some x ∧ ActOk w B x ∧ ∀ j u, x.cells[j]? = some u → w.cell? ⟨b, o + k * 11 + j, none⟩ = some u := by
  obtain ⟨rfl, hr, hok⟩ := h
  obtain ⟨b, o, e, hb, hc⟩ := hr.plain (by omega) (by omega)
  refine ⟨b, o, xs[k], e, hb, List.getElem?_eq_getElem hk, hok _ (List.getElem_mem _), fun j u hu => ?_⟩
  have hj : j < 11 := by
    have := (List.getElem?_eq_some_iff.1 hu).1
    rwa [ActV.cells_length] at this
  rw [Nat.add_assoc]
  refine hc _ u ?_
  rw [flat_at _ 11 ActV.cells_length _ _ _ hj, List.getElem?_eq_getElem hk]
  exact hu
end
/-- The eleven cells of one Act in memory, as the walk spells their places. -/
def ActRow (w : World) (b p : Nat) (x : ActV) : Prop :=
  w.cell? ⟨b, p, none⟩ = some (.int .i64 x.d.act) ∧ w.cell? ⟨b, p + 1, none⟩ = some (.int .i64 x.d.client) ∧ w.cell? ⟨b, p + 2, none⟩ = some (.int .i64 x.d.op.act) ∧ w.cell? ⟨b, p + 3, none⟩ = some (.string x.d.op.key) ∧ w.cell? ⟨b, p + 4, none⟩ = some x.dv ∧ w.cell? ⟨b, p + 5, none⟩ = some (.int .i64 x.d.op.lo) ∧ w.cell? ⟨b, p + 6, none⟩ = some (.int .i64 x.d.op.hi) ∧ w.cell? ⟨b, p + 7, none⟩ = some (.int .i64 x.d.op.n) ∧ w.cell? ⟨b, p + 8, none⟩ = some (.int .i64 x.d.n) ∧ w.cell? ⟨b, p + 9, none⟩ = some x.pv ∧ w.cell? ⟨b, p + 10, none⟩ = some (.int .i64 x.d.log)
theorem Acts.row {w : World} {B n k b o : Nat} {xs : List ActV} {x : ActV} (h : Acts w B (some ⟨b, o, none⟩) n xs) (hx : xs[k]? = some x) : ActRow w b (o + k * 11) x := by
  obtain ⟨hk, _⟩ := List.getElem?_eq_some_iff.1 hx
  obtain ⟨b', o', x', e, _, hx', _, hc⟩ := h.at_ (k := k) (by rw [h.1]; exact hk)
  have e1 : (⟨b, o, none⟩ : Addr) = ⟨b', o', none⟩ := by injection e
  obtain ⟨rfl, rfl⟩ : b = b' ∧ o = o' := by simpa using e1
  obtain rfl : x = x' := by rw [hx] at hx'; injection hx'
  exact ⟨hc 0 _ rfl, hc 1 _ rfl, hc 2 _ rfl, hc 3 _ rfl, hc 4 _ rfl, hc 5 _ rfl, hc 6 _ rfl, hc 7 _ rfl, hc 8 _ rfl, hc 9 _ rfl, hc 10 _ rfl⟩
/-- A script's acts are small. -/
def ActSm (a : ActD) : Prop := OpSm a.op ∧ ActIn a ∧ a.pages.length ≤ 1000
theorem actT_len1 {a : ActD} (h : ActSm a) : (actT a).length ≤ 100000 := by
  obtain ⟨hs, hi, hp⟩ := h
  have h1 := callT_len hs
  have h2 := num_len hi.2.1
  have h3 := num_len hi.2.2.2.1
  have h4 := numsT_len (a.log :: a.pages) (fun n hn => (List.mem_cons.1 hn).elim (fun e => e ▸ hi.2.2.2.2.1) (hi.2.2.2.2.2 n))
  simp only [List.length_cons] at h4
  unfold actT
  repeat' split
  all_goals
    simp only [List.length_append, List.length_cons, List.length_nil]
    omega
theorem scriptT_len {l : List ActD} (h : ∀ a ∈ l, ActSm a) : (scriptT l).length ≤ 100001 * l.length := by
  induction l with
  | nil => simp [scriptT]
  | cons a r ih =>
    have h1 := actT_len1 (h a List.mem_cons_self)
    have h2 := ih (fun x hx => h x (List.mem_cons_of_mem _ hx))
    rw [scriptT_cons]
    simp only [List.length_append, List.length_cons] at h2 ⊢
    omega
theorem scriptT_snoc {xs : List ActV} {k : Nat} {x : ActV} (h : xs[k]? = some x) : scriptT ((xs.take (k + 1)).map ActV.d) = scriptT ((xs.take k).map ActV.d) ++ actT x.d ++ [10] := by
  obtain ⟨hk, e⟩ := List.getElem?_eq_some_iff.1 h
  rw [List.take_succ_eq_append_getElem hk, e, List.map_append, scriptT_append]
  simp [scriptT]
theorem scriptT_take {xs : List ActV} {k : Nat} (hS : ∀ x ∈ xs, ActSm x.d) (hk : k ≤ 1000) : (scriptT ((xs.take k).map ActV.d)).length ≤ 200000000 := by
  have h1 : ∀ y ∈ (xs.take k).map ActV.d, ActSm y := fun y hy => by
    obtain ⟨x, hx, rfl⟩ := List.mem_map.1 hy
    exact hS x (List.mem_of_mem_take hx)
  have h2 := scriptT_len h1
  have h3 : ((xs.take k).map ActV.d).length ≤ k := by rw [List.length_map, List.length_take]; omega
  have h4 : 100001 * ((xs.take k).map ActV.d).length ≤ 100001 * k := Nat.mul_le_mul_left _ h3
  omega
theorem ret_print {s t : List UInt8} (h : s = t) : Ending.returned (.tuple #[.string (tx s), .int .i64 0]) = .returned (.tuple #[.string (tx t), .int .i64 0]) := by rw [h]
/-- What act.Print tells. -/
def PrintPost (w : World) (l : List ActD) (e : Ending) (w' : World) : Prop :=
  Below w.heap.size w w' ∧ ((l.all isActB = false ∧ e = .returned (.tuple #[.string ⟨#[]⟩, .int .i64 1])) ∨ (l.all isActB = true ∧ e = .returned (.tuple #[.string (tx (scriptT l)), .int .i64 0])))
def PrintRel (w : World) (n : Nat) (xs : List ActV) (i : Value) (wr : World) : Prop :=
  ∃ k : Nat, k ≤ n ∧ i = .int .i64 k ∧ Lib.IsBuilderF 70 5 w.heap.size w.heap.size (Lib.byteCells (scriptT ((xs.take k).map ActV.d))) wr ∧ ((xs.take k).map ActV.d).all isActB = true ∧ Below w.heap.size w wr ∧ w.heap.size + 1 ≤ wr.heap.size
set_option maxRecDepth 100000 in
set_option maxHeartbeats 6400000 in
theorem print_any (A : Option Addr) (n c : Nat) (xs : List ActV) (B : Nat) (w : World) (hB : B ≤ w.heap.size) (hn : n ≤ 1000) (h : Acts w B A n xs) (hs : ∀ x ∈ xs, ActSm x.d) (ht : PTab w) :
    Calls Tryd.prog 18 #[.slice A n c] w (PrintPost w (xs.map ActV.d)) := by
  have HL := hide h.1
  have HS := hide hs
  have HT := hide ht
  clear hs ht
  go_enter Tryd.func18, Tryd.ntmps18
  go_wp2
  go_loopw [11] (PrintRel w n xs) (fun i _ => n - (intOf i).toNat)
  case atStart => exact ⟨0, Nat.zero_le _, rfl, .inl ⟨Nat.le_refl _, _, heap_alloc_new w _, World.ownsRowF_nil _ _ _ _, by simp [Value.ownBlock]⟩, rfl, (Below.refl _ _).alloc (Nat.le_refl _) _, by simp⟩
  case round =>
    obtain ⟨k, hk, rfl, hbl, hall, hbw, hz⟩ := hrel
    by_cases hlt : k < n
    · have hD := h.below hbw hB
      obtain ⟨b, o, x, rfl, hb, hkx, hok, _⟩ := hD.at_ (k := k) hlt
      obtain ⟨c0, c1, c2, c3, c4, c5, c6, c7, c8, c9, c10⟩ := hD.row hkx
      have HX := hide hkx
      have HOK := hide hok
      have HALL := hide hall
      have hsm := HS.out x (List.mem_of_getElem? hkx)
      have HSM := hide hsm
      have s1 : (k : Int) < n := by omega
      have s0 : (0 : Int) ≤ k := by omega
      obtain ⟨⟨A1, n1, m1, e1, g1, g2, g3, g4, g5⟩, F, f', e2, g6⟩ := hok
      obtain ⟨d, dv, pv⟩ := x
      dsimp only at *
      subst e1 e2
      clear g1 g2 g3 g4 g5 g6 hkx hall hD
      have hll := actT_len1 hsm
      have HLT := hide (scriptT_take (k := k) HS.out (by omega))
      have hbz : b < wr.heap.size := by omega
      have HLN0 := fun W (hb' : Below wr.heap.size wr W) => actLine_any ⟨d, .slice A1 n1 m1, .slice F d.pages.length f'⟩ B W (by have := hb'.size; have := hbw.size; omega) hsm.1 hsm.2.1 (HOK.out.below hb' (by have := hbw.size; omega)) (by have := hsm.2.2; dsimp only at this ⊢; omega) (HT.out.below (below_via hbw hb' hbw.size))
      cases hB2 : isActB d
      · have HLN := hide (fun W (hb' : Below wr.heap.size wr W) => (HLN0 W hb').mono fun e w' h => (show e = .returned (.tuple #[.string ⟨#[]⟩, .int .i64 1]) ∧ Below W.heap.size W w' from ⟨by
          obtain ⟨_, ⟨_, h1⟩ | ⟨h1, _⟩⟩ := h
          · exact h1
          · rw [hB2] at h1; exact absurd h1 (by decide), h.1⟩))
        have HNO := hide (show (xs.map ActV.d).all isActB = false by
          rw [List.all_eq_false]
          exact ⟨d, List.mem_map.2 ⟨_, List.mem_of_getElem? HX.out, rfl⟩, by rw [hB2]; decide⟩)
        clear HLN0 hsm hll hB2 h
        go_wp2_with fail
        refine (HLN.out _ ((Below.refl _ _).alloc (Nat.le_refl _) _)).mono ?_
        rintro e w1 ⟨rfl, hb1⟩
        have hb01 : Below w.heap.size w w1 := below_via (hbw.alloc (by omega) _) hb1 (by simp; omega)
        go_wp2
        go_ret2
        exact ⟨hb01, .inl ⟨HNO.out, rfl⟩⟩
      · obtain ⟨s, HS1, HS2, hss⟩ := letter (actT d)
        have HLN := hide (fun W (hb' : Below wr.heap.size wr W) => (HLN0 W hb').mono fun e w' h => (show e = .returned (.tuple #[.string s, .int .i64 0]) ∧ Below W.heap.size W w' from ⟨by
          obtain ⟨_, ⟨h1, _⟩ | ⟨_, h1⟩⟩ := h
          · rw [hB2] at h1; exact absurd h1 (by decide)
          · rw [h1, lineV, HS1.out], h.1⟩))
        have HB2 := hide hB2
        clear HLN0 hsm hB2 h HS1
        go_wp2_with fail
        refine (HLN.out _ ((Below.refl _ _).alloc (Nat.le_refl _) _)).mono ?_
        rintro e w1 ⟨rfl, hb1⟩
        have hbl1 := (hbl.alloc _).below hb1
        have hb01 : Below w.heap.size w w1 := below_via (hbw.alloc (by omega) _) hb1 (by simp; omega)
        have hz1 : w.heap.size + 1 ≤ w1.heap.size := by have := hb1.size; simp at this; omega
        clear hb1 hbl
        go_wp2_with fail
        refine (Tryd.Builder_WriteString_k w.heap.size w.heap.size _ s w1 hbl1 (by rw [Lib.byteCells_length]; have := HLT.out; omega) (by omega)).mono ?_
        rintro e w2 ⟨rfl, ha2, hb2, _⟩
        have hz2 := ha2.lt
        go_wp2_with fail
        refine (Tryd.Builder_WriteByte_k w.heap.size w.heap.size _ _ w2 (.inr ha2) (by rw [List.length_append, Lib.byteCells_length, Lib.strCells_length]; have := HLT.out; omega) (by omega)).mono ?_
        rintro e w3 ⟨rfl, ha3, hb3, _⟩
        have hz3 := ha3.lt
        go_wp2
        go_roundw
        case rel =>
          refine ⟨k + 1, by omega, by go_num, .inr ?_, ?_, hb01.trans (hb2.trans hb3), by omega⟩
          · rw [scriptT_snoc HX.out, Lib.byteCells_append, Lib.byteCells_append]
            rw [Lib.strCells_eq, HS2.out] at ha3
            exact ha3
          · obtain ⟨hk2, e⟩ := List.getElem?_eq_some_iff.1 HX.out
            rw [List.take_succ_eq_append_getElem hk2, e, List.map_append, List.all_append, HALL.out]
            simp [HB2.out]
        case measure => simp [intOf]; omega
    · have HALL := hide hall
      clear hall
      go_wp2_with fail
      refine (Tryd.Builder_String_any_k w.heap.size w.heap.size _ wr hbl (by omega)).mono ?_
      rintro e w1 ⟨rfl, _, hb1, _⟩
      go_wp2
      go_ret2
      have hl := HL.out
      have ha := HALL.out
      have e1 : xs.take k = xs := List.take_of_length_le (by omega)
      rw [e1] at ha
      refine ⟨hbw.trans hb1, .inr ⟨ha, ?_⟩⟩
      exact ret_print (s := scriptT ((xs.map ActV.d).take k)) (by rw [List.take_of_length_le (by rw [List.length_map]; omega)])
end Go.Proofs.YtgokkbocboonnaaDoor
