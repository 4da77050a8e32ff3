/-
  WALKS: report.Events, moneyerref40.Events.
-/
import Derived.Test.YtkhckehecnobjaaDoorSG
import Derived.Test.YtkhckehecnobjaaDoorSI
import Derived.Shelf.Strings.MapGrows
namespace Go.Proofs.YtkhckehecnobjaaDoor
open Go.RowKit Go.Lib

theorem linesT_snoc {xs : List EvV} {k : Nat} {x : EvV} (h : xs[k]? = some x) : linesT ((xs.take (k + 1)).map EvV.d) = linesT ((xs.take k).map EvV.d) ++ (lineT x.d ++ [10]) := by
  obtain ⟨hk, e⟩ := List.getElem?_eq_some_iff.1 h
  rw [List.take_succ_eq_append_getElem hk, e]
  simp [linesT]
theorem linesT_take {xs : List EvV} {k : Nat} (hS : ∀ x ∈ xs, EvSm x.d) (hk : k ≤ 1000) : (linesT ((xs.take k).map EvV.d)).length ≤ 10000000 := by
  have h1 : ∀ y ∈ (xs.take k).map EvV.d, EvSm y := fun y hy => by
    obtain ⟨x, hx, rfl⟩ := List.mem_map.1 hy
    exact hS x (List.mem_of_mem_take hx)
  have h2 := linesT_len h1
  have h3 : ((xs.take k).map EvV.d).length ≤ k := by rw [List.length_map, List.length_take]; omega
  have h4 : 10000 * ((xs.take k).map EvV.d).length ≤ 10000 * k := Nat.mul_le_mul_left _ h3
  omega
/-- report.Events: what has been written so far. -/
def EvsRel (w : World) (n : Nat) (xs : List EvV) (i : Value) (wr : World) : Prop :=
  ∃ k : Nat, k ≤ n ∧ i = .int .i64 k ∧ Lib.IsBuilderF 63 5 w.heap.size w.heap.size (Lib.byteCells (linesT ((xs.take k).map EvV.d))) wr ∧ Below w.heap.size w wr ∧ w.heap.size + 1 ≤ wr.heap.size
set_option maxHeartbeats 3200000 in
theorem rEvents_any (A : Option Addr) (n c : Nat) (xs : List EvV) (B : Nat) (w : World) (hB : B ≤ w.heap.size) (hn : n ≤ 1000) (h : Evs w B A n xs) (hS : ∀ x ∈ xs, EvSm x.d) (ht : PTab w) :
    Calls Tryd.prog 10 #[.slice A n c] w fun e w' => e = .returned (.string (tx (linesT (xs.map EvV.d)))) ∧ Below w.heap.size w w' := by
  have HL := hide h.1
  have HT := hide ht
  have HSM := hide hS
  clear ht hS
  go_enter Tryd.func10, Tryd.ntmps10
  go_wp2
  go_loopw [8] (EvsRel w n xs) (fun i _ => n - (intOf i).toNat)
  case atStart => exact ⟨0, Nat.zero_le _, rfl, .inl ⟨Nat.le_refl _, _, heap_alloc_new w _, World.ownsRowF_nil _ _ _ _, by simp [Value.ownBlock]⟩, (Below.refl _ _).alloc (Nat.le_refl _) _, by simp⟩
  case round =>
    obtain ⟨k, hk, rfl, hbl, hbw, hz⟩ := hrel
    by_cases hlt : k < n
    · have hD := h.below hbw hB
      obtain ⟨b, o, x, rfl, hb, hkx, hok, _⟩ := hD.at_ hlt
      obtain ⟨c0, c1, c2, c3, c4, c5, c6, c7, c8, c9, c10, c11, c12, c13, c14⟩ := hD.row hkx
      have HK := hide hkx
      have hsx := HSM.out x (List.mem_of_getElem? hkx)
      have HLT := hide (linesT_take (k := k) HSM.out (by omega))
      obtain ⟨d, dv, cv⟩ := x
      obtain ⟨⟨A1, n1, m1, rfl, p1⟩, ⟨A2, n2, m2, rfl, p2⟩⟩ := hok
      dsimp only at *
      have hv1 : BytesAt wr B (.slice A1 n1 m1) d.op.data := ⟨A1, n1, m1, rfl, p1⟩
      have hv2 : BytesAt wr B (.slice A2 n2 m2) d.cell.data := ⟨A2, n2, m2, rfl, p2⟩
      obtain ⟨s, HS1, HS2, hss⟩ := letter (lineT d)
      have hll := lineT_len hsx
      have HLN := hide (fun W (hb' : Below wr.heap.size wr W) => HS1.out ▸ rLine_any d A1 A2 n1 m1 n2 m2 B W (by have := hb'.size; omega) hsx (hv1.below hb' (by omega)) (hv2.below hb' (by omega)) (HT.out.below (below_via hbw hb' hbw.size)))
      clear hkx hD h p1 p2 hv1 hv2 hsx HS1
      have s1 : (k : Int) < n := by omega
      have hbz : b < wr.heap.size := by omega
      go_wp2_with fail
      refine (HLN.out _ ((Below.refl _ _).alloc (Nat.le_refl _) _)).mono ?_
      rintro e w1 ⟨rfl, hb1⟩
      have hbl1 := (hbl.alloc _).below hb1
      have hb01 : Below w.heap.size w w1 := below_via (hbw.alloc (by omega) _) hb1 (by simp; omega)
      have hz1 : w.heap.size + 1 ≤ w1.heap.size := by have := hb1.size; simp at this; omega
      clear hb1 hbl
      go_wp2_with fail
      refine (Tryd.Builder_WriteString_k w.heap.size w.heap.size _ s w1 hbl1 (by rw [Lib.byteCells_length]; have := HLT.out; omega) (by omega)).mono ?_
      rintro e w2 ⟨rfl, ha2, hb2, _⟩
      have hz2 := ha2.lt
      go_wp2_with fail
      refine (Tryd.Builder_WriteByte_k w.heap.size w.heap.size _ _ w2 (.inr ha2) (by rw [List.length_append, Lib.byteCells_length, Lib.strCells_length]; have := HLT.out; omega) (by omega)).mono ?_
      rintro e w3 ⟨rfl, ha3, hb3, _⟩
      have hz3 := ha3.lt
      go_wp2
      go_roundw
      case rel =>
        refine ⟨k + 1, by omega, by go_num, .inr ?_, hb01.trans (hb2.trans hb3), by omega⟩
        rw [linesT_snoc HK.out, Lib.byteCells_append, Lib.byteCells_append]
        rw [Lib.strCells_eq, HS2.out, List.append_assoc] at ha3
        exact ha3
      case measure => simp [intOf]; omega
    · go_wp2_with fail
      refine (Tryd.Builder_String_any_k w.heap.size w.heap.size _ wr hbl (by omega)).mono ?_
      rintro e w1 ⟨rfl, _, hb1, _⟩
      go_wp2
      go_ret
      have hl := HL.out
      exact ⟨ret_txt (s := linesT ((xs.map EvV.d).take k)) (by rw [List.take_of_length_le (by rw [List.length_map]; omega)]), hbw.trans hb1⟩

/-- moneyerref40.Events: what it holds so far. -/
def EvsS (w : World) (n : Nat) (xs : List EvV) (s i : Value) (wr : World) : Prop :=
  ∃ (k : Nat) (l : ByteArray), k ≤ n ∧ i = .int .i64 k ∧ s = .string l ∧ Hid (l.data.toList = linesT ((xs.take k).map EvV.d)) ∧ l.size ≤ 10000000 ∧ Below w.heap.size w wr
set_option maxHeartbeats 3200000 in
theorem fEvents_any (A : Option Addr) (n c : Nat) (xs : List EvV) (B : Nat) (w : World) (hB : B ≤ w.heap.size) (hn : n ≤ 1000) (h : Evs w B A n xs) (hS : ∀ x ∈ xs, EvSm x.d) :
    Calls Tryd.prog 11 #[.slice A n c] w fun e w' => e = .returned (.string (tx (linesT (xs.map EvV.d)))) ∧ Below w.heap.size w w' := by
  have HL := hide h.1
  have HSM := hide hS
  clear hS
  go_enter Tryd.func11, Tryd.ntmps11
  go_wp2
  go_loopw [3, 4] (EvsS w n xs) (fun _ i _ => n - (intOf i).toNat)
  case atStart => exact ⟨0, ⟨#[]⟩, Nat.zero_le _, rfl, rfl, rfl, Nat.zero_le _, Below.refl _ _⟩
  case round =>
    obtain ⟨k, l, hk, rfl, rfl, HLS, hls, hbw⟩ := hrel
    by_cases hlt : k < n
    · have hD := h.below hbw hB
      have hwz := hbw.size
      obtain ⟨b, o, x, rfl, hb, hkx, hok, _⟩ := hD.at_ hlt
      obtain ⟨c0, c1, c2, c3, c4, c5, c6, c7, c8, c9, c10, c11, c12, c13, c14⟩ := hD.row hkx
      have HK := hide hkx
      have hsx := HSM.out x (List.mem_of_getElem? hkx)
      have HLT := hide (linesT_take (k := k + 1) HSM.out (by omega))
      obtain ⟨d, dv, cv⟩ := x
      obtain ⟨⟨A1, n1, m1, rfl, p1⟩, ⟨A2, n2, m2, rfl, p2⟩⟩ := hok
      dsimp only at *
      have hv1 : BytesAt wr B (.slice A1 n1 m1) d.op.data := ⟨A1, n1, m1, rfl, p1⟩
      have hv2 : BytesAt wr B (.slice A2 n2 m2) d.cell.data := ⟨A2, n2, m2, rfl, p2⟩
      obtain ⟨s, HS1, HS2, hss⟩ := letter (lineT d)
      have hll := lineT_len hsx
      have HLN := hide (HS1.out ▸ fLine_any d A1 A2 n1 m1 n2 m2 B wr (by omega) hsx hv1 hv2)
      clear hkx hD h p1 p2 hv1 hv2 hsx HS1
      have s1 : (k : Int) < n := by omega
      go_wp2_with fail
      refine HLN.out.mono ?_
      rintro e w1 ⟨rfl, hb1⟩
      go_wp2
      go_roundw
      case rel =>
        have e1 : (l ++ s ++ ⟨#[10]⟩).data.toList = linesT ((xs.take (k + 1)).map EvV.d) := by
          rw [linesT_snoc HK.out, ByteArray.data_append, ByteArray.data_append, Array.toList_append, Array.toList_append, HLS.out, HS2.out, List.append_assoc]
        refine ⟨k + 1, _, by omega, by go_num, rfl, e1, ?_, below_via hbw hb1 hwz⟩
        have := HLT.out
        rw [← e1, key_len] at this
        exact this
      case measure => simp [intOf]; omega
    · go_wp2
      go_ret
      refine ⟨ret_tx ?_, hbw⟩
      have hl := HL.out
      rw [HLS.out, List.take_of_length_le (l := xs) (i := k) (by omega)]
end Go.Proofs.YtkhckehecnobjaaDoor
