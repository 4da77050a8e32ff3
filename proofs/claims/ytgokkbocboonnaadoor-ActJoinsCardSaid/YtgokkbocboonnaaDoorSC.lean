/-
  BYTES AS TEXT: act.data, console.data, moneyerref31.Hex.
-/
import Derived.Test.YtgokkbocboonnaaDoorST
import Derived.Shelf.Strings.MapGrows
import Derived.Deep.QuietTactic
import Derived.BigQuiet
namespace Go.Proofs.YtgokkbocboonnaaDoor
open Go.RowKit Go.Lib

theorem take_flat_snoc {bs : List UInt8} {k : Nat} {x : UInt8} (h : bs[k]? = some x) : (bs.take (k + 1)).flatMap hexB = (bs.take k).flatMap hexB ++ hexB x := by
  obtain ⟨hk, e⟩ := List.getElem?_eq_some_iff.1 h
  rw [List.take_succ_eq_append_getElem hk, List.flatMap_append, e]
  simp
theorem flat_hex_len (bs : List UInt8) (k : Nat) (h : bs.length ≤ 1000000) : ((bs.take k).flatMap hexB).length ≤ 2000000 := by
  have h1 : ∀ l : List UInt8, (l.flatMap hexB).length = 2 * l.length := fun l => by
    induction l with
    | nil => rfl
    | cons a t ih => simp only [List.flatMap_cons, List.length_append, ih, hexB, List.length_cons, List.length_nil]; omega
  rw [h1]
  have := List.length_take_le k bs
  rw [List.length_take]
  omega
theorem hexC_at (k : Nat) (h : k < (⟨#[48, 49, 50, 51, 52, 53, 54, 55, 56, 57, 97, 98, 99, 100, 101, 102]⟩ : ByteArray).size) : (⟨#[48, 49, 50, 51, 52, 53, 54, 55, 56, 57, 97, 98, 99, 100, 101, 102]⟩ : ByteArray)[k] = hexC k := by
  have h' : k < 16 := h
  rcases (show k = 0 ∨ k = 1 ∨ k = 2 ∨ k = 3 ∨ k = 4 ∨ k = 5 ∨ k = 6 ∨ k = 7 ∨ k = 8 ∨ k = 9 ∨ k = 10 ∨ k = 11 ∨ k = 12 ∨ k = 13 ∨ k = 14 ∨ k = 15 by omega) with rfl | rfl | rfl | rfl | rfl | rfl | rfl | rfl | rfl | rfl | rfl | rfl | rfl | rfl | rfl | rfl <;> rfl
/-- What has been written so far. -/
def HexRel (w : World) (n : Nat) (bs : List UInt8) (i : Value) (wr : World) : Prop :=
  ∃ k : Nat, k ≤ n ∧ i = .int .i64 k ∧ Lib.IsBuilderF 70 5 w.heap.size w.heap.size (Lib.byteCells ((bs.take k).flatMap hexB)) wr ∧ Below w.heap.size w wr ∧ w.heap.size + 1 ≤ wr.heap.size
set_option maxHeartbeats 1600000 in
theorem adata_any (v : Value) (bs : List UInt8) (B : Nat) (w : World) (hB : B ≤ w.heap.size) (hn : bs.length ≤ 1000000) (h : BytesAt w B v bs) :
    Calls Tryd.prog 49 #[v] w fun e w' => e = .returned (.string (tx (hexT bs))) ∧ Below w.heap.size w w' := by
  obtain ⟨A, n, c, rfl, hnc, hcm, hnl, hnil, hr⟩ := h
  have HL := hide hnl
  by_cases h0 : n = 0
  · have HE : Hid (bs = []) := List.eq_nil_of_length_eq_zero (by omega)
    clear hnl hr hnil hnc hcm
    subst h0
    go_enter Tryd.func49, Tryd.ntmps49
    go_wp2
    go_ret
    exact ⟨by rw [HE.out]; rfl, Below.refl _ _⟩
  · have h1 : ((n : Int) == 0) = false := by simpa using h0
    have hn' : n ≤ 1000000 := by omega
    clear hnl hnil hnc hcm
    go_enter Tryd.func49, Tryd.ntmps49
    go_wp2
    go_loopw [11] (HexRel w n bs) (fun i _ => n - (intOf i).toNat)
    case atStart => exact ⟨0, Nat.zero_le _, rfl, .inl ⟨Nat.le_refl _, _, heap_alloc_new w _, World.ownsRowF_nil _ _ _ _, by simp [Value.ownBlock]⟩, (Below.refl _ _).alloc (Nat.le_refl _) _, by simp⟩
    case round =>
      obtain ⟨k, hk, rfl, hbl, hbw, hz⟩ := hrel
      by_cases hlt : k < n
      · have hD := hr.below hbw hB
        obtain ⟨b, o, rfl, hb, hc⟩ := hD.plain (by omega) (by omega)
        obtain ⟨x, hx⟩ : ∃ x, bs[k]? = some x := ⟨bs[k]'(by have := HL.out; omega), List.getElem?_eq_getElem _⟩
        have c0 : wr.cell? ⟨b, o + k, none⟩ = some (.int .u8 x.toNat) := hc k _ (by rw [List.getElem?_map, hx]; rfl)
        have HX := hide hx
        have HLN := hide (flat_hex_len bs k (by have := HL.out; omega))
        clear hx hc hr hD
        have hx1 : x.toNat < 256 := x.toNat_lt
        go_wp2_with fail
        refine (Tryd.Builder_WriteByte_k w.heap.size w.heap.size _ _ wr hbl (by rw [Lib.byteCells_length]; have := HLN.out; omega) (by omega)).mono ?_
        rintro e w1 ⟨rfl, ha1, hb1, _⟩
        have hz1 := ha1.lt
        go_wp2_with fail
        refine (Tryd.Builder_WriteByte_k w.heap.size w.heap.size _ _ w1 (.inr ha1) (by rw [List.length_append, Lib.byteCells_length]; have := HLN.out; simp only [List.length_cons, List.length_nil]; omega) (by omega)).mono ?_
        rintro e w2 ⟨rfl, ha2, hb2, _⟩
        have hz2 := ha2.lt
        go_wp2
        go_roundw
        case rel =>
          refine ⟨k + 1, by omega, by go_num, .inr ?_, hbw.trans (hb1.trans hb2), by omega⟩
          rw [take_flat_snoc HX.out, Lib.byteCells_append]
          rw [hexC_at, hexC_at, List.append_assoc] at ha2
          exact ha2
        case measure => simp [intOf]; omega
      · go_wp2_with fail
        refine (Tryd.Builder_String_any_k w.heap.size w.heap.size _ wr hbl (by omega)).mono ?_
        rintro e w1 ⟨rfl, _, hb1, _⟩
        go_wp2
        go_ret
        refine ⟨?_, hbw.trans hb1⟩
        have hl := HL.out
        rw [List.take_of_length_le (by omega), hexT, if_neg (by rintro rfl; simp at hl; omega)]
        rfl
/-- moneyerref31.Hex: what it holds so far. -/
def HexS (w : World) (n : Nat) (bs : List UInt8) (s i : Value) (wr : World) : Prop :=
  ∃ (k : Nat) (l : ByteArray), k ≤ n ∧ i = .int .i64 k ∧ s = .string l ∧ Hid (l.data.toList = (bs.take k).flatMap hexB) ∧ l.size ≤ 2000000 ∧ ∃ d, wr = w.drewN d
theorem hexC_ex (k : Nat) (h : k < 16) : ((⟨#[48, 49, 50, 51, 52, 53, 54, 55, 56, 57, 97, 98, 99, 100, 101, 102]⟩ : ByteArray).extract k (k + 1)).data.toList = [hexC k] := by
  rcases (show k = 0 ∨ k = 1 ∨ k = 2 ∨ k = 3 ∨ k = 4 ∨ k = 5 ∨ k = 6 ∨ k = 7 ∨ k = 8 ∨ k = 9 ∨ k = 10 ∨ k = 11 ∨ k = 12 ∨ k = 13 ∨ k = 14 ∨ k = 15 by omega) with rfl | rfl | rfl | rfl | rfl | rfl | rfl | rfl | rfl | rfl | rfl | rfl | rfl | rfl | rfl | rfl <;> rfl
theorem hex_step {bs : List UInt8} {k h q : Nat} {x : UInt8} {l : ByteArray} (hl : l.data.toList = (bs.take k).flatMap hexB) (hx : bs[k]? = some x) (hh : h = x.toNat / 16) (hq : q = x.toNat % 16) :
    (l ++ (⟨#[48, 49, 50, 51, 52, 53, 54, 55, 56, 57, 97, 98, 99, 100, 101, 102]⟩ : ByteArray).extract h (h + 1) ++ (⟨#[48, 49, 50, 51, 52, 53, 54, 55, 56, 57, 97, 98, 99, 100, 101, 102]⟩ : ByteArray).extract q (q + 1)).data.toList = (bs.take (k + 1)).flatMap hexB ∧
    (l ++ (⟨#[48, 49, 50, 51, 52, 53, 54, 55, 56, 57, 97, 98, 99, 100, 101, 102]⟩ : ByteArray).extract h (h + 1) ++ (⟨#[48, 49, 50, 51, 52, 53, 54, 55, 56, 57, 97, 98, 99, 100, 101, 102]⟩ : ByteArray).extract q (q + 1)).size = ((bs.take (k + 1)).flatMap hexB).length := by
  have hx1 : x.toNat < 256 := x.toNat_lt
  have e : ∀ a b c : ByteArray, (a ++ b ++ c).data.toList = a.data.toList ++ b.data.toList ++ c.data.toList := fun a b c => by rw [ByteArray.data_append, ByteArray.data_append, Array.toList_append, Array.toList_append]
  have h1 : (l ++ (⟨#[48, 49, 50, 51, 52, 53, 54, 55, 56, 57, 97, 98, 99, 100, 101, 102]⟩ : ByteArray).extract h (h + 1) ++ (⟨#[48, 49, 50, 51, 52, 53, 54, 55, 56, 57, 97, 98, 99, 100, 101, 102]⟩ : ByteArray).extract q (q + 1)).data.toList = (bs.take (k + 1)).flatMap hexB := by
    rw [e, hl, hexC_ex h (by omega), hexC_ex q (by omega), take_flat_snoc hx, hh, hq, List.append_assoc]
    rfl
  exact ⟨h1, by rw [← h1]; exact (Array.length_toList).symm⟩
set_option maxHeartbeats 1600000 in
theorem Hex_any (v : Value) (bs : List UInt8) (B : Nat) (w : World) (hn : bs.length ≤ 1000000) (h : BytesAt w B v bs) :
    Calls Tryd.prog 46 #[v] w fun e w' => e = .returned (.string (tx (hexT bs))) ∧ Below w.heap.size w w' := by
  obtain ⟨A, n, c, rfl, hnc, hcm, hnl, hnil, hr⟩ := h
  have HL := hide hnl
  by_cases h0 : n = 0
  · have HE : Hid (bs = []) := List.eq_nil_of_length_eq_zero (by omega)
    clear hnl hr hnil hnc hcm
    subst h0
    go_enter Tryd.func46, Tryd.ntmps46
    go_wp2
    go_ret
    exact ⟨by rw [HE.out]; rfl, Below.refl _ _⟩
  · have h1 : ((n : Int) == 0) = false := by simpa using h0
    have hn' : n ≤ 1000000 := by omega
    clear hnl hnil hnc hcm
    go_enter Tryd.func46, Tryd.ntmps46
    go_wp2
    go_loopw [3, 4] (HexS w n bs) (fun _ i _ => n - (intOf i).toNat)
    case atStart => exact ⟨0, ⟨#[]⟩, Nat.zero_le _, rfl, rfl, rfl, Nat.zero_le _, 0, rfl⟩
    case round =>
      obtain ⟨k, l, hk, rfl, rfl, HS, hls, dd, rfl⟩ := hrel
      by_cases hlt : k < n
      · obtain ⟨b, o, rfl, hb, hc⟩ := hr.plain (by omega) (by omega)
        obtain ⟨x, hx⟩ : ∃ x, bs[k]? = some x := ⟨bs[k]'(by have := HL.out; omega), List.getElem?_eq_getElem _⟩
        have c0 : w.cell? ⟨b, o + k, none⟩ = some (.int .u8 x.toNat) := hc k _ (by rw [List.getElem?_map, hx]; rfl)
        have HX := hide hx
        clear hx hc hr
        have hx1 : x.toNat < 256 := x.toNat_lt
        have s1 : (k : Int) < n := by omega
        have s2 : (0 : Int) ≤ k := by omega
        go_wp2
        go_quiet (fail)
        go_wp2
        obtain ⟨h, hh⟩ : ∃ h : Nat, h = x.toNat / 16 := ⟨_, rfl⟩
        obtain ⟨q, hq⟩ : ∃ q : Nat, q = x.toNat % 16 := ⟨_, rfl⟩
        have e1 : ((x.toNat : Int) / 16) = (h : Int) := by omega
        have e2 : ((x.toNat : Int) % 16) = (q : Int) := by omega
        rw [e1, e2]
        have g1 : h < 16 := by omega
        have g2 : q < 16 := by omega
        have HH := hide hh
        have HQ := hide hq
        clear e1 e2 hh hq
        obtain ⟨nk, hnk⟩ : ∃ nk, (w.drewN dd).drewN nq = w.drewN nk := ⟨_, World.drewN_drewN _ _ _⟩
        rw [hnk]
        clear hnk
        have i1 : IntKind.u8.wrap ((h : Int) + 1) = (h : Int) + 1 := IntWalk.u8_in _ (by omega)
        have i2 : IntKind.u8.wrap ((q : Int) + 1) = (q : Int) + 1 := IntWalk.u8_in _ (by omega)
        have i3 : ((h : Int) + 1).toNat = h + 1 := by omega
        have i4 : ((q : Int) + 1).toNat = q + 1 := by omega
        have i5 : (h : Int) ≤ (h : Int) + 1 := by omega
        have i6 : (q : Int) ≤ (q : Int) + 1 := by omega
        have i7 : (h : Int) + 1 ≤ 16 := by omega
        have i8 : (q : Int) + 1 ≤ 16 := by omega
        have i9 : (0 : Int) ≤ h := by omega
        have i10 : (0 : Int) ≤ q := by omega
        go_quiet (fail)
        clear i1 i2 i3 i4 i5 i6 i7 i8 i9 i10
        go_wp2
        go_roundw
        case rel =>
          obtain ⟨e1, e2⟩ := hex_step (l := l) HS.out HX.out HH.out HQ.out
          refine ⟨k + 1, _, by omega, by go_num, rfl, e1, ?_, ?_⟩
          · rw [e2]
            exact flat_hex_len _ _ hn
          · first | exact ⟨_, rfl⟩ | exact ⟨_, World.drewN_drewN _ _ _⟩
        case measure => simp [intOf]; omega
      · go_wp2
        go_ret
        refine ⟨ret_tx ?_, below_drewN (Below.refl _ _) _⟩
        have hl := HL.out
        rw [HS.out, List.take_of_length_le (by omega), hexT, if_neg (by rintro rfl; simp at hl; omega)]
end Go.Proofs.YtgokkbocboonnaaDoor
