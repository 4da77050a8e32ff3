/-
  WALKS OF THE PROGRAM: crc.Seal.
-/
import Derived.Test.YtnanlaefehaifaaGreatRD
namespace Go.Proofs.YtnanlaefehaifaaGreat
open Go.RowKit

/-- So many such bytes are given, as a list of the call's own. -/
def GivesB (w : World) (n : Nat) (bs : List UInt8) (e : Ending) (w' : World) : Prop := ∃ A c, e = .returned (.slice A n c) ∧ n = bs.length ∧ OwnB w' w.heap.size (.slice A n c) bs ∧ Reads w' w'.heap.size 1 A n (bs.map byteV) ∧ Below w.heap.size w w'
theorem OwnB.reads {w : World} {base n c : Nat} {A : Option Addr} {bs : List UInt8} (h : OwnB w base (.slice A n c) bs) : n = bs.length ∧ Reads w w.heap.size 1 A n (bs.map byteV) := by
  obtain ⟨A', c', e, _, _, _, hr, _⟩ := own_slice h
  injection e with e1 e2 e3
  subst e1 e2
  exact ⟨rfl, hr⟩
theorem put_gives (width : Nat) (n : Int) (w : World) (hw1 : 1 ≤ width) (hw8 : width ≤ 8) :
    Calls Tryz.prog 113 #[.slice none 0 0, .int .i64 (width : Nat), .int .i64 n] w (GivesB w width (beB width n)) :=
  (put_nil width n w hw1 hw8).mono fun _ _ ⟨_, _, h1, h2, h3⟩ => ⟨_, _, h1, h2.reads.1, h2, h2.reads.2, h3⟩
theorem moreD_lt (s : Nat) (bs : List UInt8) : moreD s bs < 4294967296 := by unfold moreD; omega
/-- A list made with room, and nothing in it. -/
theorem make_room (P : Program) (m : Nat) (hm : m ≤ 100000000) (hP : P.underlying 33 = some (.slice 5)) (hi : (P.info? 5).map (fun i => (i.zero, i.size, i.bytes)) = some (some (.int .u8 0), 1, 1)) : ∃ X, ∀ W : World, (Instr.makeSlice 33 (.int .i64 0) (.int .i64 (m : Int))).run P W = .ok (.slice (some ⟨W.heap.size, 0, none⟩) 0 m) (W.alloc (.cells X 5)) ∧ OwnB (W.alloc (.cells X 5)) W.heap.size (.slice (some ⟨W.heap.size, 0, none⟩) 0 m) [] := by
  obtain ⟨i0, hi, hz0, hz1, hz2⟩ := info_parts hi
  have hmk0 := fun W => run_make_rowN (P := P) 33 5 i0 (.int .u8 0) hP hi hz0 .i64 .i64 0 m (Nat.zero_le _) (by rw [hz2]; omega) (by omega) W
  rw [hz1, Nat.mul_one] at hmk0
  refine ⟨_, fun W => ⟨hmk0 W, ?_⟩⟩
  have hX := made_u8 m
  have hX : madeCells (Value.int .u8 0).cells m = (List.replicate m (Value.int .u8 0)).toArray := hX
  rw [hX]
  exact ownB_new (Blk.new _ _ _) (Nat.le_refl _) rfl (Nat.zero_le _) (by unfold maxLen; omega) (by simp) (by simp)
set_option maxHeartbeats 3200000 in
set_option maxRecDepth 100000 in
theorem seal_any (A : Option Addr) (n c : Nat) (bs : List UInt8) (B : Nat) (w : World) (hB : B ≤ w.heap.size) (hm : n ≤ 10000000) (hn : n = bs.length) (hr : Reads w B 1 A n (bs.map byteV)) :
    Calls Tryz.prog 116 #[.slice A n c] w (GivesB w (4 + n) (beB 4 (moreD 0 bs) ++ bs)) := by
  have hzl := moreD_lt 0 bs
  have HS0 := fun W (hb : Below w.heap.size w W) => sum_any A n c bs B W (Nat.le_trans hB hb.size) (by omega) hn (hr.below hb hB)
  generalize moreD 0 bs = z at *
  have HS := hide HS0
  have HP := hide (fun (z : Int) W => put_gives 4 z W (by omega) (by omega))
  have HR := hide hr
  have HN := hide hn
  obtain ⟨i0, hi, hz0, hz1, hz2⟩ := info_parts info_u8R
  obtain ⟨X, hX⟩ := make_room Tryz.prog (4 + n) (by omega) Tryz.underlying33 info_u8R
  have hmk : ∀ W : World, (Instr.makeSlice 33 (.int .i64 0) (.int .i64 (4 + (n : Int)))).run Tryz.prog W = .ok (.slice (some ⟨W.heap.size, 0, none⟩) 0 (4 + n)) (W.alloc (.cells X 5)) := fun W => by
    have := (hX W).1
    rwa [Int.natCast_add] at this
  have HX := hide (hX w).2
  clear hr hn hX HS0
  go_enter Tryz.func116, Tryz.ntmps116
  go_wp2_with (first
    | (refine (HS.out _ ((Below.refl _ _).alloc (Nat.le_refl _) _)).mono ?_; rintro e w1 ⟨rfl, hb1⟩)
    | (refine (HP.out _ _).mono ?_; rintro e w2 ⟨A2, c2, rfl, hn2, ho2, hr2, hb2⟩; have HR2 := hide hr2; have HN2 := hide hn2; clear hr2 hn2)
    | (at_builtin; refine heldG ?_))
  have hz1' : w.heap.size + 1 ≤ w1.heap.size := by have := hb1.size; simpa using this
  have hz2' := hb2.size
  have ho1 : OwnB w2 w.heap.size _ [] := (HX.out.via hb1).via hb2
  have hbw2 : Below w.heap.size w w2 := below_via (below_via ((Below.refl _ _).alloc (Nat.le_refl _) _) hb1 (by simp)) hb2 (by omega)
  refine unheldG ?_
  at_builtin
  refine wpList_append_any _ rfl _ _ _ rfl w.heap.size 5 i0 _ 1 1 Tryz.underlying33 hi hz0 hz1 hz2 rfl (by omega) _ 0 _ rfl ho1 w2.heap.size _ _ _ _ rfl HR2.out (bytes_one _) ?c4 ?c5 ?c6 ?_
  case c4 => unfold maxLen; omega
  case c5 => omega
  case c6 => omega
  intro v3 w3 ho3 hg3 _
  have ho3 : OwnB w3 w.heap.size v3 (beB 4 ((z : Nat) : Int)) := by
    unfold OwnB
    rw [beB_length]
    simpa using ho3
  have hbw3 : Below w.heap.size w w3 := hbw2.grown hg3 (by omega) (fun q hq => (ho1.lt q hq).1)
  have hz3 := hg3.size
  clear hg3 ho1
  obtain ⟨A3, c3, rfl, junk⟩ := own_slice ho3
  clear junk
  have HO3 := hide ho3
  clear ho3
  simp only [beB_length] at HO3 ⊢
  go_wp2_with (at_builtin; refine heldG ?_)
  refine unheldG ?_
  at_builtin
  refine wpList_append_any _ rfl _ _ _ rfl w.heap.size 5 i0 _ 1 1 Tryz.underlying33 hi hz0 hz1 hz2 rfl (by omega) _ 4 _ rfl HO3.out B _ _ _ _ rfl (HR.out.below hbw3 hB) (bytes_one _) ?c4 ?c5 ?c6 ?_
  case c4 => unfold maxLen; omega
  case c5 => omega
  case c6 => omega
  intro v4 w4 ho4 hg4 _
  have ho4 : OwnB w4 w.heap.size v4 (beB 4 ((z : Nat) : Int) ++ bs) := by
    unfold OwnB
    rw [List.length_append, beB_length, List.map_append, ← HN.out]
    exact ho4
  have hbw4 : Below w.heap.size w w4 := hbw3.grown hg4 (by omega) (fun q hq => (HO3.out.lt q hq).1)
  clear hg4
  obtain ⟨A4, c4, rfl, junk⟩ := own_slice ho4
  clear junk
  have hl4 : (beB 4 ((z : Nat) : Int) ++ bs).length = 4 + n := by rw [List.length_append, beB_length, HN.out]
  rw [hl4] at ho4 ⊢
  have HO4 := hide ho4
  have HL4 := hide hl4
  clear ho4 hl4
  go_wp2
  go_ret
  exact ⟨A4, c4, rfl, HL4.out.symm, HO4.out, HO4.out.reads.2, hbw4⟩
end Go.Proofs.YtnanlaefehaifaaGreat
