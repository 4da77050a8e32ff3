/-
  WALKS OF THE PROGRAM: patch.within, patch.Check, patch.Put (some bytes, with their number).
-/
import Derived.Test.YtnanlaefehaifaaGreatRP
namespace Go.Proofs.YtnanlaefehaifaaGreat
open Go.RowKit

/-- A bool is given. -/
def BoolP (w : World) (e : Ending) (w' : World) : Prop := (∃ b, e = .returned (.bool b)) ∧ Below w.heap.size w w'
set_option maxHeartbeats 3200000 in
set_option maxRecDepth 100000 in
theorem within_any (at_ : Int) (A : Option Addr) (n c : Nat) (w : World) :
    Calls Tryz.prog 224 #[.agg #[.int .i64 at_, .slice A n c]] w (BoolP w) := by
  go_enter Tryz.func224, Tryz.ntmps224
  go_wp2
  all_goals
    go_ret
    exact ⟨⟨_, rfl⟩, (Below.refl _ _).alloc (Nat.le_refl _) _⟩
/-- A patch as a value. -/
def patV (x : PatV) : Value := .agg #[.int .i64 x.page, .bool x.fresh, x.rv]
/-- An error's number is given. -/
def ErrP (w : World) (e : Ending) (w' : World) : Prop := (e = .returned (.int .i64 0) ∨ e = .returned (.int .i64 1)) ∧ Below w.heap.size w w'
set_option maxHeartbeats 6400000 in
set_option maxRecDepth 100000 in
theorem patCheck_any (x : PatV) (B : Nat) (w : World) (hs : PatSm x) (hB : B ≤ w.heap.size) (ha : Runs w B x.rv x.runs) :
    Calls Tryz.prog 173 #[patV x] w (ErrP w) := by
  have HW := hide (fun at_ A n c W => within_any at_ A n c W)
  obtain ⟨page, fresh, rs, rv⟩ := x
  obtain ⟨hsa, hok⟩ := ha
  obtain ⟨hs1, hs2⟩ := hs
  dsimp only at *
  have HSA := hide hsa
  have HOK := hide hok
  have HS2 := hide hs2
  obtain ⟨A, c, rfl, hc, hm, hnil, _⟩ := hsa
  have hl60 : rs.length ≤ 60 := hs1
  obtain ⟨m, hm'⟩ : ∃ m, m = rs.length := ⟨_, rfl⟩
  have HM := hide hm'
  rw [← hm'] at hl60
  unfold patV
  dsimp only
  rw [← hm']
  clear hm' hs1 hs2 hok hc hm hnil
  go_enter Tryz.func173, Tryz.ntmps173
  go_wp2
  all_goals try (go_ret; exact ⟨.inr rfl, (Below.refl _ _).alloc (Nat.le_refl _) _⟩)
  go_loopw [3, 23] (fun sv iv wr => ∃ (k : Nat) (z : Int), k ≤ m ∧ iv = .int .i64 k ∧ sv = .int .i64 z ∧ Below w.heap.size w wr) (fun _ iv _ => m - (intOf iv).toNat)
  case atStart => exact ⟨0, -1, Nat.zero_le _, rfl, rfl, (Below.refl _ _).alloc (Nat.le_refl _) _⟩
  case round =>
    obtain ⟨k, z, hk, rfl, rfl, hbw⟩ := hrel
    by_cases hlt : k < m
    · have hlt' : k < rs.length := by have := HM.out; omega
      obtain ⟨b, o, c', x, e0, hb, hx, _, _, hcell⟩ := SliceAt.at_ RunV.cells_length (by omega) (HSA.out.keep (w' := wr) (fun p hp => hbw.cell (by omega))) hlt'
      injection e0 with e1 e2 e3
      subst e1 e3
      have c0 : wr.cell? ⟨b, o + k * 2, none⟩ = some (.int .i64 x.place) := hcell 0 _ rfl
      have c1 : wr.cell? ⟨b, o + k * 2 + 1, none⟩ = some x.dv := hcell 1 _ rfl
      obtain ⟨A1, n1, c1', hdv, _, _, hn1, _⟩ := HOK.out x (List.mem_of_getElem? hx)
      have hn6 := HS2.out x (List.mem_of_getElem? hx)
      rw [hdv] at c1
      have hn16 : n1 ≤ 1000000 := by unfold RunSm at hn6; omega
      have hzb := hbw.size
      have HX := hide (fun W => HW.out x.place A1 n1 c1' W)
      clear hcell hx hn6 hdv hn1
      go_wp2_with (go_at_call 224; refine (HX.out _).mono ?_; rintro e w2 ⟨⟨bb, rfl⟩, hb2⟩; have hbw2 := below_via (hbw.alloc hzb _) hb2 (by simp; omega); have k2 := Blk.via hb2 (Blk.new wr 180 _); have p0 : w2.cell? ⟨wr.heap.size, 0, none⟩ = some _ := k2.cell 0; have p1 : w2.cell? ⟨wr.heap.size, 1, none⟩ = some _ := k2.cell 1; clear k2 hb2)
      all_goals first
        | exact ⟨⟨k + 1, _, by omega, by go_num, rfl, hbw2⟩, by simp [intOf]; omega⟩
        | (go_ret; exact ⟨.inr rfl, hbw2⟩)
    · obtain rfl : k = m := by omega
      go_wp2
      go_ret
      exact ⟨.inl rfl, hbw⟩
/-- While bytes are put one behind the other: the list's box, another one. -/
structure AddT (W0 : World) (bo bc : Nat) (t : TypeId) (cs : Array Value) (bs : List UInt8) (W : World) : Prop where
  hb : W0.heap.size ≤ bo
  he : bo ≠ bc
  ht : t ≠ 5
  kO : ∃ v, Blk W bo 33 #[v] ∧ OwnB W W0.heap.size v bs
  kC : Blk W bc t cs
  bw : Below W0.heap.size W0 W
theorem AddT.via {W0 W W' : World} {bo bc : Nat} {t : TypeId} {cs : Array Value} {bs : List UInt8} (h : AddT W0 bo bc t cs bs W) (hb : Below W.heap.size W W') : AddT W0 bo bc t cs bs W' := by
  obtain ⟨v, k, o⟩ := h.kO
  exact ⟨h.hb, h.he, h.ht, ⟨v, Blk.via hb k, o.via hb⟩, Blk.via hb h.kC, below_via h.bw hb h.bw.size⟩
/-- Behind such a put. -/
def AddQ (W0 : World) (bo bc : Nat) (t : TypeId) (cs : Array Value) (bs : List UInt8) (e : Ending) (w' : World) : Prop := (∃ v, e = .returned v) ∧ AddT W0 bo bc t cs bs w'
set_option maxHeartbeats 3200000 in
set_option maxRecDepth 100000 in
theorem patAdd (W0 : World) (bo bc : Nat) (t : TypeId) (cs : Array Value) (bs : List UInt8) (width : Nat) (n : Int) (w : World) (hw1 : 1 ≤ width) (hw8 : width ≤ 8) (hS : AddT W0 bo bc t cs bs w) (hl : bs.length ≤ 10000000) :
    Calls Tryz.prog 178 #[.int .i64 (width : Nat), .int .i64 n, .pointer (some ⟨bo, 0, none⟩)] w (AddQ W0 bo bc t cs (bs ++ beB width n)) := by
  obtain ⟨v, k0, o0⟩ := hS.kO
  have kC := hS.kC
  have hbw := hS.bw
  have hB0 := hS.hb
  have hne := hS.he
  have HTn := hide hS.ht
  have hz0 := hbw.size
  obtain ⟨A, c, rfl, junk⟩ := own_slice o0
  have HO := hide o0
  have HK := hide k0
  have HC := hide kC
  have HQ := hide (fun W (hW : Below w.heap.size w W) => (show W.cell? ⟨bo, 0, none⟩ = some (.slice A bs.length c) from (hW.cell (p := ⟨bo, 0, none⟩) k0.lt).trans (k0.cell 0)))
  have HP := hide (fun W => put_gives width n W hw1 hw8)
  obtain ⟨i0, hi, hz0', hz1, hz2⟩ := info_parts info_u8R
  have jb := (Below.refl w.heap.size w).drew
  clear hS o0 k0 kC junk
  go_enter Tryz.func178, Tryz.ntmps178
  have e1 := HQ.out _ jb
  go_region_law (first
    | (go_simp; go_at_call 113; (with_reducible refine (HP.out _).mono ?_); rintro e w3 ⟨A3, c3, rfl, hn3, ho3, hr3, hb3⟩; clear hn3; have jb3 := below_via jb hb3 jb.size; have e3 := HQ.out _ jb3; have own3 := HO.out.via jb3; have k3 := Blk.via jb3 HK.out; have kc3 := Blk.via jb3 HC.out; have bw3 := below_via hbw jb3 hbw.size; have jz3 := bw3.size; have HR3 := hide hr3; clear hr3 ho3)
    | (refine step_append_any _ (by rfl) (.tmp 5) (.tmp 8) _ (by rfl) W0.heap.size 5 i0 _ 1 1 Tryz.underlying33 hi hz0' hz1 hz2 rfl (by omega) (.slice A bs.length c) bs.length _ (by rfl) own3 _ A3 width c3 _ (by rfl) HR3.out (bytes_one _) (by unfold maxLen; omega) (by omega) (by omega) ?_; intro v4 w4 hown4 hg4 _; obtain ⟨A4, d4, hv4, _⟩ := own_slice hown4; subst hv4; have k4 := k3.keepB own3 (by decide) hg4; have kc4 := kc3.keepB own3 HTn.out hg4; have f4 := k4.frozen 0; have l4 := k4.lt; have e4 := k4.cell 0; have bw4 := bw3.grown hg4 (by omega) (fun q hq => (own3.lt q hq).1)))
  all_goals go_wp2_with fail
  all_goals
    go_end0
    have ho4 : OwnB w4 W0.heap.size (.slice A4 (bs.length + width) d4) (bs ++ beB width n) := by
      unfold OwnB
      rw [List.length_append, beB_length, List.map_append]
      exact hown4
    exact ⟨⟨_, rfl⟩, hB0, hne, HTn.out, ⟨_, k4.set_ 0 _, ho4.far k4 (by decide) _⟩, kc4.far (p := ⟨bo, 0, none⟩) hne.symm _, bw4.setCell (p := ⟨bo, 0, none⟩) hB0 _⟩
end Go.Proofs.YtnanlaefehaifaaGreat
