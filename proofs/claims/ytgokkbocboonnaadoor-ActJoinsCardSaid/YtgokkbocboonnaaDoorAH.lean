/-
  WALK OF THE PROGRAM: act.bytesOf: bytes by their digits.
-/
import Derived.Test.YtgokkbocboonnaaDoorShelf
import Derived.Test.YtgokkbocboonnaaDoorAE
import Derived.Test.YtgokkbocboonnaaDoorPB
import Derived.WalkKit
import Derived.BigCall
namespace Go.Proofs.YtgokkbocboonnaaDoor
open Go.RowKit Go.Shelf

def byteN (b : Nat) : Value := .int .u8 (b : Int)
/-- What act.bytesOf tells. -/
def BytesPost (w : World) (o : Option (List UInt8)) (e : Ending) (w' : World) : Prop :=
  Below w.heap.size w w' ∧ ((o = none ∧ e = .returned (.tuple #[.slice none 0 0, .bool false])) ∨
    ∃ bs A n c, o = some bs ∧ e = .returned (.tuple #[.slice A n c, .bool true]) ∧ OwnB w' w.heap.size (.slice A n c) bs)
def BytesRel (w : World) (s : ByteArray) (i : Value) (wr : World) : Prop :=
  ∃ (k : Nat) (bs : List Nat), k ≤ s.size ∧ i = .int .i64 k ∧ Below w.heap.size w wr ∧ w.heap.size + 1 ≤ wr.heap.size ∧ Blk wr w.heap.size 5 (bs.map byteN).toArray ∧ bs.length = s.size / 2 ∧ (∀ b ∈ bs, b < 256) ∧
    hexGo s.data.toList 0 (List.replicate (s.size / 2) 0) = hexGo (s.data.toList.drop k) k bs
theorem info_u8A : (Tryd.prog.info? 5).map (fun i => (i.zero, i.size, i.bytes)) = some (some (.int .u8 0), 1, 1) := by kernel_rfl
theorem made_u8 (n : Nat) : madeCells #[Value.int .u8 0] n = ((List.replicate n 0).map byteN).toArray := by
  refine Array.ext (by simp [size_madeCells]) (fun i h1 h2 => ?_)
  simp at h2
  simp [madeCells, Nat.mod_one, byteN]
theorem set_hex {bs : List Nat} {i d : Nat} : ((bs.map byteN).toArray.setIfInBounds (i / 2) (byteN ((bs.getD (i / 2) 0 * 16 + d) % 256))) = ((hexStep bs i d).map byteN).toArray := by
  rw [List.setIfInBounds_toArray, hexStep, List.map_set]
theorem hexStep_lt {bs : List Nat} {i d : Nat} (h : ∀ b ∈ bs, b < 256) : ∀ b ∈ hexStep bs i d, b < 256 := by
  intro b hb
  unfold hexStep at hb
  rcases List.mem_or_eq_of_mem_set hb with hb | rfl
  · exact h b hb
  · omega
theorem index_hex (c : UInt8) (w : World) : Calls Tryd.prog 64 #[.string ⟨#[48, 49, 50, 51, 52, 53, 54, 55, 56, 57, 97, 98, 99, 100, 101, 102]⟩, .int .u8 (c.toNat : Int)] w fun e w' => e = .returned (.int .i64 (hexI c)) ∧ w' = w := by
  have h := Tryd.strings_IndexByte ⟨#[48, 49, 50, 51, 52, 53, 54, 55, 56, 57, 97, 98, 99, 100, 101, 102]⟩ (c.toNat : Int) w
  rw [Int.toNat_natCast, show c.toNat.toUInt8 = c by simp] at h
  exact h
theorem or_hex (b m : Nat) (hm : m < 16) : bits .or .u8 ((b : Int) * 16 % 256) (m : Int) = (((b * 16 + m) % 256 : Nat) : Int) := by
  obtain ⟨q, hq⟩ : ∃ q, q = b % 16 := ⟨_, rfl⟩
  have e1 : (b : Int) * 16 % 256 = ((q * 16 : Nat) : Int) := by omega
  have e2 : (b * 16 + m) % 256 = q * 16 + m := by omega
  rw [e1, e2]
  have h1 : (BitVec.ofInt 8 ((q * 16 : Nat) : Int)).toNat = q * 16 := by
    rw [BitVec.ofInt_natCast, BitVec.toNat_ofNat]; exact Nat.mod_eq_of_lt (by omega)
  have h2 : (BitVec.ofInt 8 (m : Int)).toNat = m := by
    rw [BitVec.ofInt_natCast, BitVec.toNat_ofNat]; exact Nat.mod_eq_of_lt (by omega)
  have h3 : q * 16 ||| m = q * 16 + m := by
    have := Nat.shiftLeft_add_eq_or_of_lt (b := m) (i := 4) (by omega) q
    rw [Nat.shiftLeft_eq] at this
    exact this.symm
  show IntKind.u8.wrap ((BitVec.ofInt 8 ((q * 16 : Nat) : Int) ||| BitVec.ofInt 8 (m : Int)).toNat : Int) = _
  rw [BitVec.toNat_or, h1, h2, h3, IntKind.wrap_u8]
  omega
theorem index_hexE {c b : UInt8} {d : Int} (h : c = b) (hd : hexI c = d) (w : World) : Calls Tryd.prog 64 #[.string ⟨#[48, 49, 50, 51, 52, 53, 54, 55, 56, 57, 97, 98, 99, 100, 101, 102]⟩, .int .u8 (b.toNat : Int)] w fun e w' => e = .returned (.int .i64 d) ∧ w' = w := by
  subst h hd
  exact index_hex c w
theorem own_made {w : World} {g base n : Nat} {bs : List UInt8} (k : Blk w g 5 (bs.map byteV).toArray) (hb : base ≤ g) (hn : n = bs.length) (hm : n ≤ 1000000) : OwnB w base (.slice (some ⟨g, 0, none⟩) n n) bs := by
  subst hn
  exact ⟨by simp, .inr ⟨g, _, _, rfl, hb, k, Nat.le_refl _, by unfold maxLen; omega, by simp, by simp; exact List.take_of_length_le (by simp)⟩⟩
set_option maxHeartbeats 1600000 in
theorem bytesOf_any (s : ByteArray) (w : World) (hs : s.size ≤ 1000000) :
    Calls Tryd.prog 55 #[.string s] w (BytesPost w (bytesD s.data.toList)) := by
  have hsl : s.data.toList.length = s.size := Array.length_toList (xs := s.data)
  by_cases h1 : s.data.toList = [45]
  · have HB := hide (show bytesD s.data.toList = some [] by unfold bytesD; rw [if_pos h1])
    obtain rfl : s = ⟨#[45]⟩ := by apply ByteArray.ext; simpa using congrArg List.toArray h1
    clear h1 hsl
    go_enter Tryd.func55, Tryd.ntmps55
    go_wp2
    go_ret2
    exact ⟨Below.refl _ _, .inr ⟨[], none, 0, 0, HB.out, rfl, OwnB.nil _ _⟩⟩
  · have b1 : (s.toList == [45]) = false := by
      rw [beq_eq_false_iff_ne, ByteArray.toList_eq]
      exact h1
    by_cases h2 : s.size % 2 ≠ 0 ∨ 64 < s.size
    · have HB := hide (show bytesD s.data.toList = none by unfold bytesD; rw [if_neg h1, if_pos (by rw [hsl]; exact h2)])
      have HS := hide hsl
      clear h1 hsl
      by_cases h3 : s.size % 2 = 0
      · have h4 : 64 < s.size := by omega
        have b3 : (((s.size : Int) % 2) != 0) = false := by simp; omega
        clear h2 h3
        go_enter Tryd.func55, Tryd.ntmps55
        go_wp2
        go_ret2
        exact ⟨Below.refl _ _, .inl ⟨HB.out, rfl⟩⟩
      · have b3 : (((s.size : Int) % 2) != 0) = true := by simp; omega
        clear h2 h3
        go_enter Tryd.func55, Tryd.ntmps55
        go_wp2
        go_ret2
        exact ⟨Below.refl _ _, .inl ⟨HB.out, rfl⟩⟩
    · have h4 : s.size ≤ 64 := by omega
      have h5 : s.size % 2 = 0 := by omega
      have b3 : (((s.size : Int) % 2) != 0) = false := by simp; omega
      have b4 : ((64 : Int) < s.size) = False := by simp; omega
      obtain ⟨n, hn⟩ : ∃ n, n = s.size / 2 := ⟨_, rfl⟩
      have e1 : (s.size : Int) / 2 = (n : Int) := by omega
      have HN := hide hn
      have h6 : n ≤ 32 := by omega
      have HB := hide (show bytesD s.data.toList = (hexGo s.data.toList 0 (List.replicate (s.size / 2) 0)).map (·.map UInt8.ofNat) by unfold bytesD; rw [if_neg h1, if_neg (by rw [hsl]; exact h2), hsl])
      have HS := hide hsl
      have H5 := hide h5
      obtain ⟨i0, hi, hz0, hz1, hz2⟩ := info_parts info_u8A
      have hmk := fun W => run_make_rowN (P := Tryd.prog) 23 5 i0 (.int .u8 0) Tryd.underlying23 hi hz0 .i64 .i64 n n (Nat.le_refl _) (by rw [hz2]; omega) (by omega) W
      rw [hz1] at hmk
      clear hi hz0 hz1 hz2 hn h1 h2 hsl h5
      go_enter Tryd.func55, Tryd.ntmps55
      go_wp2
      clear b1 b3 b4 e1
      go_loopw [24] (BytesRel w s) (fun i _ => s.size - (intOf i).toNat)
      case atStart => exact ⟨0, List.replicate (s.size / 2) 0, Nat.zero_le _, rfl, (Below.refl _ _).alloc (Nat.le_refl _) _, by simp, by rw [← HN.out, made_u8]; exact Blk.new _ _ _, by simp, by simp, by simp⟩
      case round =>
        obtain ⟨k, bs, hk, rfl, hbw, hz, hblk, hbl, hlt, hgo⟩ := hrel
        have HGO := hide hgo
        have HBL := hide hbl
        have HLT := hide hlt
        clear hgo hbl hlt
        by_cases hkn : k < s.size
        · have s1 : (k : Int) < s.size := by omega
          have s0 : (0 : Int) ≤ k := by omega
          have HD := hide (show s.data.toList.drop k = s[k] :: s.data.toList.drop (k + 1) by
            rw [List.drop_eq_getElem_cons (by have := HS.out; omega)]; rfl)
          obtain ⟨c, hc⟩ : ∃ c, c = s[k] := ⟨_, rfl⟩
          have hr := hexI_range c
          obtain ⟨d, hd⟩ : ∃ d, hexI c = d := ⟨_, rfl⟩
          have HIX := hide (fun W => index_hexE hc hd W)
          rw [hd] at hr
          have HDD := hide hd
          clear hd
          obtain ⟨j, hj⟩ : ∃ j, j = k / 2 := ⟨_, rfl⟩
          have e2 : (k : Int) / 2 = (j : Int) := by omega
          have hjn : j < n := by have := HN.out; have := H5.out; omega
          have HJ := hide hj
          have HC := hide hc
          obtain ⟨b, hb⟩ : ∃ b, bs[j]? = some b := ⟨_, List.getElem?_eq_getElem (by have := HBL.out; have := HN.out; omega)⟩
          have hb256 : b < 256 := HLT.out b (List.mem_of_getElem? hb)
          have q0 : wr.cell? ⟨w.heap.size, j, none⟩ = some (.int .u8 b) := by rw [hblk.cell]; simp [hb, byteN]
          have q1 := hblk.frozen j
          have HBB := hide hb
          have HBK := hide hblk
          clear hb hblk hj hc
          by_cases hneg : d < 0
          · go_wp2_with (go_at_call 64; refine (HIX.out _).mono ?_; rintro e w' ⟨rfl, rfl⟩)
            go_ret2
            refine ⟨hbw, .inl ⟨?_, rfl⟩⟩
            rw [HB.out, HGO.out, HD.out, ← HC.out]
            simp only [hexGo]
            rw [if_pos (by rw [HDD.out]; exact hneg)]
            rfl
          · obtain ⟨m, rfl⟩ : ∃ m : Nat, d = m := ⟨d.toNat, by omega⟩
            have hm : m < 16 := by omega
            clear hr hneg
            go_wp2_with (go_at_call 64; refine (HIX.out _).mono ?_; rintro e w' ⟨rfl, rfl⟩)
            go_roundw
            case rel =>
              have hbj : bs.getD (k / 2) 0 = b := by rw [← HJ.out, List.getD_eq_getElem?_getD, HBB.out]; rfl
              refine ⟨k + 1, hexStep bs k m, by omega, by go_num, hbw.setCell (p := ⟨w.heap.size, j, none⟩) (Nat.le_refl _) _, by simpa [World.setCell] using hz, ?_, by rw [hexStep, List.length_set]; exact HBL.out, hexStep_lt HLT.out, ?_⟩
              · have h1 := HBK.out.set_ j (.int .u8 (bits BinOp.or IntKind.u8 ((b : Int) * 16 % 256) (m : Int)))
                have h2 := set_hex (bs := bs) (i := k) (d := m)
                rw [hbj, ← HJ.out] at h2
                rw [← h2]
                rw [or_hex b m hm] at h1 ⊢
                exact h1
              · rw [HGO.out, HD.out, ← HC.out]
                simp only [hexGo]
                rw [HDD.out, if_neg (by omega), Int.toNat_natCast]
            case measure => simp [intOf]; omega
        · obtain rfl : k = s.size := by omega
          go_wp2
          go_ret2
          refine ⟨hbw, .inr ⟨bs.map UInt8.ofNat, _, _, _, ?_, rfl, ?_⟩⟩
          · rw [HB.out, HGO.out, List.drop_of_length_le (by rw [HS.out]; exact Nat.le_refl _)]
            rfl
          · have e1 : bs.map byteN = (bs.map UInt8.ofNat).map byteV := by
              rw [List.map_map]
              apply List.map_congr_left
              intro b hb
              have := HLT.out b hb
              simp [byteN, byteV]
              omega
            rw [e1] at hblk
            have hl : n = (bs.map UInt8.ofNat).length := by rw [List.length_map, HBL.out, HN.out]
            exact own_made hblk (Nat.le_refl _) hl (by omega)
end Go.Proofs.YtgokkbocboonnaaDoor
