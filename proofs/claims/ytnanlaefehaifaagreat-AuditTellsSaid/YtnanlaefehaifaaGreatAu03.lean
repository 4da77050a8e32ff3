/-
  Texts of this claim, joined: KC, RE, MA, PA, WC, PN, RF, RG, RN, RK.
-/
import Derived.Deep.QuietTactic
import Derived.BigQuiet
import Derived.Deep.RegionHeld3
import Derived.WalkSpells
import Derived.Laws.RangeAny
import Derived.Laws.RangeString
import Derived.Laws.BytesArg
import Derived.Test.YtnanlaefehaifaaGreatAu02
set_option maxHeartbeats 6400000
set_option maxRecDepth 100000
namespace Go.Proofs.YtnanlaefehaifaaGreat
open Go.RowKit
def pgV (bs : List UInt8) : Value := .agg (bs.map byteV).toArray
theorem info_pg : (Tryz.prog.info? 63).map (·.size) = some 512 := by kernel_rfl
theorem pg_size (bs : List UInt8) (h : bs.length = 512) : ((bs.map byteV).toArray).size = 512 := by simp [h]
theorem pg_reads {W : World} {g : Nat} {t : TypeId} {bs : List UInt8} (k : Blk W g t (bs.map byteV).toArray) (hl : bs.length = 512) : Reads W (g + 1) 1 (some ⟨g, 0, none⟩) 512 (bs.map byteV) := by
  have h := Reads.of_blk (n := 512) (size := 1) k (by simp [hl])
  simpa using h
theorem pnum_any (bs : List UInt8) (hl : bs.length = 512) (at_ width : Nat) (w : World) (h1 : 1 ≤ width) (h8 : width ≤ 8) (hin : at_ + width ≤ 512) :
    Calls Tryz.prog 141 #[pgV bs, .int .i64 (at_ : Nat), .int .i64 (width : Nat)] w fun e w' => e = .returned (.int .i64 (numI (cutB bs at_ width))) ∧ Below w.heap.size w w' := by
  have HN := hide (fun W (k : Blk W w.heap.size 63 (bs.map byteV).toArray) => num_any (some ⟨w.heap.size, 0, none⟩) 512 512 bs at_ width _ W (by omega) (by omega) hl.symm (pg_reads k hl) h1 h8 hin)
  unfold pgV
  generalize hX : (bs.map byteV).toArray = X at *
  clear hX
  go_enter Tryz.func141, Tryz.ntmps141
  go_wp2_with (go_at_call 167; refine (HN.out _ (Blk.new _ _ _)).mono ?_; rintro e w' ⟨rfl, hw'⟩; obtain rfl := hw'.symm)
  go_ret
  exact ⟨rfl, (Below.refl _ _).alloc (Nat.le_refl _) _⟩
theorem pNo_any (bs : List UInt8) (hl : bs.length = 512) (w : World) : Calls Tryz.prog 91 #[pgV bs] w fun e w' => e = .returned (.int .i64 (numI (cutB bs 12 2))) ∧ Below w.heap.size w w' := by
  have HN := hide (fun W => pnum_any bs hl 12 2 W (by omega) (by omega) (by omega))
  have hsz := pg_size bs hl
  have HII := hide (show (Tryz.prog.info? 63).map (·.size) = some ((bs.map byteV).toArray).size by rw [hsz]; exact info_pg)
  unfold pgV at *
  generalize hX : (bs.map byteV).toArray = X at *
  clear hX hsz
  have HB := hide (Blk.new w 63 X)
  have hb1 : Below w.heap.size w (w.alloc (.cells X 63)) := (Below.refl _ _).alloc (Nat.le_refl _) _
  go_enter Tryz.func91, Tryz.ntmps91
  go_wp2_with (first
    | (refine wpList_load_row rfl 63 (.tmp 1) rfl w.heap.size rfl 63 X (0, 0) _ HB.out Tryz.underlying63 rfl HII.out ?_)
    | (go_at_call 141; refine (HN.out _).mono ?_; rintro e w2 ⟨rfl, hb2⟩))
  go_ret
  exact ⟨rfl, below_via hb1 hb2 hb1.size⟩
theorem pLSN_any (bs : List UInt8) (hl : bs.length = 512) (w : World) : Calls Tryz.prog 92 #[pgV bs] w fun e w' => e = .returned (.int .i64 (numI (cutB bs 4 8))) ∧ Below w.heap.size w w' := by
  have HN := hide (fun W => pnum_any bs hl 4 8 W (by omega) (by omega) (by omega))
  have hsz := pg_size bs hl
  have HII := hide (show (Tryz.prog.info? 63).map (·.size) = some ((bs.map byteV).toArray).size by rw [hsz]; exact info_pg)
  unfold pgV at *
  generalize hX : (bs.map byteV).toArray = X at *
  clear hX hsz
  have HB := hide (Blk.new w 63 X)
  have hb1 : Below w.heap.size w (w.alloc (.cells X 63)) := (Below.refl _ _).alloc (Nat.le_refl _) _
  go_enter Tryz.func92, Tryz.ntmps92
  go_wp2_with (first
    | (refine wpList_load_row rfl 63 (.tmp 1) rfl w.heap.size rfl 63 X (0, 0) _ HB.out Tryz.underlying63 rfl HII.out ?_)
    | (go_at_call 141; refine (HN.out _).mono ?_; rintro e w2 ⟨rfl, hb2⟩))
  go_ret
  exact ⟨rfl, below_via hb1 hb2 hb1.size⟩
theorem pNext_any (bs : List UInt8) (hl : bs.length = 512) (w : World) : Calls Tryz.prog 140 #[pgV bs] w fun e w' => e = .returned (.int .i64 (numI (cutB bs 14 2))) ∧ Below w.heap.size w w' := by
  have HN := hide (fun W => pnum_any bs hl 14 2 W (by omega) (by omega) (by omega))
  have hsz := pg_size bs hl
  have HII := hide (show (Tryz.prog.info? 63).map (·.size) = some ((bs.map byteV).toArray).size by rw [hsz]; exact info_pg)
  unfold pgV at *
  generalize hX : (bs.map byteV).toArray = X at *
  clear hX hsz
  have HB := hide (Blk.new w 63 X)
  have hb1 : Below w.heap.size w (w.alloc (.cells X 63)) := (Below.refl _ _).alloc (Nat.le_refl _) _
  go_enter Tryz.func140, Tryz.ntmps140
  go_wp2_with (first
    | (refine wpList_load_row rfl 63 (.tmp 1) rfl w.heap.size rfl 63 X (0, 0) _ HB.out Tryz.underlying63 rfl HII.out ?_)
    | (go_at_call 141; refine (HN.out _).mono ?_; rintro e w2 ⟨rfl, hb2⟩))
  go_ret
  exact ⟨rfl, below_via hb1 hb2 hb1.size⟩
theorem pNote_any (bs : List UInt8) (hl : bs.length = 512) (w : World) : Calls Tryz.prog 136 #[pgV bs] w fun e w' => e = .returned (.int .i64 (numI (cutB bs 16 8))) ∧ Below w.heap.size w w' := by
  have HN := hide (fun W => pnum_any bs hl 16 8 W (by omega) (by omega) (by omega))
  have hsz := pg_size bs hl
  have HII := hide (show (Tryz.prog.info? 63).map (·.size) = some ((bs.map byteV).toArray).size by rw [hsz]; exact info_pg)
  unfold pgV at *
  generalize hX : (bs.map byteV).toArray = X at *
  clear hX hsz
  have HB := hide (Blk.new w 63 X)
  have hb1 : Below w.heap.size w (w.alloc (.cells X 63)) := (Below.refl _ _).alloc (Nat.le_refl _) _
  go_enter Tryz.func136, Tryz.ntmps136
  go_wp2_with (first
    | (refine wpList_load_row rfl 63 (.tmp 1) rfl w.heap.size rfl 63 X (0, 0) _ HB.out Tryz.underlying63 rfl HII.out ?_)
    | (go_at_call 141; refine (HN.out _).mono ?_; rintro e w2 ⟨rfl, hb2⟩))
  go_ret
  exact ⟨rfl, below_via hb1 hb2 hb1.size⟩
theorem psum_any (bs : List UInt8) (hl : bs.length = 512) (w : World) : Calls Tryz.prog 142 #[pgV bs] w fun e w' => e = .returned (.int .i64 ((moreD 0 (bs.drop 4) : Nat) : Int)) ∧ Below w.heap.size w w' := by
  have HS := hide (fun W (k : Blk W w.heap.size 63 (bs.map byteV).toArray) => sum_any (some ⟨w.heap.size, 4, none⟩) 508 508 (bs.drop 4) _ W (Nat.le_refl _) (by omega) (by simp [hl]) (by
    have h := ((pg_reads k hl).more k.lt).cut (k := 4) (cap := 512) (by omega) (Nat.le_refl _)
    rw [if_neg (by omega), Option.map_some, add_plain] at h
    simpa using h))
  have hlt : moreD 0 (bs.drop 4) < 4294967296 := by unfold moreD; omega
  unfold pgV
  generalize hX : (bs.map byteV).toArray = X at *
  generalize moreD 0 (bs.drop 4) = v at *
  clear hX
  have hb1 : Below w.heap.size w (w.alloc (.cells X 63)) := (Below.refl _ _).alloc (Nat.le_refl _) _
  go_enter Tryz.func142, Tryz.ntmps142
  go_wp2_with (go_at_call 181; refine (HS.out _ (Blk.new _ _ _)).mono ?_; rintro e w2 ⟨rfl, hb2⟩)
  go_ret
  exact ⟨rfl, below_via hb1 hb2 hb1.size⟩
theorem none_any (A : Option Addr) (n c : Nat) (bs : List UInt8) (B : Nat) (w : World) (hm : n ≤ 100000000) (hn : n = bs.length) (hr : Reads w B 1 A n (bs.map byteV)) :
    Calls Tryz.prog 143 #[.slice A n c] w fun e w' => e = .returned (.bool (bs.all (· == 0))) ∧ w' = w := by
  have HR := hide hr
  have HN := hide hn
  clear hr hn
  go_enter Tryz.func143, Tryz.ntmps143
  go_wp2
  go_loopw [7] (fun iv wr => wr = w ∧ ∃ k : Nat, k ≤ n ∧ iv = .int .i64 k ∧ Hid ((bs.take k).all (· == 0) = true)) (fun iv _ => n - (intOf iv).toNat)
  case atStart => exact ⟨rfl, 0, Nat.zero_le _, rfl, hide (by simp)⟩
  case round =>
    obtain ⟨rfl, k, hk, rfl, hT⟩ := hrel
    by_cases hlt : (k : Int) < n
    · obtain ⟨b, o, rfl, hbB, hcell⟩ := HR.out.plain (by omega) (by omega)
      have hkb : k < bs.length := by have := HN.out; omega
      obtain ⟨x, hx⟩ : ∃ x, bs[k]? = some x := ⟨_, List.getElem?_eq_getElem hkb⟩
      have hc : wr.cell? ⟨b, o + k, none⟩ = some (.int .u8 ((x.toNat : Nat) : Int)) := hcell k (byteV x) (by rw [List.getElem?_map, hx]; rfl)
      have u0 : (0 : Int) ≤ k := by omega
      have HX := hide hx
      have hxl := x.toNat_lt
      clear hcell hx
      cases h0 : (((x.toNat : Nat) : Int) != 0)
      · have HS := hide (show (bs.take (k + 1)).all (· == 0) = true by
          obtain ⟨l1, e1⟩ := List.getElem?_eq_some_iff.1 HX.out
          have h9 : x.toNat = 0 := by have := h0; simp at this; omega
          have hx0 : x = 0 := UInt8.toNat_inj.1 (by rw [h9]; rfl)
          rw [List.take_succ_eq_append_getElem l1, e1, List.all_append, hT.out, hx0]
          rfl)
        generalize x.toNat = y at *
        clear hkb
        go_wp2
        go_roundw
        case rel => exact ⟨by trivial, k + 1, by omega, by go_num, HS⟩
        case measure => simp [intOf]; omega
      · have HS := hide (show bs.all (· == 0) = false by
          rw [List.all_eq_false]
          refine ⟨x, List.mem_of_getElem? HX.out, ?_⟩
          intro h9
          rw [beq_iff_eq] at h9
          subst h9
          simp at h0)
        generalize x.toNat = y at *
        clear hkb
        go_wp2
        go_ret
        exact ⟨ret_bool HS.out.symm, rfl⟩
    · have HS := hide (show bs.all (· == 0) = true by have h9 := hT.out; rw [List.take_of_length_le (by have := HN.out; omega)] at h9; exact h9)
      go_wp2
      go_ret
      exact ⟨ret_bool HS.out.symm, rfl⟩
end Go.Proofs.YtnanlaefehaifaaGreat
namespace Go.Proofs.YtnanlaefehaifaaGreat
open Go.RowKit
def GivesB (w : World) (n : Nat) (bs : List UInt8) (e : Ending) (w' : World) : Prop := ∃ A c, e = .returned (.slice A n c) ∧ n = bs.length ∧ OwnB w' w.heap.size (.slice A n c) bs ∧ Reads w' w'.heap.size 1 A n (bs.map byteV) ∧ Below w.heap.size w w'
theorem OwnB.reads {w : World} {base n c : Nat} {A : Option Addr} {bs : List UInt8} (h : OwnB w base (.slice A n c) bs) : n = bs.length ∧ Reads w w.heap.size 1 A n (bs.map byteV) := by
  obtain ⟨A', c', e, _, _, _, hr, _⟩ := own_slice h
  injection e with e1 e2 e3
  subst e1 e2
  exact ⟨rfl, hr⟩
theorem put_gives (width : Nat) (n : Int) (w : World) (hw1 : 1 ≤ width) (hw8 : width ≤ 8) :
    Calls Tryz.prog 113 #[.slice none 0 0, .int .i64 (width : Nat), .int .i64 n] w (GivesB w width (beB width n)) :=
  (put_nil width n w hw1 hw8).mono fun _ _ ⟨_, _, h1, h2, h3⟩ => ⟨_, _, h1, h2.reads.1, h2, h2.reads.2, h3⟩
theorem make_room (P : Program) (m : Nat) (hm : m ≤ 100000000) (hP : P.underlying 33 = some (.slice 5)) (hi : (P.info? 5).map (fun i => (i.zero, i.size, i.bytes)) = some (some (.int .u8 0), 1, 1)) : ∃ X, ∀ W : World, (Instr.makeSlice 33 (.int .i64 0) (.int .i64 (m : Int))).run P W = .ok (.slice (some ⟨W.heap.size, 0, none⟩) 0 m) (W.alloc (.cells X 5)) ∧ OwnB (W.alloc (.cells X 5)) W.heap.size (.slice (some ⟨W.heap.size, 0, none⟩) 0 m) [] := by
  obtain ⟨i0, hi, hz0, hz1, hz2⟩ := info_parts hi
  have hmk0 := fun W => run_make_rowN (P := P) 33 5 i0 (.int .u8 0) hP hi hz0 .i64 .i64 0 m (Nat.zero_le _) (by rw [hz2]; omega) (by omega) W
  rw [hz1, Nat.mul_one] at hmk0
  refine ⟨_, fun W => ⟨hmk0 W, ?_⟩⟩
  have hX := made_u8 m
  have hX : madeCells (Value.int .u8 0).cells m = (List.replicate m (Value.int .u8 0)).toArray := hX
  rw [hX]
  exact ownB_new (Blk.new _ _ _) (Nat.le_refl _) rfl (Nat.zero_le _) (by unfold maxLen; omega) (by simp) (by simp)
end Go.Proofs.YtnanlaefehaifaaGreat
namespace Go.Proofs.YtnanlaefehaifaaGreat
open Go.RowKit
theorem take_snoc_b (s : ByteArray) (k : Nat) (h : k < s.size) : s.data.toList.take (k + 1) = s.data.toList.take k ++ [s[k]] := by
  rw [List.take_succ_eq_append_getElem (by simpa using h)]; rfl
theorem keyRight_any (s : ByteArray) (w : World) (hs : s.size ≤ 9223372036854775807) :
    Calls Tryz.prog 236 #[.string s] w fun e w' => e = .returned (.bool (goodKey s)) ∧ w' = w := by
  go_enter Tryz.func236, Tryz.ntmps236
  go_wp2
  go_loop [3] (fun i => ∃ k : Nat, k ≤ s.size ∧ i = .int .i64 k ∧ (s.data.toList.take k).all okByte = true) (fun i => s.size - (intOf i).toNat)
  case atStart => exact ⟨0, Nat.zero_le _, rfl, by simp⟩
  case round =>
    obtain ⟨k, hk, rfl, hall⟩ := hrel
    have HA := hide hall
    clear hall
    by_cases hlt : k < s.size
    · have hbad : ¬ (33 ≤ s[k].toNat ∧ s[k].toNat ≤ 126) → goodKey s = false := fun hn => by
        unfold goodKey
        have h1 : s.data.toList.all okByte = false := by
          rw [List.all_eq_false]
          refine ⟨s[k], ?_, by unfold okByte; simp only [decide_eq_true_eq]; exact hn⟩
          have : s[k] = s.data.toList[k]'(by simpa using hlt) := rfl
          rw [this]
          exact List.getElem_mem _
        rw [h1]
        rfl
      have HB := hide hbad
      clear hbad
      go_wp2
      · go_ret
        have h1 : (s[k].toNat : Int) < 33 ∨ 126 < (s[k].toNat : Int) := by assumption
        exact ⟨ret_bool (HB.out (by omega)).symm, rfl⟩
      · have h1 : 33 ≤ (s[k].toNat : Int) ∧ (s[k].toNat : Int) ≤ 126 := by assumption
        go_round
        case rel =>
          refine ⟨k + 1, by omega, by go_num, ?_⟩
          rw [take_snoc_b s k hlt, List.all_append, HA.out]
          simp only [List.all_cons, List.all_nil, Bool.and_true, Bool.true_and]
          unfold okByte
          simp only [decide_eq_true_eq]
          omega
        case measure => simp [intOf]; omega
      · go_ret
        have h1 : (s[k].toNat : Int) < 33 := by assumption
        exact ⟨ret_bool (HB.out (by omega)).symm, rfl⟩
    · have hend : s.data.toList.all okByte = true := by have := HA.out; rwa [List.take_of_length_le (by simp; omega)] at this
      have HE := hide hend
      clear hend
      by_cases hpos : (0 : Int) < s.size
      · go_wp2
        go_ret
        refine ⟨ret_bool ?_, rfl⟩
        unfold goodKey
        rw [HE.out, decide_eq_true (show 0 < s.size by omega)]
        simp
        omega
      · go_wp2
        go_ret
        refine ⟨ret_bool ?_, rfl⟩
        have h1 : ¬ 0 < s.size := by omega
        unfold goodKey
        rw [decide_eq_false h1]
        simp
theorem cellRight_any (d : CellD) (A : Option Addr) (n c : Nat) (w : World) (hn : n = d.data.length) :
    Calls Tryz.prog 237 #[.agg #[.int .i64 d.kind, .slice A n c, .int .i64 d.lo, .int .i64 d.hi, .int .i64 d.val]] w fun e w' => e = .returned (.bool (rightC d)) ∧ Below w.heap.size w w' := by
  have HN := hide hn
  clear hn
  go_enter Tryz.func237, Tryz.ntmps237
  go_wp2
  all_goals
    go_ret
    refine ⟨ret_bool ?_, (Below.refl _ _).alloc (Nat.le_refl _) _⟩
    have hn := HN.out
    clear HN
    unfold rightC
    simp_all <;> omega
end Go.Proofs.YtnanlaefehaifaaGreat
namespace Go.Proofs.YtnanlaefehaifaaGreat
open Go.RowKit
theorem seen_any (r : Nat) (b : Bool) (hb : decide (33 ≤ r ∧ r ≤ 126) = b) (w : World) :
    Calls Tryz.prog 248 #[.int .i32 (r : Int)] w fun e w' => e = .returned (.bool b) ∧ w' = w := by
  by_cases h1 : 33 ≤ r
  · by_cases h2 : r ≤ 126
    · obtain rfl : b = true := by rw [← hb]; simp [h1, h2]
      clear hb
      have g1 : (33 : Int) ≤ r := by omega
      have g2 : (r : Int) ≤ 126 := by omega
      go_enter Tryz.func248, Tryz.ntmps248
      go_wp2
      go_ret
      exact ⟨rfl, rfl⟩
    · obtain rfl : b = false := by rw [← hb]; simp [h2]
      clear hb
      have g1 : (33 : Int) ≤ r := by omega
      have g2 : ¬ (r : Int) ≤ 126 := by omega
      go_enter Tryz.func248, Tryz.ntmps248
      go_wp2
      go_ret
      exact ⟨rfl, rfl⟩
  · obtain rfl : b = false := by rw [← hb]; simp [h1]
    clear hb
    have g1 : ¬ (33 : Int) ≤ r := by omega
    go_enter Tryz.func248, Tryz.ntmps248
    go_wp2
    go_ret
    exact ⟨rfl, rfl⟩
def keyE (s : ByteArray) : Int := if goodKey s = true then 0 else 1
theorem keyE_bad {s : ByteArray} {k : Nat} (hlt : k < s.size) (h : okByte s[k] = false) : keyE s = 1 := by
  have h1 : s.data.toList.all okByte = false := by
    rw [List.all_eq_false]
    refine ⟨s[k], ?_, by rw [h]; exact Bool.false_ne_true⟩
    have : s[k] = s.data.toList[k]'(by simpa using hlt) := rfl
    rw [this]
    exact List.getElem_mem _
  unfold keyE goodKey
  rw [h1]
  rfl
theorem keyE_len {s : ByteArray} (h : ¬ (0 < s.size ∧ s.size ≤ 16)) : keyE s = 1 := by
  unfold keyE goodKey
  rw [if_neg]
  intro hh
  simp only [Bool.and_eq_true, decide_eq_true_eq] at hh
  exact h hh.2
theorem keyCheck_any (s : ByteArray) (w : World) (hs : s.size ≤ 9223372036854775807) :
    Calls Tryz.prog 222 #[.string s] w fun e w' => e = .returned (.int .i64 (keyE s)) ∧ Below w.heap.size w w' := by
  by_cases h1 : (s.size : Int) < 1
  · have HE := hide (keyE_len (s := s) (by omega))
    go_enter Tryz.func222, Tryz.ntmps222
    go_wp2
    go_ret
    exact ⟨ret_int HE.out.symm, Below.refl _ _⟩
  · by_cases h2 : (16 : Int) < s.size
    · have HE := hide (keyE_len (s := s) (by omega))
      go_enter Tryz.func222, Tryz.ntmps222
      go_wp2
      go_ret
      exact ⟨ret_int HE.out.symm, Below.refl _ _⟩
    · go_enter Tryz.func222, Tryz.ntmps222
      go_wp2
      go_loopw [4] (fun _ wr => ∃ pos : Nat, pos ≤ s.size ∧ wr = w.iter s pos ∧ (s.data.toList.take pos).all okByte = true) (fun _ wr => s.size - wr.iterPos w.heap.size)
      case atStart => exact ⟨0, Nat.zero_le _, rfl, by simp⟩
      case round =>
        obtain ⟨pos, hpos, rfl, hall⟩ := hrel
        have HA := hide hall
        clear hall
        by_cases hp : pos < s.size
        · by_cases ha : (s[pos]'hp).toNat < 128
          · have hnx : ∀ ty, (Instr.next (.pointer (some ⟨w.heap.size, 0, none⟩)) true ty).run Tryz.prog (w.iter s pos) = _ := fun ty => run_next_ascii w s pos ty hp ha
            cases hok : okByte s[pos]
            · have HE := hide (keyE_bad hp hok)
              have HS := hide (fun W => seen_any (s[pos]'hp).toNat false hok W)
              clear hok
              go_wp2_with (go_at_call 248; refine (HS.out _).mono ?_; rintro e w' ⟨rfl, rfl⟩)
              go_ret
              exact ⟨ret_int HE.out.symm, (Below.refl _ _).alloc (Nat.le_refl _) _⟩
            · have HS := hide (fun W => seen_any (s[pos]'hp).toNat true hok W)
              have HO := hide hok
              clear hok
              go_wp2_with (go_at_call 248; refine (HS.out _).mono ?_; rintro e w' ⟨rfl, rfl⟩)
              go_roundw
              case rel =>
                refine ⟨pos + 1, by omega, rfl, ?_⟩
                rw [take_snoc_b s pos hp, List.all_append, HA.out]
                simp [HO.out]
              case measure => simp; omega
          · have hnx : ∀ ty, (Instr.next (.pointer (some ⟨w.heap.size, 0, none⟩)) true ty).run Tryz.prog (w.iter s pos) = _ := fun ty => run_next_any w s pos ty hp
            have hdh := decode_high s pos hp (by omega)
            have HS := hide (fun W => seen_any (Utf8.decode s pos).1 false (by simp; omega) W)
            have HE := hide (keyE_bad hp (by unfold okByte; simp; omega))
            clear hdh
            go_wp2_with (go_at_call 248; refine (HS.out _).mono ?_; rintro e w' ⟨rfl, rfl⟩)
            go_ret
            exact ⟨ret_int HE.out.symm, (Below.refl _ _).alloc (Nat.le_refl _) _⟩
        · have hnx : ∀ ty, (Instr.next (.pointer (some ⟨w.heap.size, 0, none⟩)) true ty).run Tryz.prog (w.iter s pos) = _ := fun ty => run_next_end w s pos ty hp
          go_wp2
          go_ret
          refine ⟨ret_int (Eq.symm ?_), (Below.refl _ _).alloc (Nat.le_refl _) _⟩
          have hall := HA.out
          rw [List.take_of_length_le (by simp; omega)] at hall
          unfold keyE goodKey
          rw [hall, if_pos]
          simp
          omega
end Go.Proofs.YtnanlaefehaifaaGreat
namespace Go.Proofs.YtnanlaefehaifaaGreat
open Go.RowKit
theorem run_string_of {P : Program} {w : World} {B : Nat} {A : Option Addr} {n c : Nat} {bs : List UInt8} (h : Reads w B 1 A n (bs.map byteV)) (src e dst : TypeId) (hs : P.underlying src = some (.slice e)) (he : P.underlying e = some (.int .u8)) (hd : P.underlying dst = some .string) :
    (convert src dst (.slice A n c)).run P w = .ok (.string ⟨bs.toArray⟩) w := by
  have hl : bs.length = n := by have := h.1; simpa using this
  rcases Nat.eq_zero_or_pos n with h0 | h0
  · subst h0
    obtain rfl : bs = [] := List.eq_nil_of_length_eq_zero hl
    cases A with
    | none => exact run_convert_bytes_nil w src e hs he 0 c dst hd
    | some ad =>
      rw [run_convert_bytes_string w src dst e _ 0 c hs he hd, run_bytesToString w ad 0 c [] (by simp [loadCells, loadCellsFrom])]
      rfl
  · obtain ⟨ad, rfl, _, hc⟩ := h.2 h0
    have hload : (loadCells ad n).run P w = .ok ((bs.map fun b => ((b.toNat : Nat) : Int)).map (Value.int .u8)).toArray w := by
      have := run_loadCells_list (P := P) w ad (bs.map byteV) (fun j v hj => hc j v hj)
      simp only [List.length_map, hl] at this
      rw [this]
      simp [byteV, Function.comp_def]
    rw [run_convert_bytes_string w src dst e _ n c hs he hd, run_bytesToString w ad n c _ hload, foldl_push_bytes]
    congr 2
    simp [ByteArray.empty, ByteArray.emptyWithCapacity, Function.comp_def]
    rfl
theorem Same_any (A A' : Option Addr) (n c n' c' : Nat) (bs cs : List UInt8) (B : Nat) (w : World) (h : Reads w B 1 A n (bs.map byteV)) (h' : Reads w B 1 A' n' (cs.map byteV)) :
    Calls Tryz.prog 69 #[.slice A n c, .slice A' n' c'] w fun e w' => e = .returned (.bool (bs == cs)) ∧ w' = w := by
  have r1 := run_string_of (c := c) h 33 5 9 Tryz.underlying33 Tryz.underlying5 Tryz.underlying9
  have r2 := run_string_of (c := c') h' 33 5 9 Tryz.underlying33 Tryz.underlying5 Tryz.underlying9
  go_enter Tryz.func69, Tryz.ntmps69
  go_wp2
  go_ret
  exact ⟨rfl, rfl⟩
theorem rSame_any (a b : CellD) (av bv : Value) (B : Nat) (w : World) (hB : B ≤ w.heap.size) (ha : BytesAt w B av a.data) (hb : BytesAt w B bv b.data) :
    Calls Tryz.prog 253 #[.agg #[.int .i64 a.kind, av, .int .i64 a.lo, .int .i64 a.hi, .int .i64 a.val], .agg #[.int .i64 b.kind, bv, .int .i64 b.lo, .int .i64 b.hi, .int .i64 b.val]] w fun e w' =>
      e = .returned (.bool (cellEq a b)) ∧ Below w.heap.size w w' := by
  obtain ⟨A, n, c, rfl, _, _, hl1, _, hr1⟩ := ha
  obtain ⟨A', n', c', rfl, _, _, hl2, _, hr2⟩ := hb
  clear hl1 hl2
  have hs := fun o1 o2 => Same_any A A' n c n' c' a.data b.data B ((w.alloc o1).alloc o2) ((hr1.alloc hB o1).alloc (by simp; omega) o2) ((hr2.alloc hB o1).alloc (by simp; omega) o2)
  have hb2 := fun o1 o2 => below2 w o1 o2
  have HS := hide hs
  clear hs
  unfold cellEq
  generalize (a.data == b.data) = ds at *
  cases h1 : (a.kind == b.kind)
  · go_enter Tryz.func253, Tryz.ntmps253
    go_wp2
    go_ret
    exact ⟨by simp, hb2 _ _⟩
  · cases ds
    · go_enter Tryz.func253, Tryz.ntmps253
      go_wp2_with (go_at_call 69; refine (HS.out _ _).mono ?_; rintro e w' ⟨rfl, rfl⟩)
      go_ret
      exact ⟨by simp, hb2 _ _⟩
    · cases h3 : (a.lo == b.lo)
      · go_enter Tryz.func253, Tryz.ntmps253
        go_wp2_with (go_at_call 69; refine (HS.out _ _).mono ?_; rintro e w' ⟨rfl, rfl⟩)
        go_ret
        exact ⟨by simp, hb2 _ _⟩
      · cases h4 : (a.hi == b.hi)
        · go_enter Tryz.func253, Tryz.ntmps253
          go_wp2_with (go_at_call 69; refine (HS.out _ _).mono ?_; rintro e w' ⟨rfl, rfl⟩)
          go_ret
          exact ⟨by simp, hb2 _ _⟩
        · go_enter Tryz.func253, Tryz.ntmps253
          go_wp2_with (go_at_call 69; refine (HS.out _ _).mono ?_; rintro e w' ⟨rfl, rfl⟩)
          go_ret
          exact ⟨by simp, hb2 _ _⟩
end Go.Proofs.YtnanlaefehaifaaGreat
namespace Go.Proofs.YtnanlaefehaifaaGreat
open Go.RowKit
theorem bytesEqual_any (A A' : Option Addr) (n c n' c' : Nat) (bs cs : List UInt8) (B : Nat) (w : World) (h : Reads w B 1 A n (bs.map byteV)) (h' : Reads w B 1 A' n' (cs.map byteV)) :
    Calls Tryz.prog 170 #[.slice A n c, .slice A' n' c'] w fun e w' => e = .returned (.bool (bs == cs)) ∧ w' = w := by
  have r1 := run_string_of (c := c) h 33 5 9 Tryz.underlying33 Tryz.underlying5 Tryz.underlying9
  have r2 := run_string_of (c := c') h' 33 5 9 Tryz.underlying33 Tryz.underlying5 Tryz.underlying9
  go_enter Tryz.func170, Tryz.ntmps170
  go_wp2
  go_ret
  exact ⟨rfl, rfl⟩
theorem cSame_any (a b : CellD) (av bv : Value) (B : Nat) (w : World) (hB : B ≤ w.heap.size) (ha : BytesAt w B av a.data) (hb : BytesAt w B bv b.data) :
    Calls Tryz.prog 249 #[.agg #[.int .i64 a.kind, av, .int .i64 a.lo, .int .i64 a.hi, .int .i64 a.val], .agg #[.int .i64 b.kind, bv, .int .i64 b.lo, .int .i64 b.hi, .int .i64 b.val]] w fun e w' =>
      e = .returned (.bool (cellEq a b)) ∧ Below w.heap.size w w' := by
  obtain ⟨A, n, c, rfl, _, _, hl1, _, hr1⟩ := ha
  obtain ⟨A', n', c', rfl, _, _, hl2, _, hr2⟩ := hb
  clear hl1 hl2
  have hs := fun o1 o2 => bytesEqual_any A A' n c n' c' a.data b.data B ((w.alloc o1).alloc o2) ((hr1.alloc hB o1).alloc (by simp; omega) o2) ((hr2.alloc hB o1).alloc (by simp; omega) o2)
  have hb2 := fun o1 o2 => below2 w o1 o2
  have HS := hide hs
  clear hs
  unfold cellEq
  generalize (a.data == b.data) = ds at *
  cases h1 : (a.kind == b.kind)
  · go_enter Tryz.func249, Tryz.ntmps249
    go_wp2
    go_ret
    exact ⟨by simp, hb2 _ _⟩
  · cases ds
    · go_enter Tryz.func249, Tryz.ntmps249
      go_wp2_with (go_at_call 170; refine (HS.out _ _).mono ?_; rintro e w' ⟨rfl, rfl⟩)
      go_ret
      exact ⟨by simp, hb2 _ _⟩
    · cases h3 : (a.lo == b.lo)
      · go_enter Tryz.func249, Tryz.ntmps249
        go_wp2_with (go_at_call 170; refine (HS.out _ _).mono ?_; rintro e w' ⟨rfl, rfl⟩)
        go_ret
        exact ⟨by simp, hb2 _ _⟩
      · cases h4 : (a.hi == b.hi)
        · go_enter Tryz.func249, Tryz.ntmps249
          go_wp2_with (go_at_call 170; refine (HS.out _ _).mono ?_; rintro e w' ⟨rfl, rfl⟩)
          go_ret
          exact ⟨by simp, hb2 _ _⟩
        · go_enter Tryz.func249, Tryz.ntmps249
          go_wp2_with (go_at_call 170; refine (HS.out _ _).mono ?_; rintro e w' ⟨rfl, rfl⟩)
          go_ret
          exact ⟨by simp, hb2 _ _⟩
end Go.Proofs.YtnanlaefehaifaaGreat
namespace Go.Proofs.YtnanlaefehaifaaGreat
open Go.RowKit
def cellE (d : CellD) : Int := if rightC d = true then 0 else 1
theorem cellCheck_any (d : CellD) (A : Option Addr) (n c : Nat) (w : World) (hn : n = d.data.length) :
    Calls Tryz.prog 240 #[.agg #[.int .i64 d.kind, .slice A n c, .int .i64 d.lo, .int .i64 d.hi, .int .i64 d.val]] w fun e w' => e = .returned (.int .i64 (cellE d)) ∧ Below w.heap.size w w' := by
  have HN := hide hn
  clear hn
  go_enter Tryz.func240, Tryz.ntmps240
  go_wp2
  all_goals
    go_ret
    refine ⟨ret_int ?_, (Below.refl _ _).alloc (Nat.le_refl _) _⟩
    have hn := HN.out
    clear HN
    unfold cellE rightC
    simp_all <;> omega
structure AddS (W0 : World) (bo bc : Nat) (t : TypeId) (cs : Array Value) (bs : List UInt8) (W : World) : Prop where
  hb : W0.heap.size ≤ bo
  he : bo ≠ bc
  hd : bc < bo
  ht : t ≠ 5
  kO : ∃ v, Blk W bo 33 #[v] ∧ OwnB W W0.heap.size v bs
  kC : Blk W bc t cs
  bw : Below W0.heap.size W0 W
theorem AddS.via {W0 W W' : World} {bo bc : Nat} {t : TypeId} {cs : Array Value} {bs : List UInt8} (h : AddS W0 bo bc t cs bs W) (hb : Below W.heap.size W W') : AddS W0 bo bc t cs bs W' := by
  obtain ⟨v, k, o⟩ := h.kO
  exact ⟨h.hb, h.he, h.hd, h.ht, ⟨v, Blk.via hb k, o.via hb⟩, Blk.via hb h.kC, below_via h.bw hb h.bw.size⟩
theorem AddS.row5 {W0 W : World} {bo bc : Nat} {t : TypeId} {a b c d e : Value} {bs : List UInt8} (h : AddS W0 bo bc t #[a, b, c, d, e] bs W) : W.cell? ⟨bc, 0, none⟩ = some a ∧ W.cell? ⟨bc, 1, none⟩ = some b ∧ W.cell? ⟨bc, 2, none⟩ = some c ∧ W.cell? ⟨bc, 3, none⟩ = some d ∧ W.cell? ⟨bc, 4, none⟩ = some e :=
  ⟨h.kC.cell 0, h.kC.cell 1, h.kC.cell 2, h.kC.cell 3, h.kC.cell 4⟩
def AddP (W0 : World) (bo bc : Nat) (t : TypeId) (cs : Array Value) (bs : List UInt8) (e : Ending) (w' : World) : Prop := (∃ v, e = .returned v) ∧ AddS W0 bo bc t cs bs w'
theorem cellAdd (W0 : World) (bo bc : Nat) (t : TypeId) (cs : Array Value) (bs : List UInt8) (width : Nat) (n : Int) (w : World) (hw1 : 1 ≤ width) (hw8 : width ≤ 8) (hS : AddS W0 bo bc t cs bs w) (hl : bs.length ≤ 10000000) :
    Calls Tryz.prog 250 #[.int .i64 (width : Nat), .int .i64 n, .pointer (some ⟨bo, 0, none⟩)] w (AddP W0 bo bc t cs (bs ++ beB width n)) := by
  obtain ⟨v, k0, o0⟩ := hS.kO
  have kC := hS.kC
  have hbw := hS.bw
  have hB0 := hS.hb
  have hne := hS.he
  have hlt := hS.hd
  have HTn := hide hS.ht
  have hz0 := hbw.size
  obtain ⟨A, c, rfl, junk⟩ := own_slice o0
  have HO := hide o0
  have HK := hide k0
  have HC := hide kC
  have HQ := hide (fun W (hW : Below w.heap.size w W) => (show W.cell? ⟨bo, 0, none⟩ = some (.slice A bs.length c) from (hW.cell (p := ⟨bo, 0, none⟩) k0.lt).trans (k0.cell 0)))
  have HP := hide (fun W => put_gives width n W hw1 hw8)
  obtain ⟨i0, hi, hz0', hz1, hz2⟩ := info_parts info_u8R
  have jb := (Below.refl w.heap.size w).drew
  clear hS o0 k0 kC junk
  go_enter Tryz.func250, Tryz.ntmps250
  have e1 := HQ.out _ jb
  go_region_law (first
    | (go_simp; go_at_call 113; (with_reducible refine (HP.out _).mono ?_); rintro e w3 ⟨A3, c3, rfl, hn3, ho3, hr3, hb3⟩; clear hn3; have jb3 := below_via jb hb3 jb.size; have e3 := HQ.out _ jb3; have own3 := HO.out.via jb3; have k3 := Blk.via jb3 HK.out; have kc3 := Blk.via jb3 HC.out; have bw3 := below_via hbw jb3 hbw.size; have jz3 := bw3.size; have HR3 := hide hr3; clear hr3 ho3)
    | (refine step_append_any _ (by rfl) (.tmp 5) (.tmp 8) _ (by rfl) W0.heap.size 5 i0 _ 1 1 Tryz.underlying33 hi hz0' hz1 hz2 rfl (by omega) (.slice A bs.length c) bs.length _ (by rfl) own3 _ A3 width c3 _ (by rfl) HR3.out (bytes_one _) (by unfold maxLen; omega) (by omega) (by omega) ?_; intro v4 w4 hown4 hg4 _; obtain ⟨A4, d4, hv4, _⟩ := own_slice hown4; subst hv4; have k4 := k3.keepB own3 (by decide) hg4; have kc4 := kc3.keepB own3 HTn.out hg4; have f4 := k4.frozen 0; have l4 := k4.lt; have e4 := k4.cell 0; have bw4 := bw3.grown hg4 (by omega) (fun q hq => (own3.lt q hq).1)))
  all_goals go_wp2_with fail
  all_goals
    go_end0
    have ho4 : OwnB w4 W0.heap.size (.slice A4 (bs.length + width) d4) (bs ++ beB width n) := by
      unfold OwnB
      rw [List.length_append, beB_length, List.map_append]
      exact hown4
    exact ⟨⟨_, rfl⟩, hB0, hne, hlt, HTn.out, ⟨_, k4.set_ 0 _, ho4.far k4 (by decide) _⟩, kc4.far (p := ⟨bo, 0, none⟩) hne.symm _, bw4.setCell (p := ⟨bo, 0, none⟩) hB0 _⟩
theorem nameW {w : World} {R : World → Prop} (h : ∀ W, W = w → R W) : R w := h w rfl
def cellB (d : CellD) : List UInt8 := if rightC d = true then (if d.kind = 1 then beB 1 d.kind ++ beB 1 (d.data.length : Nat) ++ d.data else beB 1 d.kind ++ beB 8 d.lo ++ beB 8 d.hi ++ beB 8 d.val) else []
theorem cellPut_any (d : CellD) (A : Option Addr) (n c : Nat) (B : Nat) (w : World) (hB : B ≤ w.heap.size) (hn : n = d.data.length) (hr : Reads w B 1 A n (d.data.map byteV)) :
    Calls Tryz.prog 227 #[.slice none 0 0, .agg #[.int .i64 d.kind, .slice A n c, .int .i64 d.lo, .int .i64 d.hi, .int .i64 d.val]] w (GivesB w (cellB d).length (cellB d)) := by
  have HC := hide (fun W => cellCheck_any d A n c W hn)
  have HR := hide hr
  have HN := hide hn
  obtain ⟨i0, hi, hz0, hz1, hz2⟩ := info_parts info_u8R
  obtain ⟨X, hX⟩ := make_room Tryz.prog 34 (by omega) Tryz.underlying33 info_u8R
  have hmk : ∀ W : World, (Instr.makeSlice 33 (.int .i64 0) (.int .i64 34)).run Tryz.prog W = .ok (.slice (some ⟨W.heap.size, 0, none⟩) 0 34) (W.alloc (.cells X 5)) := fun W => (hX W).1
  have HX := hide (fun W => (hX W).2)
  clear hr hn hX
  go_enter Tryz.func227, Tryz.ntmps227
  go_wp2_with (first
    | (refine (HC.out _).mono ?_; rintro e w2 ⟨rfl, hb2⟩)
    | (at_builtin; refine heldG ?_))
  have kc1 := (Blk.new w 35 #[.int .i64 d.kind, .slice A n c, .int .i64 d.lo, .int .i64 d.hi, .int .i64 d.val]).alloc (.cells X 5)
  have o1 : OwnB ((w.alloc (.cells #[.int .i64 d.kind, .slice A n c, .int .i64 d.lo, .int .i64 d.hi, .int .i64 d.val] 35)).alloc (.cells X 5)) w.heap.size (.slice (some ⟨w.heap.size + 1, 0, none⟩) 0 34) [] := by
    have h := (HX.out (w.alloc (.cells #[.int .i64 d.kind, .slice A n c, .int .i64 d.lo, .int .i64 d.hi, .int .i64 d.val] 35))).low (base' := w.heap.size) (by simp)
    rwa [show (w.alloc (.cells #[.int .i64 d.kind, .slice A n c, .int .i64 d.lo, .int .i64 d.hi, .int .i64 d.val] 35)).heap.size = w.heap.size + 1 by simp] at h
  refine unheldG ?_
  at_builtin
  refine wpList_append_any _ rfl _ _ _ rfl w.heap.size 5 i0 _ 1 1 Tryz.underlying33 hi hz0 hz1 hz2 rfl (by omega) _ 0 _ rfl o1 0 none 0 0 [] rfl Reads.none_ (fun _ h => absurd h (by simp)) (by unfold maxLen; omega) (by omega) (by simp; omega) ?_
  intro v4 w4 ho4 hg4 _
  have kc4 := kc1.keepB o1 (by decide) hg4
  have hb1 : Below w.heap.size w ((w.alloc (.cells #[.int .i64 d.kind, .slice A n c, .int .i64 d.lo, .int .i64 d.hi, .int .i64 d.val] 35)).alloc (.cells X 5)) := below2 w _ _
  have hb4 : Below w.heap.size w w4 := hb1.grown hg4 (by simp; omega) (fun q hq => (o1.lt q hq).1)
  have ho4 : OwnB w4 w.heap.size v4 [] := ho4
  obtain ⟨A4, c4, rfl, junk⟩ := own_slice ho4
  have KC4 := hide kc4
  have HO4 := hide ho4
  have hz4 := kc4.lt
  clear junk kc4 ho4 hg4 o1 kc1 hb1
  go_upto_region 2 with (fail)
  refine gen1 (R := fun W => Code.wp _ _ _ _ W) (fun W5 k5 hb5 hz5 => ?_)
  have hS5 : AddS w w4.heap.size w.heap.size 35 #[.int .i64 d.kind, .slice A n c, .int .i64 d.lo, .int .i64 d.hi, .int .i64 d.val] [] W5 :=
    ⟨hb4.size, by omega, by omega, by decide, ⟨_, k5, HO4.out.via hb5⟩, Blk.via hb5 KC4.out, below_via hb4 hb5 hb4.size⟩
  clear hb4
  obtain ⟨q0, q1, q2, q3, q4⟩ := hS5.row5
  have HS5 := hide hS5
  have HA1 := hide (fun (bs : List UInt8) (x : Int) (W : World) (hS : AddS w w4.heap.size w.heap.size 35 #[.int .i64 d.kind, .slice A n c, .int .i64 d.lo, .int .i64 d.hi, .int .i64 d.val] bs W) (hl : bs.length ≤ 10000000) => (show Calls Tryz.prog 250 #[.int .i64 1, .int .i64 x, .pointer (some ⟨w4.heap.size, 0, none⟩)] W (AddP w w4.heap.size w.heap.size 35 #[.int .i64 d.kind, .slice A n c, .int .i64 d.lo, .int .i64 d.hi, .int .i64 d.val] (bs ++ beB 1 x)) from cellAdd w w4.heap.size w.heap.size _ _ bs 1 x W (by omega) (by omega) hS hl))
  have HA8 := hide (fun (bs : List UInt8) (x : Int) (W : World) (hS : AddS w w4.heap.size w.heap.size 35 #[.int .i64 d.kind, .slice A n c, .int .i64 d.lo, .int .i64 d.hi, .int .i64 d.val] bs W) (hl : bs.length ≤ 10000000) => (show Calls Tryz.prog 250 #[.int .i64 8, .int .i64 x, .pointer (some ⟨w4.heap.size, 0, none⟩)] W (AddP w w4.heap.size w.heap.size 35 #[.int .i64 d.kind, .slice A n c, .int .i64 d.lo, .int .i64 d.hi, .int .i64 d.val] (bs ++ beB 8 x)) from cellAdd w w4.heap.size w.heap.size _ _ bs 8 x W (by omega) (by omega) hS hl))
  clear hS5 k5 hb5
  cases hc : rightC d
  · have HE := hide (show cellE d = 1 by unfold cellE; rw [hc]; rfl)
    have HB := hide (show cellB d = [] by unfold cellB; rw [hc]; rfl)
    clear hc
    go_wp2_with fail
    refine (HC.out _).mono ?_
    rintro e w6 ⟨rfl, hb6⟩
    have hS6 := HS5.out.via hb6
    obtain ⟨v6, k6, o6⟩ := hS6.kO
    obtain ⟨A6, c6, rfl, junk⟩ := own_slice o6
    clear junk
    have e6 := k6.cell 0
    have HO6 := hide (show OwnB w6 w.heap.size (.slice A6 0 c6) [] from o6)
    have hbw6 := hS6.bw
    simp only [List.length_nil] at e6
    rw [HE.out]
    clear hS6 k6 o6
    go_wp2
    go_ret
    rw [HB.out]
    exact ⟨A6, c6, rfl, rfl, HO6.out, HO6.out.reads.2, hbw6⟩
  · have HE := hide (show cellE d = 0 by unfold cellE; rw [hc]; rfl)
    have hkd := rightC_kind hc
    have hlen : d.data.length ≤ 32 := by
      rcases hkd with h | h
      · exact h.2
      · rw [h.2]; exact Nat.zero_le _
    cases hk : decide (d.kind = 1)
    · have hk1 : ¬ d.kind = 1 := by simpa using hk
      have HB := hide (show cellB d = beB 1 d.kind ++ beB 8 d.lo ++ beB 8 d.hi ++ beB 8 d.val by unfold cellB; rw [hc, if_pos rfl, if_neg hk1])
      clear hc hk hkd
      go_wp2_with fail
      refine (HC.out _).mono ?_
      rintro e w6 ⟨rfl, hb6⟩
      have HS6 := hide (HS5.out.via hb6)
      obtain ⟨q0, q1, q2, q3, q4⟩ := HS6.out.row5
      rw [HE.out]
      go_wp2_with fail
      refine (HA1.out _ _ _ HS6.out (by simp)).mono ?_
      rintro e w7 ⟨⟨v7, rfl⟩, hS7⟩
      have HS7 := hide hS7
      clear q0 q1 q2 q3 q4
      obtain ⟨q0, q1, q2, q3, q4⟩ := hS7.row5
      clear hS7
      go_wp2_with fail
      refine (HA8.out _ _ _ HS7.out (by simp [beB_length])).mono ?_
      rintro e w8 ⟨⟨v8, rfl⟩, hS8⟩
      have HS8 := hide hS8
      clear q0 q1 q2 q3 q4
      obtain ⟨q0, q1, q2, q3, q4⟩ := hS8.row5
      clear hS8
      go_wp2_with fail
      refine (HA8.out _ _ _ HS8.out (by simp [beB_length])).mono ?_
      rintro e w9 ⟨⟨v9, rfl⟩, hS9⟩
      have HS9 := hide hS9
      clear q0 q1 q2 q3 q4
      obtain ⟨q0, q1, q2, q3, q4⟩ := hS9.row5
      clear hS9
      go_wp2_with fail
      refine (HA8.out _ _ _ HS9.out (by simp [beB_length])).mono ?_
      rintro e w10 ⟨⟨v10, rfl⟩, hS10⟩
      obtain ⟨v, k10, o10⟩ := hS10.kO
      obtain ⟨A10, c10, rfl, junk⟩ := own_slice o10
      have e10 := k10.cell 0
      have hbw10 := hS10.bw
      have HO10 := hide o10
      clear junk o10 k10 hS10
      go_wp2
      go_ret
      rw [HB.out]
      refine ⟨A10, c10, by simp, rfl, HO10.out, HO10.out.reads.2, hbw10⟩
    · obtain hk1 : d.kind = 1 := by simpa using hk
      have HB := hide (show cellB d = beB 1 d.kind ++ beB 1 (d.data.length : Nat) ++ d.data by unfold cellB; rw [hc, if_pos rfl, if_pos hk1])
      have hkb : (d.kind == 1) = true := by rw [hk1]; rfl
      clear hc hk hkd hk1
      go_wp2_with fail
      refine (HC.out _).mono ?_
      rintro e w6 ⟨rfl, hb6⟩
      have HS6 := hide (HS5.out.via hb6)
      obtain ⟨q0, q1, q2, q3, q4⟩ := HS6.out.row5
      rw [HE.out]
      go_wp2_with fail
      refine (HA1.out _ _ _ HS6.out (by simp)).mono ?_
      rintro e w7 ⟨⟨v7, rfl⟩, hS7⟩
      have HS7 := hide hS7
      clear q0 q1 q2 q3 q4
      obtain ⟨q0, q1, q2, q3, q4⟩ := hS7.row5
      clear hS7
      go_wp2_with fail
      refine (HA1.out _ _ _ HS7.out (by simp [beB_length])).mono ?_
      rintro e w8 ⟨⟨v8, rfl⟩, hS8⟩
      have HS8 := hide hS8
      clear q0 q1 q2 q3 q4
      obtain ⟨q0, q1, q2, q3, q4⟩ := hS8.row5
      clear hS8
      obtain ⟨v, k8, o8⟩ := HS8.out.kO
      obtain ⟨A8, c8, rfl, junk⟩ := own_slice o8
      have e8 := k8.cell 0
      have hbw8 := HS8.out.bw
      have HO8 := hide o8
      clear junk o8 k8
      go_wp2_with (at_builtin; refine heldG ?_)
      have hr8 := HR.out.below hbw8 hB
      have hz8 := hbw8.size
      have hl8 : (beB 1 d.kind ++ beB 1 (n : Nat)).length = 2 := by simp [beB_length]
      have HO8' := hide (show OwnB w8 w.heap.size (.slice A8 2 c8) (beB 1 d.kind ++ beB 1 (n : Nat)) by have h := HO8.out; simp only [List.nil_append] at h; rw [hl8] at h; exact h)
      have hnn := HN.out
      refine unheldG ?_
      at_builtin
      refine wpList_append_any _ rfl _ _ _ rfl w.heap.size 5 i0 _ 1 1 Tryz.underlying33 hi hz0 hz1 hz2 rfl (by omega) _ 2 _ rfl HO8'.out B _ n c _ rfl hr8 (bytes_one _) (by unfold maxLen; omega) (by omega) (by omega) ?_
      intro v9 w9 ho9 hg9 _
      have hbw9 : Below w.heap.size w w9 := hbw8.grown hg9 hz8 (fun q hq => (HO8'.out.lt q hq).1)
      have hl9 : (beB 1 d.kind ++ beB 1 (n : Nat) ++ d.data).length = 2 + n := by rw [List.length_append, hl8, hnn]
      have ho9 : OwnB w9 w.heap.size v9 (beB 1 d.kind ++ beB 1 (n : Nat) ++ d.data) := by
        unfold OwnB
        rw [hl9, List.map_append]
        exact ho9
      obtain ⟨A9, c9, rfl, junk⟩ := own_slice ho9
      rw [hl9] at ho9 ⊢
      have HO9 := hide ho9
      have HL9 := hide hl9
      clear junk ho9 hg9 hr8 hl8 hl9 hnn
      go_wp2
      go_ret
      have hl9 := HL9.out
      rw [HN.out] at hl9
      rw [HB.out]
      refine ⟨A9, c9, by rw [← HN.out, HL9.out]; rfl, rfl, ?_, ?_, hbw9⟩
      · rw [← HN.out, HL9.out]; exact HO9.out
      · rw [← HN.out, HL9.out]; exact HO9.out.reads.2
end Go.Proofs.YtnanlaefehaifaaGreat
namespace Go.Proofs.YtnanlaefehaifaaGreat
open Go.RowKit
def SliceAt (w : World) (B size : Nat) (v : Value) (n : Nat) (xs : List Value) : Prop := ∃ (A : Option Addr) (c : Nat), v = .slice A n c ∧ n ≤ c ∧ c ≤ maxLen ∧ (A = none → c = 0) ∧ Reads w B size A n xs
end Go.Proofs.YtnanlaefehaifaaGreat
namespace Go.Proofs.YtnanlaefehaifaaGreat
open Go.RowKit
def OwnRow (w : World) (t : TypeId) (size n : Nat) (xs : List Value) (e : Ending) (w' : World) : Prop := ∃ A2 c2, e = .returned (.slice A2 n c2) ∧ w'.ownsRow w.heap.size t size (.slice A2 n c2) n xs ∧ Below w.heap.size w w'
theorem info_intR : (Tryz.prog.info? 3).map (fun i => (i.zero, i.size, i.bytes)) = some (some (.int .i64 0), 1, 8) := by kernel_rfl
theorem cloneB_any (A : Option Addr) (n c : Nat) (xs : List Value) (B : Nat) (w : World) (hB : B ≤ w.heap.size) (hn : n ≤ 10000000) (h : Reads w B 1 A n xs) (hc : A = none → c = 0) (h1 : ∀ u ∈ xs, u.oneCell' = true) :
    Calls Tryz.prog 108 #[.slice A n c] w (OwnRow w 5 1 n xs) := by
  obtain ⟨i0, hi, hz0, hz1, hz2⟩ := info_parts info_u8R
  cases A with
  | none =>
    obtain rfl : c = 0 := hc rfl
    obtain rfl : n = 0 := by
      rcases Nat.eq_zero_or_pos n with h0 | h0
      · exact h0
      · obtain ⟨ad, ha, _⟩ := h.2 h0
        cases ha
    have HE := hide (show xs = [] from List.eq_nil_of_length_eq_zero (by rw [h.1, Nat.zero_mul]))
    clear h hc hi hz0 hz1 hz2 h1
    have hq := fun w : World => Lib.run_eql_slice_nil (P := Tryz.prog) w 33 5 none 0 0 0 0 Tryz.underlying33
    go_enter Tryz.func108, Tryz.ntmps108
    go_wp2
    go_ret
    refine ⟨none, 0, rfl, ?_, Below.refl _ _⟩
    rw [HE.out]
    exact World.ownsRow_nil _ _ _ _
  | some ad =>
    have HR := hide h
    have HO := hide h1
    clear h hc h1
    have hq := fun w : World => Lib.run_eql_slice_nil (P := Tryz.prog) w 33 5 (some ad) n c 0 0 Tryz.underlying33
    go_enter Tryz.func108, Tryz.ntmps108
    go_wp2_with (at_builtin; refine heldG ?_)
    refine unheldG ?_
    at_builtin
    refine wpList_append_any _ rfl _ _ _ rfl w.heap.size 5 i0 _ 1 1 Tryz.underlying33 hi hz0 hz1 hz2 rfl (by omega) _ 0 [] rfl (World.ownsRow_made w #[] 0 (Nat.le_refl _) (Nat.zero_le _) rfl) B (some ad) n c xs rfl (HR.out.alloc hB _) HO.out (by unfold maxLen; omega) (by omega) (by simp) ?_
    intro v' w1 hown hg _
    have hb1 : Below w.heap.size w w1 := ((Below.refl _ _).alloc (Nat.le_refl _) _).grown hg (by simp) (fun k hk => by cases hk; exact Nat.le_refl _)
    simp only [Nat.zero_add, List.nil_append] at hown
    obtain ⟨A2, c2, rfl, _⟩ := own_slice hown
    have HO := hide hown
    clear hown hg
    go_wp2
    go_ret
    exact ⟨A2, c2, rfl, HO.out, hb1⟩
theorem cloneI_any (A : Option Addr) (n c : Nat) (xs : List Value) (B : Nat) (w : World) (hB : B ≤ w.heap.size) (hn : n ≤ 10000000) (h : Reads w B 1 A n xs) (hc : A = none → c = 0) (h1 : ∀ u ∈ xs, u.oneCell' = true) :
    Calls Tryz.prog 124 #[.slice A n c] w (OwnRow w 3 1 n xs) := by
  obtain ⟨i0, hi, hz0, hz1, hz2⟩ := info_parts info_intR
  cases A with
  | none =>
    obtain rfl : c = 0 := hc rfl
    obtain rfl : n = 0 := by
      rcases Nat.eq_zero_or_pos n with h0 | h0
      · exact h0
      · obtain ⟨ad, ha, _⟩ := h.2 h0
        cases ha
    have HE := hide (show xs = [] from List.eq_nil_of_length_eq_zero (by rw [h.1, Nat.zero_mul]))
    clear h hc hi hz0 hz1 hz2 h1
    have hq := fun w : World => Lib.run_eql_slice_nil (P := Tryz.prog) w 30 3 none 0 0 0 0 Tryz.underlying30
    go_enter Tryz.func124, Tryz.ntmps124
    go_wp2
    go_ret
    refine ⟨none, 0, rfl, ?_, Below.refl _ _⟩
    rw [HE.out]
    exact World.ownsRow_nil _ _ _ _
  | some ad =>
    have HR := hide h
    have HO := hide h1
    clear h hc h1
    have hq := fun w : World => Lib.run_eql_slice_nil (P := Tryz.prog) w 30 3 (some ad) n c 0 0 Tryz.underlying30
    go_enter Tryz.func124, Tryz.ntmps124
    go_wp2_with (at_builtin; refine heldG ?_)
    refine unheldG ?_
    at_builtin
    refine wpList_append_any _ rfl _ _ _ rfl w.heap.size 3 i0 _ 1 8 Tryz.underlying30 hi hz0 hz1 hz2 rfl (by omega) _ 0 [] rfl (World.ownsRow_made w #[] 0 (Nat.le_refl _) (Nat.zero_le _) rfl) B (some ad) n c xs rfl (HR.out.alloc hB _) HO.out (by unfold maxLen; omega) (by omega) (by simp) ?_
    intro v' w1 hown hg _
    have hb1 : Below w.heap.size w w1 := ((Below.refl _ _).alloc (Nat.le_refl _) _).grown hg (by simp) (fun k hk => by cases hk; exact Nat.le_refl _)
    simp only [Nat.zero_add, List.nil_append] at hown
    obtain ⟨A2, c2, rfl, _⟩ := own_slice hown
    have HO := hide hown
    clear hown hg
    go_wp2
    go_ret
    exact ⟨A2, c2, rfl, HO.out, hb1⟩
end Go.Proofs.YtnanlaefehaifaaGreat
namespace Go.Proofs.YtnanlaefehaifaaGreat
open Go.RowKit
def itemV (st : Int) (k : ByteArray) (d : CellD) (cv : Value) : Value := .agg #[.int .i64 st, .string k, .int .i64 d.kind, cv, .int .i64 d.lo, .int .i64 d.hi, .int .i64 d.val]
theorem bytes_none (w : World) (B : Nat) : BytesAt w B (.slice none 0 0) [] := ⟨none, 0, 0, rfl, Nat.le_refl _, Nat.zero_le _, rfl, fun _ => rfl, Reads.none_⟩
theorem slotSame_any (st st' : Int) (k k' : ByteArray) (a b : CellD) (av bv : Value) (B : Nat) (w : World) (hB : B ≤ w.heap.size) (ha : BytesAt w B av a.data) (hb : BytesAt w B bv b.data) :
    Calls Tryz.prog 223 #[itemV st k a av, itemV st' k' b bv] w fun e w' => e = .returned (.bool ((st == st') && (k.toList == k'.toList) && cellEq a b)) ∧ Below w.heap.size w w' := by
  have hb2 := fun o1 o2 => below2 w o1 o2
  have HS := hide (fun o1 o2 => cSame_any a b av bv B ((w.alloc o1).alloc o2) (by simp; omega) (ha.below (hb2 o1 o2) hB) (hb.below (hb2 o1 o2) hB))
  obtain ⟨A, n, c, rfl, junk⟩ := ha
  obtain ⟨A', n', c', rfl, junk'⟩ := hb
  clear junk junk'
  unfold itemV
  cases h1 : (st == st')
  · go_enter Tryz.func223, Tryz.ntmps223
    go_wp2
    go_ret
    exact ⟨by simp, hb2 _ _⟩
  · cases h2 : (k.toList == k'.toList)
    · go_enter Tryz.func223, Tryz.ntmps223
      go_wp2
      go_ret
      exact ⟨by simp, hb2 _ _⟩
    · go_enter Tryz.func223, Tryz.ntmps223
      go_wp2_with (refine (HS.out _ _).mono ?_; rintro e w' ⟨rfl, hb3⟩)
      go_ret
      exact ⟨by simp, below_via (hb2 _ _) hb3 (by simp; omega)⟩
def itemZ (st : Int) (k : ByteArray) (d : CellD) : Bool := (st == 0) && (k.toList == ByteArray.empty.toList) && cellEq d cell0
def rightI (st : Int) (k : ByteArray) (d : CellD) : Bool := if st = 0 then itemZ st k d else decide (st = 1 ∨ st = 2) && (goodKey k && rightC d)
def itemE (st : Int) (k : ByteArray) (d : CellD) : Int := if rightI st k d = true then 0 else 1
theorem slotCheck_any (st : Int) (k : ByteArray) (d : CellD) (dv : Value) (B : Nat) (w : World) (hk : k.size ≤ 1000000) (hB : B ≤ w.heap.size) (ha : BytesAt w B dv d.data) :
    Calls Tryz.prog 203 #[itemV st k d dv] w fun e w' => e = .returned (.int .i64 (itemE st k d)) ∧ Below w.heap.size w w' := by
  have hb1 := fun o => (Below.refl w.heap.size w).alloc (Nat.le_refl _) o
  have HS := hide (fun o => (show Calls Tryz.prog 223 #[itemV st k d dv, .agg #[.int .i64 0, .string ⟨#[]⟩, .int .i64 0, .slice none 0 0, .int .i64 0, .int .i64 0, .int .i64 0]] (w.alloc o) (fun e w' => e = .returned (.bool (itemZ st k d)) ∧ Below (w.alloc o).heap.size (w.alloc o) w') from slotSame_any st 0 k .empty d cell0 dv (.slice none 0 0) B (w.alloc o) (by simp; omega) (ha.below (hb1 o) hB) (bytes_none _ _)))
  have HK := hide (fun W => keyCheck_any k W (by omega))
  obtain ⟨A, n, c, rfl, _, _, hn, hn'⟩ := ha
  have HC := hide (fun W => cellCheck_any d A n c W hn)
  clear hn
  unfold itemV at *
  have HE0 := hide (show itemE st k d = if (if st = 0 then itemZ st k d else decide (st = 1 ∨ st = 2) && (goodKey k && rightC d)) = true then 0 else 1 from rfl)
  have HK1 := hide (show keyE k = if goodKey k = true then 0 else 1 from rfl)
  have HC1 := hide (show cellE d = if rightC d = true then 0 else 1 from rfl)
  generalize itemZ st k d = z at *
  generalize itemE st k d = ie at *
  generalize keyE k = ke at *
  generalize cellE d = ce at *
  generalize goodKey k = g at *
  generalize rightC d = r at *
  go_enter Tryz.func203, Tryz.ntmps203
  go_wp2_with (first
    | (refine (HS.out _).mono ?_; rintro e w' ⟨rfl, hb3⟩; have hb3' := below_via (hb1 _) hb3 (by simp); clear hb3)
    | (refine (HK.out _).mono ?_; rintro e w1 ⟨rfl, hb3⟩; have kb := Blk.via hb3 (Blk.new w 37 _); have q2 : w1.cell? ⟨w.heap.size, 2, none⟩ = some _ := kb.cell 2; have q3 : w1.cell? ⟨w.heap.size, 3, none⟩ = some _ := kb.cell 3; have q4 : w1.cell? ⟨w.heap.size, 4, none⟩ = some _ := kb.cell 4; have q5 : w1.cell? ⟨w.heap.size, 5, none⟩ = some _ := kb.cell 5; have q6 : w1.cell? ⟨w.heap.size, 6, none⟩ = some _ := kb.cell 6; have hb3' := below_via (hb1 _) hb3 (by simp); clear kb hb3)
    | (refine (HC.out _).mono ?_; rintro e w2 ⟨rfl, hb4⟩; have hb4' := below_via hb3' hb4 hb3'.size; clear hb4))
  all_goals
    go_ret
    refine ⟨ret_int ?_, by first | assumption | exact hb1 _⟩
    have h1 := HE0.out
    have h2 := HK1.out
    have h3 := HC1.out
    clear HE0 HK1 HC1 HS HK HC
    try clear q2 q3 q4 q5 q6
    rw [h1]
    clear h1 hb1
    subst h2 h3
    clear hn' hk
    cases z <;> cases g <;> cases r <;> simp_all <;> omega
end Go.Proofs.YtnanlaefehaifaaGreat
