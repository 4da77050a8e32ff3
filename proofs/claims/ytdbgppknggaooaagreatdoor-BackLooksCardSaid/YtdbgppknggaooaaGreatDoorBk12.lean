/-
  Texts of this claim, joined: KC, RT, RU, RY, LA, KD, KL, KM, YJ, YP, YR, YS, YK, YL.
-/
import Derived.ChangeKeysEq
import Derived.Laws.StructEq
import Derived.RecoverIn
import Derived.Defers
import Derived.Maps.RangeWalk
import Derived.Test.YtdbgppknggaooaaGreatDoorBk03
import Derived.Test.YtdbgppknggaooaaGreatDoorBk11
set_option maxHeartbeats 6400000
set_option maxRecDepth 100000
namespace Go.Proofs.YtdbgppknggaooaaGreatDoor
open Go.RowKit
def pgV (bs : List UInt8) : Value := .agg (bs.map byteV).toArray
theorem info_pg : (Tryz.prog.info? 100).map (·.size) = some 512 := by kernel_rfl
theorem pg_size (bs : List UInt8) (h : bs.length = 512) : ((bs.map byteV).toArray).size = 512 := by simp [h]
theorem pg_reads {W : World} {g : Nat} {t : TypeId} {bs : List UInt8} (k : Blk W g t (bs.map byteV).toArray) (hl : bs.length = 512) : Reads W (g + 1) 1 (some ⟨g, 0, none⟩) 512 (bs.map byteV) := by
  have h := Reads.of_blk (n := 512) (size := 1) k (by simp [hl])
  simpa using h
theorem pnum_any (bs : List UInt8) (hl : bs.length = 512) (at_ width : Nat) (w : World) (h1 : 1 ≤ width) (h8 : width ≤ 8) (hin : at_ + width ≤ 512) :
    Calls Tryz.prog 122 #[pgV bs, .int .i64 (at_ : Nat), .int .i64 (width : Nat)] w fun e w' => e = .returned (.int .i64 (numI (cutB bs at_ width))) ∧ Below w.heap.size w w' := by
  have HN := hide (fun W (k : Blk W w.heap.size 100 (bs.map byteV).toArray) => num_any (some ⟨w.heap.size, 0, none⟩) 512 512 bs at_ width _ W (by omega) (by omega) hl.symm (pg_reads k hl) h1 h8 hin)
  unfold pgV
  generalize hX : (bs.map byteV).toArray = X at *
  clear hX
  go_enter Tryz.func122, Tryz.ntmps122
  go_wp2_with (go_at_call 109; refine (HN.out _ (Blk.new _ _ _)).mono ?_; rintro e w' ⟨rfl, hw'⟩; obtain rfl := hw'.symm)
  go_ret
  exact ⟨rfl, (Below.refl _ _).alloc (Nat.le_refl _) _⟩
theorem pNo_any (bs : List UInt8) (hl : bs.length = 512) (w : World) : Calls Tryz.prog 88 #[pgV bs] w fun e w' => e = .returned (.int .i64 (numI (cutB bs 12 2))) ∧ Below w.heap.size w w' := by
  have HN := hide (fun W => pnum_any bs hl 12 2 W (by omega) (by omega) (by omega))
  have hsz := pg_size bs hl
  have HII := hide (show (Tryz.prog.info? 100).map (·.size) = some ((bs.map byteV).toArray).size by rw [hsz]; exact info_pg)
  unfold pgV at *
  generalize hX : (bs.map byteV).toArray = X at *
  clear hX hsz
  have HB := hide (Blk.new w 100 X)
  have hb1 : Below w.heap.size w (w.alloc (.cells X 100)) := (Below.refl _ _).alloc (Nat.le_refl _) _
  go_enter Tryz.func88, Tryz.ntmps88
  go_wp2_with (first
    | (refine wpList_load_row rfl 100 (.tmp 1) rfl w.heap.size rfl 100 X (0, 0) _ HB.out Tryz.underlying100 rfl HII.out ?_)
    | (go_at_call 122; refine (HN.out _).mono ?_; rintro e w2 ⟨rfl, hb2⟩))
  go_ret
  exact ⟨rfl, below_via hb1 hb2 hb1.size⟩
theorem psum_any (bs : List UInt8) (hl : bs.length = 512) (w : World) : Calls Tryz.prog 115 #[pgV bs] w fun e w' => e = .returned (.int .i64 ((moreD 0 (bs.drop 4) : Nat) : Int)) ∧ Below w.heap.size w w' := by
  have HS := hide (fun W (k : Blk W w.heap.size 100 (bs.map byteV).toArray) => sum_any (some ⟨w.heap.size, 4, none⟩) 508 508 (bs.drop 4) _ W (Nat.le_refl _) (by omega) (by simp [hl]) (by
    have h := ((pg_reads k hl).more k.lt).cut (k := 4) (cap := 512) (by omega) (Nat.le_refl _)
    rw [if_neg (by omega), Option.map_some, add_plain] at h
    simpa using h))
  have hlt : moreD 0 (bs.drop 4) < 4294967296 := by unfold moreD; omega
  unfold pgV
  generalize hX : (bs.map byteV).toArray = X at *
  generalize moreD 0 (bs.drop 4) = v at *
  clear hX
  have hb1 : Below w.heap.size w (w.alloc (.cells X 100)) := (Below.refl _ _).alloc (Nat.le_refl _) _
  go_enter Tryz.func115, Tryz.ntmps115
  go_wp2_with (go_at_call 174; refine (HS.out _ (Blk.new _ _ _)).mono ?_; rintro e w2 ⟨rfl, hb2⟩)
  go_ret
  exact ⟨rfl, below_via hb1 hb2 hb1.size⟩
theorem none_any (A : Option Addr) (n c : Nat) (bs : List UInt8) (B : Nat) (w : World) (hm : n ≤ 100000000) (hn : n = bs.length) (hr : Reads w B 1 A n (bs.map byteV)) :
    Calls Tryz.prog 123 #[.slice A n c] w fun e w' => e = .returned (.bool (bs.all (· == 0))) ∧ w' = w := by
  have HR := hide hr
  have HN := hide hn
  clear hr hn
  go_enter Tryz.func123, Tryz.ntmps123
  go_wp2
  go_loopw [7] (fun iv wr => wr = w ∧ ∃ k : Nat, k ≤ n ∧ iv = .int .i64 k ∧ Hid ((bs.take k).all (· == 0) = true)) (fun iv _ => n - (intOf iv).toNat)
  case atStart => exact ⟨rfl, 0, Nat.zero_le _, rfl, hide (by simp)⟩
  case round =>
    obtain ⟨rfl, k, hk, rfl, hT⟩ := hrel
    by_cases hlt : (k : Int) < n
    · obtain ⟨b, o, rfl, hbB, hcell⟩ := HR.out.plain (by omega) (by omega)
      have hkb : k < bs.length := by have := HN.out; omega
      obtain ⟨x, hx⟩ : ∃ x, bs[k]? = some x := ⟨_, List.getElem?_eq_getElem hkb⟩
      have hc : wr.cell? ⟨b, o + k, none⟩ = some (.int .u8 ((x.toNat : Nat) : Int)) := hcell k (byteV x) (by rw [List.getElem?_map, hx]; rfl)
      have u0 : (0 : Int) ≤ k := by omega
      have HX := hide hx
      have hxl := x.toNat_lt
      clear hcell hx
      cases h0 : (((x.toNat : Nat) : Int) != 0)
      · have HS := hide (show (bs.take (k + 1)).all (· == 0) = true by
          obtain ⟨l1, e1⟩ := List.getElem?_eq_some_iff.1 HX.out
          have h9 : x.toNat = 0 := by have := h0; simp at this; omega
          have hx0 : x = 0 := UInt8.toNat_inj.1 (by rw [h9]; rfl)
          rw [List.take_succ_eq_append_getElem l1, e1, List.all_append, hT.out, hx0]
          rfl)
        generalize x.toNat = y at *
        clear hkb
        go_wp2
        go_roundw
        case rel => exact ⟨by trivial, k + 1, by omega, by go_num, HS⟩
        case measure => simp [intOf]; omega
      · have HS := hide (show bs.all (· == 0) = false by
          rw [List.all_eq_false]
          refine ⟨x, List.mem_of_getElem? HX.out, ?_⟩
          intro h9
          rw [beq_iff_eq] at h9
          subst h9
          simp at h0)
        generalize x.toNat = y at *
        clear hkb
        go_wp2
        go_ret
        exact ⟨ret_bool HS.out.symm, rfl⟩
    · have HS := hide (show bs.all (· == 0) = true by have h9 := hT.out; rw [List.take_of_length_le (by have := HN.out; omega)] at h9; exact h9)
      go_wp2
      go_ret
      exact ⟨ret_bool HS.out.symm, rfl⟩
end Go.Proofs.YtdbgppknggaooaaGreatDoor
namespace Go.Proofs.YtdbgppknggaooaaGreatDoor
open Go.RowKit
theorem own_via {w w' : World} {base n size : Nat} {t : TypeId} {v : Value} {xs : List Value} (h : w.ownsRow base t size v n xs) (hb : Below w.heap.size w w') : w'.ownsRow base t size v n xs := row_keep h fun q hq => hb.block q (World.ownsRow.lt h q hq).2
end Go.Proofs.YtdbgppknggaooaaGreatDoor
namespace Go.Proofs.YtdbgppknggaooaaGreatDoor
open Go.RowKit
theorem own_far {W : World} {base n size : Nat} {t : TypeId} {v : Value} {xs : List Value} (h : W.ownsRow base t size v n xs) {p : Addr} (hp : ∀ q, v.ownBlock = some q → q ≠ p.block) (u : Value) : (W.setCell p u).ownsRow base t size v n xs := row_keep h fun q hq => Below.heap_setCell W p u q (hp q hq)
end Go.Proofs.YtdbgppknggaooaaGreatDoor
namespace Go.Proofs.YtdbgppknggaooaaGreatDoor
open Go.RowKit
structure Turn (S : Nat → Prop) (w w' : World) : Prop where
  os : w'.os = w.os
  tape : w'.tape = w.tape
  output : w'.output = w.output
  size : w.heap.size ≤ w'.heap.size
  block : ∀ k, k < w.heap.size → ¬ S k → w'.heap[k]? = w.heap[k]?
theorem Turn.of_below {S : Nat → Prop} {w w' : World} (h : Below w.heap.size w w') : Turn S w w' := ⟨h.os, h.tape, h.output, h.size, fun k hk _ => h.block k hk⟩
theorem Turn.trans {S : Nat → Prop} {a b c : World} (h : Turn S a b) (k : Turn S b c) : Turn S a c := ⟨k.os.trans h.os, k.tape.trans h.tape, k.output.trans h.output, Nat.le_trans h.size k.size, fun i hi hn => (k.block i (Nat.lt_of_lt_of_le hi h.size) hn).trans (h.block i hi hn)⟩
theorem Turn.set {S : Nat → Prop} {a w : World} (h : Turn S a w) {p : Addr} (hp : S p.block ∨ a.heap.size ≤ p.block) (u : Value) : Turn S a (w.setCell p u) :=
  ⟨h.os, h.tape, h.output, by simpa [World.setCell] using h.size, fun k hk hn => (Below.heap_setCell w p u k (fun e => by
    rcases hp with hp | hp
    · exact hn (e ▸ hp)
    · omega)).trans (h.block k hk hn)⟩
end Go.Proofs.YtdbgppknggaooaaGreatDoor
namespace Go.Proofs.YtdbgppknggaooaaGreatDoor
open Go.RowKit
theorem results_row_2 {fn : Func} {p t2 t3 : Tmp} {ty : TypeId} (h : fn.results = #[.cell p ty, .tmp t2, .tmp t3]) (tmps : Array Value) (w : World) (g : Nat) (cs : Array Value)
    (hp : tmps.getD p undef = .pointer (some ⟨g, 0, none⟩)) (hl : (loadVar ty ⟨g, 0, none⟩).run Tryz.prog w = .ok (.agg cs) w) :
    (results fn tmps).run Tryz.prog w = .ok (.tuple #[.agg cs, tmps.getD t2 undef, tmps.getD t3 undef]) w := by
  have hp' : tmps[p]?.getD undef = .pointer (some ⟨g, 0, none⟩) := by simpa using hp
  simp [results, h, hp', asAddr, hl]
end Go.Proofs.YtdbgppknggaooaaGreatDoor
namespace Go.Proofs.YtdbgppknggaooaaGreatDoor
open Go.RowKit
theorem numI_one (bs : List UInt8) (i : Nat) (x : UInt8) (h : bs[i]? = some x) : numI (cutB bs i 1) = (x.toNat : Nat) := by
  have h1 : cutB bs i 1 = [x] := by
    have := cutB_succ (bs := bs) (at_ := i) (k := 0) (by simpa using h)
    rw [this]
    simp [cutB]
  have hx := x.toNat_lt
  rw [h1]
  unfold numI
  rw [show numB [x] = x.toNat by simp [numB]]
  unfold wrap64
  omega
def cellG (bs : List UInt8) : Option CellD :=
  if (bs.getD 0 0).toNat = 1 then (if (bs.getD 1 0).toNat ≤ 32 then some ⟨1, cutB bs 2 (bs.getD 1 0).toNat, 0, 0, 0⟩ else none)
  else if (bs.getD 0 0).toNat = 2 then (if numI (cutB bs 1 8) ≤ numI (cutB bs 17 8) ∧ numI (cutB bs 17 8) ≤ numI (cutB bs 9 8) then some ⟨2, [], numI (cutB bs 1 8), numI (cutB bs 9 8), numI (cutB bs 17 8)⟩ else none)
  else none
def CellGP (w : World) (o : Option CellD) (e : Ending) (w' : World) : Prop :=
  ((o = none ∧ ∃ sz er, e = .returned (.tuple #[.agg #[.int .i64 0, .slice none 0 0, .int .i64 0, .int .i64 0, .int .i64 0], .int .i64 sz, .int .i64 er]) ∧ er ≠ 0) ∨ (∃ d A n c sz, o = some d ∧ e = .returned (.tuple #[.agg #[.int .i64 d.kind, .slice A n c, .int .i64 d.lo, .int .i64 d.hi, .int .i64 d.val], .int .i64 sz, .int .i64 0]) ∧ BytesAt w' w'.heap.size (.slice A n c) d.data)) ∧ Below w.heap.size w w'
theorem info_cellK : (Tryz.prog.info? 25).map (·.size) = some 5 := by kernel_rfl
theorem cellGet_any (A : Option Addr) (n c : Nat) (bs : List UInt8) (B : Nat) (w : World) (hB : B ≤ w.heap.size) (hm : 46 ≤ n) (hm2 : n ≤ 64) (hnc : n ≤ c) (hn : n = bs.length) (hr : Reads w B 1 A n (bs.map byteV)) :
    Calls Tryz.prog 222 #[.slice A n c] w (CellGP w (cellG bs)) := by
  have HNUM := hide (fun (at_ width : Nat) (W : World) (h1 : 1 ≤ width) (h8 : width ≤ 8) (hin : at_ + width ≤ n) (hb : Below w.heap.size w W) => num_any A n c bs at_ width B W (by omega) hnc hn (hr.below hb hB) h1 h8 hin)
  have HRD := hide (fun (W : World) (hb : Below w.heap.size w W) => hr.below hb hB)
  have HN := hide hn
  obtain ⟨b, o, rfl, hbB, _⟩ := hr.plain (by omega) (by omega)
  clear hr
  obtain ⟨x0, hx0⟩ : ∃ x, bs[0]? = some x := ⟨_, List.getElem?_eq_getElem (by omega)⟩
  obtain ⟨x1, hx1⟩ : ∃ x, bs[1]? = some x := ⟨_, List.getElem?_eq_getElem (by omega)⟩
  have H0 := hide (numI_one bs 0 x0 hx0)
  have H1 := hide (numI_one bs 1 x1 hx1)
  have HG := hide (show cellG bs = (if x0.toNat = 1 then (if x1.toNat ≤ 32 then some ⟨1, cutB bs 2 x1.toNat, 0, 0, 0⟩ else none)
    else if x0.toNat = 2 then (if numI (cutB bs 1 8) ≤ numI (cutB bs 17 8) ∧ numI (cutB bs 17 8) ≤ numI (cutB bs 9 8) then some ⟨2, [], numI (cutB bs 1 8), numI (cutB bs 9 8), numI (cutB bs 17 8)⟩ else none) else none) by
    unfold cellG
    rw [show bs.getD 0 0 = x0 by rw [List.getD_eq_getElem?_getD, hx0]; rfl, show bs.getD 1 0 = x1 by rw [List.getD_eq_getElem?_getD, hx1]; rfl])
  have hxl0 := x0.toNat_lt
  have hxl1 := x1.toNat_lt
  generalize x0.toNat = k0 at *
  generalize x1.toNat = k1 at *
  clear hn hx0 hx1
  go_enter Tryz.func222, Tryz.ntmps222
  go_upto_region 1 with (fail)
  refine gen1 (R := fun W => Code.wp _ _ _ _ W) (fun W1 kb hb1 hz1 => ?_)
  have HB1 := hide hb1
  have HKB := hide kb
  clear kb hb1
  have HC0 := hide (HNUM.out 0 1 W1 (by omega) (by omega) (by omega) HB1.out)
  rw [H0.out] at HC0
  go_upto_region 5 with (go_at_call 109; refine HC0.out.mono ?_; rintro e w' ⟨rfl, hw'⟩; obtain rfl := hw'.symm)
  refine gen1 (R := fun W => Code.wp _ _ _ _ W) (fun W2 kc hb2 hz2 => ?_)
  have HL2 := hide (HB1.out.trans (hb2.mono HB1.out.size))
  have HKB2 := hide (Blk.via hb2 HKB.out)
  have HKC := hide kc
  have hzz := HB1.out.size
  clear kc hb2
  by_cases hk1 : k0 = 1
  · subst hk1
    have HC1 := hide (HNUM.out 1 1 W2 (by omega) (by omega) (by omega) HL2.out)
    rw [H1.out] at HC1
    by_cases hsz : (n : Int) < 2 + (k1 : Int)
    · have HNO := hide (show cellG bs = none by rw [HG.out, if_pos rfl, if_neg (by omega)])
      have c20 := (HKB2.out).cell 0
      have c21 := (HKB2.out).cell 1
      have c22 := (HKB2.out).cell 2
      have c23 := (HKB2.out).cell 3
      have c24 := (HKB2.out).cell 4
      have f20 := (HKB2.out).frozen 0
      have f21 := (HKB2.out).frozen 1
      have f22 := (HKB2.out).frozen 2
      have f23 := (HKB2.out).frozen 3
      have f24 := (HKB2.out).frozen 4
      have l20 := (HKB2.out).lt
      go_wp2_with (go_at_call 109; refine HC1.out.mono ?_; rintro e w' ⟨rfl, hw'⟩; obtain rfl := hw'.symm)
      refine bodyPost_ret (results_row_2 Tryz.results222 _ _ w.heap.size #[.int .i64 0, .slice none 0 0, .int .i64 0, .int .i64 0, .int .i64 0] rfl (run_loadVar_row _ _ _ _ #[.int .i64 0, .slice none 0 0, .int .i64 0, .int .i64 0, .int .i64 0] (0, 0) _ (((((Blk.set_ HKB2.out 0 _).set_ 1 _).set_ 2 _).set_ 3 _).set_ 4 _) Tryz.underlying25 rfl info_cellK)) rfl ⟨?_, (((((Below.setCell HL2.out (p := ⟨w.heap.size, 0, none⟩) (Nat.le_refl _) _).setCell (p := ⟨w.heap.size, 1, none⟩) (Nat.le_refl _) _).setCell (p := ⟨w.heap.size, 2, none⟩) (Nat.le_refl _) _).setCell (p := ⟨w.heap.size, 3, none⟩) (Nat.le_refl _) _).setCell (p := ⟨w.heap.size, 4, none⟩) (Nat.le_refl _) _)⟩
      exact .inl ⟨HNO.out, _, _, rfl, by omega⟩
    · have hszn : 2 + k1 ≤ n := by omega
      go_upto_region 12 with (go_at_call 109; refine HC1.out.mono ?_; rintro e w' ⟨rfl, hw'⟩; obtain rfl := hw'.symm)
      obtain ⟨i0, hi, hz0, hz1', hz2'⟩ := info_parts info_u8R
      have hcut : ((bs.map byteV).drop (2 * 1)).take (k1 * 1) = (cutB bs 2 k1).map byteV := by
        unfold cutB
        rw [Nat.mul_one, Nat.mul_one, List.map_take, List.map_drop]
      have hclen : (cutB bs 2 k1).length = k1 := by
        unfold cutB
        rw [List.length_take, List.length_drop, ← HN.out]
        omega
      have hrd : Reads W2 B 1 (some ⟨b, o + 2, none⟩) k1 ((cutB bs 2 k1).map byteV) := by
        have h := ((HRD.out W2 HL2.out).cut (k := 2) (cap := c) (by omega) hnc).take (k := k1) (by omega)
        rw [if_neg (by omega), Option.map_some, add_plain, hcut] at h
        exact h
      have g1 : (2 : Int) + k1 ≤ c := by omega
      have g2 : (2 : Int) ≤ 2 + k1 := by omega
      have g3 : ¬ (c = 2) := by omega
      have HRDX := hide hrd
      have HCLEN := hide hclen
      clear hrd hcut hclen
      go_wp2_with (at_builtin; refine heldG ?_)
      refine unheldG ?_
      at_builtin
      rw [show 2 + k1 - 2 = k1 by omega]
      refine wpList_append_any _ rfl _ _ _ rfl W2.heap.size 5 i0 _ 1 1 Tryz.underlying23 hi hz0 hz1' hz2' rfl (by omega) (.slice none 0 0) 0 [] rfl (World.ownsRow_nil _ _ _ _) B (some ⟨b, o + 2, none⟩) k1 (c - 2) ((cutB bs 2 k1).map byteV) rfl HRDX.out (bytes_one _) (by unfold maxLen; omega) (by omega) (Nat.le_refl _) ?_
      intro v3 w3 hown hg _
      simp only [Nat.zero_add, List.nil_append] at hown
      obtain ⟨A3, c3, rfl, hnc3, hcm3, hnil3, _⟩ := own_slice hown
      have hb3 : Below W2.heap.size W2 w3 := (Below.refl _ _).grown hg (Nat.le_refl _) (fun q hq => by cases hq)
      have kc3 := Blk.via hb3 HKC.out
      have e1 := kc3.cell 1
      have f1 := kc3.frozen 1
      have l1 := kc3.lt
      have HKC3 := hide kc3
      have HB3 := hide hb3
      have HOW := hide hown
      clear hown hg hb3 kc3
      go_upto_region 20 with (fail)
      refine nameW (w := World.setCell _ _ _) (R := fun W => Code.wp _ _ _ _ W) (fun W4 hW4 => ?_)
      have kc4 : Blk W4 W1.heap.size 25 #[.int .i64 1, .slice A3 k1 c3, .int .i64 0, .int .i64 0, .int .i64 0] := hW4 ▸ HKC3.out.set_ 1 _
      have kb4 : Blk W4 w.heap.size 25 #[.int .i64 0, .slice none 0 0, .int .i64 0, .int .i64 0, .int .i64 0] := hW4 ▸ (Blk.via HB3.out HKB2.out).far (by simp; omega) _
      have hl3 : Below w.heap.size w w3 := HL2.out.trans (HB3.out.mono HL2.out.size)
      have hl4 : Below w.heap.size w W4 := hW4 ▸ hl3.setCell (p := ⟨W1.heap.size, 1, none⟩) (by simp; omega) _
      have ho4 : W4.ownsRow W2.heap.size 5 1 (.slice A3 k1 c3) k1 ((cutB bs 2 k1).map byteV) := hW4 ▸ row_keep HOW.out (fun q hq => Below.heap_setCell _ _ _ _ (by
        have := (World.ownsRow.lt HOW.out q hq).1
        have := HKC.out.lt
        simp; omega))
      have hz24 : w.heap.size < W2.heap.size := by omega
      have HKC4 := hide kc4
      have HKB4 := hide kb4
      have HL4 := hide hl4
      have HO4 := hide ho4
      clear hW4 kc4 kb4 hl3 hl4 ho4 e1 f1 l1
      have HCK := hide (cellCheck_any ⟨1, cutB bs 2 k1, 0, 0, 0⟩ A3 k1 c3 W4 HCLEN.out.symm)
      have z0 := HKC4.out.cell 0
      have z1 := HKC4.out.cell 1
      have z2 := HKC4.out.cell 2
      have z3 := HKC4.out.cell 3
      have z4 := HKC4.out.cell 4
      by_cases hok : k1 ≤ 32
      · have HE := hide (show cellE ⟨1, cutB bs 2 k1, 0, 0, 0⟩ = 0 from by unfold cellE rightC; rw [if_pos (by simp [HCLEN.out]; omega)])
        have HGG := hide (show cellG bs = some ⟨1, cutB bs 2 k1, 0, 0, 0⟩ from by rw [HG.out, if_pos (by trivial), if_pos hok])
        rw [HE.out] at HCK
        clear hok
        go_upto_region 22 with (go_at_call 149; refine HCK.out.mono ?_; rintro e W5 ⟨rfl, hb5⟩; have HB5 := hide hb5; clear hb5)
        have kc5 := Blk.via HB5.out HKC4.out
        have kb5 := Blk.via HB5.out HKB4.out
        have y0 := kc5.cell 0
        have y1 := kc5.cell 1
        have y2 := kc5.cell 2
        have y3 := kc5.cell 3
        have y4 := kc5.cell 4
        have HKB5 := hide kb5
        have hl5 : Below w.heap.size w W5 := HL4.out.trans (HB5.out.mono HL4.out.size)
        have HL5 := hide hl5
        clear kc5 kb5 hl5
        have c20 := (HKB5.out).cell 0
        have c21 := (HKB5.out).cell 1
        have c22 := (HKB5.out).cell 2
        have c23 := (HKB5.out).cell 3
        have c24 := (HKB5.out).cell 4
        have f20 := (HKB5.out).frozen 0
        have f21 := (HKB5.out).frozen 1
        have f22 := (HKB5.out).frozen 2
        have f23 := (HKB5.out).frozen 3
        have f24 := (HKB5.out).frozen 4
        have l20 := (HKB5.out).lt
        go_wp2_with fail
        refine bodyPost_ret (results_row_2 Tryz.results222 _ _ w.heap.size #[.int .i64 (⟨1, cutB bs 2 k1, 0, 0, 0⟩ : CellD).kind, .slice A3 k1 c3, .int .i64 (⟨1, cutB bs 2 k1, 0, 0, 0⟩ : CellD).lo, .int .i64 (⟨1, cutB bs 2 k1, 0, 0, 0⟩ : CellD).hi, .int .i64 (⟨1, cutB bs 2 k1, 0, 0, 0⟩ : CellD).val] rfl (run_loadVar_row _ _ _ _ #[.int .i64 (⟨1, cutB bs 2 k1, 0, 0, 0⟩ : CellD).kind, .slice A3 k1 c3, .int .i64 (⟨1, cutB bs 2 k1, 0, 0, 0⟩ : CellD).lo, .int .i64 (⟨1, cutB bs 2 k1, 0, 0, 0⟩ : CellD).hi, .int .i64 (⟨1, cutB bs 2 k1, 0, 0, 0⟩ : CellD).val] (0, 0) _ (((((Blk.set_ HKB5.out 0 _).set_ 1 _).set_ 2 _).set_ 3 _).set_ 4 _) Tryz.underlying25 rfl info_cellK)) rfl ⟨?_, (((((Below.setCell HL5.out (p := ⟨w.heap.size, 0, none⟩) (Nat.le_refl _) _).setCell (p := ⟨w.heap.size, 1, none⟩) (Nat.le_refl _) _).setCell (p := ⟨w.heap.size, 2, none⟩) (Nat.le_refl _) _).setCell (p := ⟨w.heap.size, 3, none⟩) (Nat.le_refl _) _).setCell (p := ⟨w.heap.size, 4, none⟩) (Nat.le_refl _) _)⟩
        refine .inr ⟨_, A3, k1, c3, _, HGG.out, rfl, ?_⟩
        have ho5 := own_via HO4.out HB5.out
        have hne5 : ∀ q, (Value.slice A3 k1 c3).ownBlock = some q → q ≠ w.heap.size := fun q hq => by have := (World.ownsRow.lt HO4.out q hq).1; omega
        exact BytesAt.of_own (own_far (p := ⟨w.heap.size, 4, none⟩) (own_far (p := ⟨w.heap.size, 3, none⟩) (own_far (p := ⟨w.heap.size, 2, none⟩) (own_far (p := ⟨w.heap.size, 1, none⟩) (own_far (p := ⟨w.heap.size, 0, none⟩) ho5 hne5 _) hne5 _) hne5 _) hne5 _) hne5 _)
      · have HE := hide (show cellE ⟨1, cutB bs 2 k1, 0, 0, 0⟩ = 1 from by unfold cellE rightC; rw [if_neg (by simp [HCLEN.out]; omega)])
        have HGG := hide (show cellG bs = none from by rw [HG.out, if_pos (by trivial), if_neg hok])
        rw [HE.out] at HCK
        clear hok
        go_upto_region 21 with (go_at_call 149; refine HCK.out.mono ?_; rintro e W5 ⟨rfl, hb5⟩; have HB5 := hide hb5; clear hb5)
        have kb5 := Blk.via HB5.out HKB4.out
        have HKB5 := hide kb5
        have hl5 : Below w.heap.size w W5 := HL4.out.trans (HB5.out.mono HL4.out.size)
        have HL5 := hide hl5
        clear kb5 hl5
        have c20 := (HKB5.out).cell 0
        have c21 := (HKB5.out).cell 1
        have c22 := (HKB5.out).cell 2
        have c23 := (HKB5.out).cell 3
        have c24 := (HKB5.out).cell 4
        have f20 := (HKB5.out).frozen 0
        have f21 := (HKB5.out).frozen 1
        have f22 := (HKB5.out).frozen 2
        have f23 := (HKB5.out).frozen 3
        have f24 := (HKB5.out).frozen 4
        have l20 := (HKB5.out).lt
        go_wp2_with fail
        refine bodyPost_ret (results_row_2 Tryz.results222 _ _ w.heap.size #[.int .i64 0, .slice none 0 0, .int .i64 0, .int .i64 0, .int .i64 0] rfl (run_loadVar_row _ _ _ _ #[.int .i64 0, .slice none 0 0, .int .i64 0, .int .i64 0, .int .i64 0] (0, 0) _ (((((Blk.set_ HKB5.out 0 _).set_ 1 _).set_ 2 _).set_ 3 _).set_ 4 _) Tryz.underlying25 rfl info_cellK)) rfl ⟨?_, (((((Below.setCell HL5.out (p := ⟨w.heap.size, 0, none⟩) (Nat.le_refl _) _).setCell (p := ⟨w.heap.size, 1, none⟩) (Nat.le_refl _) _).setCell (p := ⟨w.heap.size, 2, none⟩) (Nat.le_refl _) _).setCell (p := ⟨w.heap.size, 3, none⟩) (Nat.le_refl _) _).setCell (p := ⟨w.heap.size, 4, none⟩) (Nat.le_refl _) _)⟩
        exact .inl ⟨HGG.out, _, _, rfl, by omega⟩
  · by_cases hk2 : k0 = 2
    · subst hk2
      obtain ⟨lo, hlo⟩ : ∃ lo, lo = numI (cutB bs 1 8) := ⟨_, rfl⟩
      obtain ⟨hi, hhi⟩ : ∃ hi, hi = numI (cutB bs 9 8) := ⟨_, rfl⟩
      obtain ⟨va, hva⟩ : ∃ va, va = numI (cutB bs 17 8) := ⟨_, rfl⟩
      have HG2 := HG.out
      rw [← hlo, ← hhi, ← hva] at HG2
      have HG := hide HG2
      have hz1c := HKC.out.lt
      have n1 := fun (W : World) (hb : Below w.heap.size w W) => HNUM.out 1 8 W (by omega) (by omega) (by omega) hb
      have n2 := fun (W : World) (hb : Below w.heap.size w W) => HNUM.out 9 8 W (by omega) (by omega) (by omega) hb
      have n3 := fun (W : World) (hb : Below w.heap.size w W) => HNUM.out 17 8 W (by omega) (by omega) (by omega) hb
      rw [← hlo] at n1
      rw [← hhi] at n2
      rw [← hva] at n3
      have HN1 := hide n1
      have HN2 := hide n2
      have HN3 := hide n3
      clear HG2 n1 n2 n3 hlo hhi hva
      have hw1 : w.heap.size ≤ W1.heap.size := hzz
      have y2 := HKC.out.cell 2
      have y3 := HKC.out.cell 3
      have y4 := HKC.out.cell 4
      have p2 := HKC.out.frozen 2
      have p3 := HKC.out.frozen 3
      have p4 := HKC.out.frozen 4
      go_upto_region 18 with (go_at_call 109; refine (HN1.out _ HL2.out).mono ?_; rintro e w' ⟨rfl, hw'⟩; obtain rfl := hw'.symm)
      go_upto_region 19 with (go_at_call 109; refine (HN2.out _ (HL2.out.setCell (p := ⟨W1.heap.size, 2, none⟩) hw1 _)).mono ?_; rintro e w' ⟨rfl, hw'⟩; obtain rfl := hw'.symm)
      go_upto_region 20 with (go_at_call 109; refine (HN3.out _ ((HL2.out.setCell (p := ⟨W1.heap.size, 2, none⟩) hw1 _).setCell (p := ⟨W1.heap.size, 3, none⟩) hw1 _)).mono ?_; rintro e w' ⟨rfl, hw'⟩; obtain rfl := hw'.symm)
      refine nameW (w := World.setCell _ _ _) (R := fun W => Code.wp _ _ _ _ W) (fun W4 hW4 => ?_)
      have kc4 : Blk W4 W1.heap.size 25 #[.int .i64 2, .slice none 0 0, .int .i64 lo, .int .i64 hi, .int .i64 va] := hW4 ▸ (((HKC.out.set_ 2 _).set_ 3 _).set_ 4 _)
      have kb4 : Blk W4 w.heap.size 25 #[.int .i64 0, .slice none 0 0, .int .i64 0, .int .i64 0, .int .i64 0] := hW4 ▸ (((HKB2.out.far (by simp; omega) _).far (by simp; omega) _).far (by simp; omega) _)
      have hl4 : Below w.heap.size w W4 := hW4 ▸ (((HL2.out.setCell (p := ⟨W1.heap.size, 2, none⟩) hw1 _).setCell (p := ⟨W1.heap.size, 3, none⟩) hw1 _).setCell (p := ⟨W1.heap.size, 4, none⟩) hw1 _)
      have ho4 : W4.ownsRow W2.heap.size 5 1 (.slice none 0 0) 0 (([] : List UInt8).map byteV) := World.ownsRow_nil _ _ _ _
      have hz24 : w.heap.size < W2.heap.size := by omega
      have HKC4 := hide kc4
      have HKB4 := hide kb4
      have HL4 := hide hl4
      have HO4 := hide ho4
      clear hW4 kc4 kb4 hl4 ho4 y2 y3 y4 p2 p3 p4
      have HCK := hide (cellCheck_any ⟨2, [], lo, hi, va⟩ none 0 0 W4 rfl)
      have z0 := HKC4.out.cell 0
      have z1 := HKC4.out.cell 1
      have z2 := HKC4.out.cell 2
      have z3 := HKC4.out.cell 3
      have z4 := HKC4.out.cell 4
      by_cases hok : lo ≤ va ∧ va ≤ hi
      · have HE := hide (show cellE ⟨2, [], lo, hi, va⟩ = 0 from by unfold cellE rightC; rw [if_pos (by simpa using hok)])
        have HGG := hide (show cellG bs = some ⟨2, [], lo, hi, va⟩ from by rw [HG.out, if_neg (by decide), if_pos (by trivial), if_pos hok])
        rw [HE.out] at HCK
        clear hok
        go_upto_region 22 with (go_at_call 149; refine HCK.out.mono ?_; rintro e W5 ⟨rfl, hb5⟩; have HB5 := hide hb5; clear hb5)
        have kc5 := Blk.via HB5.out HKC4.out
        have kb5 := Blk.via HB5.out HKB4.out
        have y0 := kc5.cell 0
        have y1 := kc5.cell 1
        have y2 := kc5.cell 2
        have y3 := kc5.cell 3
        have y4 := kc5.cell 4
        have HKB5 := hide kb5
        have hl5 : Below w.heap.size w W5 := HL4.out.trans (HB5.out.mono HL4.out.size)
        have HL5 := hide hl5
        clear kc5 kb5 hl5
        have c20 := (HKB5.out).cell 0
        have c21 := (HKB5.out).cell 1
        have c22 := (HKB5.out).cell 2
        have c23 := (HKB5.out).cell 3
        have c24 := (HKB5.out).cell 4
        have f20 := (HKB5.out).frozen 0
        have f21 := (HKB5.out).frozen 1
        have f22 := (HKB5.out).frozen 2
        have f23 := (HKB5.out).frozen 3
        have f24 := (HKB5.out).frozen 4
        have l20 := (HKB5.out).lt
        go_wp2_with fail
        refine bodyPost_ret (results_row_2 Tryz.results222 _ _ w.heap.size #[.int .i64 (⟨2, [], lo, hi, va⟩ : CellD).kind, .slice none 0 0, .int .i64 (⟨2, [], lo, hi, va⟩ : CellD).lo, .int .i64 (⟨2, [], lo, hi, va⟩ : CellD).hi, .int .i64 (⟨2, [], lo, hi, va⟩ : CellD).val] rfl (run_loadVar_row _ _ _ _ #[.int .i64 (⟨2, [], lo, hi, va⟩ : CellD).kind, .slice none 0 0, .int .i64 (⟨2, [], lo, hi, va⟩ : CellD).lo, .int .i64 (⟨2, [], lo, hi, va⟩ : CellD).hi, .int .i64 (⟨2, [], lo, hi, va⟩ : CellD).val] (0, 0) _ (((((Blk.set_ HKB5.out 0 _).set_ 1 _).set_ 2 _).set_ 3 _).set_ 4 _) Tryz.underlying25 rfl info_cellK)) rfl ⟨?_, (((((Below.setCell HL5.out (p := ⟨w.heap.size, 0, none⟩) (Nat.le_refl _) _).setCell (p := ⟨w.heap.size, 1, none⟩) (Nat.le_refl _) _).setCell (p := ⟨w.heap.size, 2, none⟩) (Nat.le_refl _) _).setCell (p := ⟨w.heap.size, 3, none⟩) (Nat.le_refl _) _).setCell (p := ⟨w.heap.size, 4, none⟩) (Nat.le_refl _) _)⟩
        refine .inr ⟨_, none, 0, 0, _, HGG.out, rfl, ?_⟩
        have ho5 := own_via HO4.out HB5.out
        have hne5 : ∀ q, (Value.slice none 0 0).ownBlock = some q → q ≠ w.heap.size := fun q hq => by have := (World.ownsRow.lt HO4.out q hq).1; omega
        exact BytesAt.of_own (own_far (p := ⟨w.heap.size, 4, none⟩) (own_far (p := ⟨w.heap.size, 3, none⟩) (own_far (p := ⟨w.heap.size, 2, none⟩) (own_far (p := ⟨w.heap.size, 1, none⟩) (own_far (p := ⟨w.heap.size, 0, none⟩) ho5 hne5 _) hne5 _) hne5 _) hne5 _) hne5 _)
      · have HE := hide (show cellE ⟨2, [], lo, hi, va⟩ = 1 from by unfold cellE rightC; rw [if_neg (by simpa using hok)])
        have HGG := hide (show cellG bs = none from by rw [HG.out, if_neg (by decide), if_pos (by trivial), if_neg hok])
        rw [HE.out] at HCK
        clear hok
        go_upto_region 21 with (go_at_call 149; refine HCK.out.mono ?_; rintro e W5 ⟨rfl, hb5⟩; have HB5 := hide hb5; clear hb5)
        have kb5 := Blk.via HB5.out HKB4.out
        have HKB5 := hide kb5
        have hl5 : Below w.heap.size w W5 := HL4.out.trans (HB5.out.mono HL4.out.size)
        have HL5 := hide hl5
        clear kb5 hl5
        have c20 := (HKB5.out).cell 0
        have c21 := (HKB5.out).cell 1
        have c22 := (HKB5.out).cell 2
        have c23 := (HKB5.out).cell 3
        have c24 := (HKB5.out).cell 4
        have f20 := (HKB5.out).frozen 0
        have f21 := (HKB5.out).frozen 1
        have f22 := (HKB5.out).frozen 2
        have f23 := (HKB5.out).frozen 3
        have f24 := (HKB5.out).frozen 4
        have l20 := (HKB5.out).lt
        go_wp2_with fail
        refine bodyPost_ret (results_row_2 Tryz.results222 _ _ w.heap.size #[.int .i64 0, .slice none 0 0, .int .i64 0, .int .i64 0, .int .i64 0] rfl (run_loadVar_row _ _ _ _ #[.int .i64 0, .slice none 0 0, .int .i64 0, .int .i64 0, .int .i64 0] (0, 0) _ (((((Blk.set_ HKB5.out 0 _).set_ 1 _).set_ 2 _).set_ 3 _).set_ 4 _) Tryz.underlying25 rfl info_cellK)) rfl ⟨?_, (((((Below.setCell HL5.out (p := ⟨w.heap.size, 0, none⟩) (Nat.le_refl _) _).setCell (p := ⟨w.heap.size, 1, none⟩) (Nat.le_refl _) _).setCell (p := ⟨w.heap.size, 2, none⟩) (Nat.le_refl _) _).setCell (p := ⟨w.heap.size, 3, none⟩) (Nat.le_refl _) _).setCell (p := ⟨w.heap.size, 4, none⟩) (Nat.le_refl _) _)⟩
        exact .inl ⟨HGG.out, _, _, rfl, by omega⟩
    · have b1 : (((k0 : Nat) : Int) == 1) = false := by rw [beq_eq_false_iff_ne]; omega
      have b2 : (((k0 : Nat) : Int) == 2) = false := by rw [beq_eq_false_iff_ne]; omega
      have HRC := hide (show rightC ⟨(k0 : Nat), [], 0, 0, 0⟩ = false by
        unfold rightC
        rw [if_neg (by simp; omega)]
        simp
        omega)
      have HNN := hide (show cellG bs = none by rw [HG.out, if_neg hk1, if_neg hk2])
      have HKC4 := HKC
      have HKB4 := HKB2
      have HL4 := HL2
      have HCK := hide (cellCheck_any ⟨(k0 : Nat), [], 0, 0, 0⟩ none 0 0 W2 rfl)
      clear hk1 hk2
      go_upto_region 20 with (fail)
      have z0 := HKC4.out.cell 0
      have z1 := HKC4.out.cell 1
      have z2 := HKC4.out.cell 2
      have z3 := HKC4.out.cell 3
      have z4 := HKC4.out.cell 4
      have HE := hide (show cellE ⟨(k0 : Nat), [], 0, 0, 0⟩ = 1 from by unfold cellE; rw [HRC.out]; rfl)
      have HGG := hide (show cellG bs = none from HNN.out)
      rw [HE.out] at HCK
      go_upto_region 21 with (go_at_call 149; refine HCK.out.mono ?_; rintro e W5 ⟨rfl, hb5⟩; have HB5 := hide hb5; clear hb5)
      have kb5 := Blk.via HB5.out HKB4.out
      have HKB5 := hide kb5
      have hl5 : Below w.heap.size w W5 := HL4.out.trans (HB5.out.mono HL4.out.size)
      have HL5 := hide hl5
      clear kb5 hl5
      have c20 := (HKB5.out).cell 0
      have c21 := (HKB5.out).cell 1
      have c22 := (HKB5.out).cell 2
      have c23 := (HKB5.out).cell 3
      have c24 := (HKB5.out).cell 4
      have f20 := (HKB5.out).frozen 0
      have f21 := (HKB5.out).frozen 1
      have f22 := (HKB5.out).frozen 2
      have f23 := (HKB5.out).frozen 3
      have f24 := (HKB5.out).frozen 4
      have l20 := (HKB5.out).lt
      go_wp2_with fail
      refine bodyPost_ret (results_row_2 Tryz.results222 _ _ w.heap.size #[.int .i64 0, .slice none 0 0, .int .i64 0, .int .i64 0, .int .i64 0] rfl (run_loadVar_row _ _ _ _ #[.int .i64 0, .slice none 0 0, .int .i64 0, .int .i64 0, .int .i64 0] (0, 0) _ (((((Blk.set_ HKB5.out 0 _).set_ 1 _).set_ 2 _).set_ 3 _).set_ 4 _) Tryz.underlying25 rfl info_cellK)) rfl ⟨?_, (((((Below.setCell HL5.out (p := ⟨w.heap.size, 0, none⟩) (Nat.le_refl _) _).setCell (p := ⟨w.heap.size, 1, none⟩) (Nat.le_refl _) _).setCell (p := ⟨w.heap.size, 2, none⟩) (Nat.le_refl _) _).setCell (p := ⟨w.heap.size, 3, none⟩) (Nat.le_refl _) _).setCell (p := ⟨w.heap.size, 4, none⟩) (Nat.le_refl _) _)⟩
      exact .inl ⟨HGG.out, _, _, rfl, by omega⟩
end Go.Proofs.YtdbgppknggaooaaGreatDoor
namespace Go.Proofs.YtdbgppknggaooaaGreatDoor
open Go.RowKit
structure ItemD where
  st : Int
  key : ByteArray
  cell : CellD
def item0 : ItemD := ⟨0, ⟨#[]⟩, ⟨0, [], 0, 0, 0⟩⟩
def slotS (bs : List UInt8) : Nat := (bs.getD 0 0).toNat
def slotN (bs : List UInt8) : Nat := (bs.getD 1 0).toNat
def slotK (bs : List UInt8) : ByteArray := ⟨(cutB bs 2 (slotN bs)).toArray⟩
def slotOk (bs : List UInt8) (d : CellD) : Prop := rightI (slotS bs) (slotK bs) d = true ∧ pad64 (itemB (slotS bs) (slotK bs) d) = bs
instance (bs : List UInt8) (d : CellD) : Decidable (slotOk bs d) := inferInstanceAs (Decidable (_ ∧ _))
def slotD (bs : List UInt8) : Option CellD → Option ItemD
  | none => none
  | some d => if slotOk bs d then some ⟨slotS bs, slotK bs, d⟩ else none
def slotG (bs : List UInt8) : Option ItemD :=
  if bs = List.replicate 64 0 then some item0 else if 16 < slotN bs then none else slotD bs (cellG (bs.drop (2 + slotN bs)))
def slotB (bs : List UInt8) (i : Nat) : List UInt8 := cutB bs (32 + 64 * i) 64
theorem slotB_length {bs : List UInt8} (hl : bs.length = 512) {i : Nat} (hi : i < 7) : (slotB bs i).length = 64 := by
  unfold slotB cutB
  rw [List.length_take, List.length_drop]
  omega
def slotsOk (bs : List UInt8) : Nat → Bool
  | 0 => true
  | i + 1 => slotsOk bs i && (slotG (slotB bs i)).isSome
theorem slotsOk_iff {bs : List UInt8} (n : Nat) : slotsOk bs n = true ↔ ∀ i, i < n → (slotG (slotB bs i)).isSome = true := by
  induction n with
  | zero => simp [slotsOk]
  | succ n ih =>
    simp only [slotsOk, Bool.and_eq_true, ih]
    constructor
    · rintro ⟨h1, h2⟩ i hi
      rcases Nat.lt_or_ge i n with h | h
      · exact h1 i h
      · obtain rfl : i = n := by omega
        exact h2
    · intro h
      exact ⟨fun i hi => h i (by omega), h n (by omega)⟩
theorem slotsOk_no {bs : List UInt8} {i n : Nat} (hi : i < n) (h : slotG (slotB bs i) = none) : slotsOk bs n = false := by
  cases hs : slotsOk bs n with
  | false => rfl
  | true => have := (slotsOk_iff n).1 hs i hi; rw [h] at this; cases this
def rightP (bs : List UInt8) (no : Int) : Bool :=
  (numI (cutB bs 0 4) == ((moreD 0 (bs.drop 4) : Nat) : Int)) && ((numI (cutB bs 12 2) == no) && ((cutB bs 24 8 == List.replicate 8 0) && ((bs.drop 480 == List.replicate 32 0) && slotsOk bs 7)))
end Go.Proofs.YtdbgppknggaooaaGreatDoor
namespace Go.Proofs.YtdbgppknggaooaaGreatDoor
open Go.RowKit
theorem bytes_at {bs : List UInt8} {i : Nat} (h : i < bs.length) : ((bs.map byteV).toArray)[i]? = some (.int .u8 (((bs.getD i 0).toNat : Nat) : Int)) := by
  rw [List.getElem?_toArray, List.getElem?_map, List.getElem?_eq_getElem h, List.getD_eq_getElem?_getD, List.getElem?_eq_getElem h]
  rfl
theorem run_eqItemsB {P : Program} (w : World) (d : Nat) (e : TypeId) (he : P.underlying e = some (.int .u8)) (xs bs : List UInt8) (hl : xs.length = bs.length) : ∀ is : List Nat, (∀ i ∈ is, i < xs.length) →
    (Op.eqItems (d + 1) e 1 (xs.map byteV).toArray (bs.map byteV).toArray is).run P w = .ok (is.all fun i => xs.getD i 0 == bs.getD i 0) w
  | [], _ => by simp [Op.eqItems]
  | i :: is, h => by
    have hi : i < xs.length := h i List.mem_cons_self
    have hp : P.plainKey e = true := by simp [Program.plainKey, he]
    have ih := run_eqItemsB w d e he xs bs hl is (fun j hj => h j (List.mem_cons_of_mem _ hj))
    have hx : (((xs.getD i 0).toNat : Int) == ((bs.getD i 0).toNat : Int)) = (xs.getD i 0 == bs.getD i 0) := by
      rw [Bool.eq_iff_iff, beq_iff_eq, beq_iff_eq]
      constructor
      · intro h
        exact UInt8.toNat_inj.1 (by omega)
      · intro h
        rw [h]
    unfold Op.eqItems
    rw [Nat.mul_one]
    simp only [Sem.run_bind, run_part_plain w hp (bytes_at hi), run_part_plain w hp (bytes_at (hl ▸ hi)), Result.andThen_ok, run_equalIn_int w d e .u8 .u8 _ _ he, List.all_cons, hx]
    cases hb : (xs.getD i 0 == bs.getD i 0)
    · simp
    · simpa using ih
theorem all_getD {xs bs : List UInt8} {n : Nat} (ha : xs.length = n) (hb : bs.length = n) : ((List.range n).all fun i => xs.getD i 0 == bs.getD i 0) = (xs == bs) := by
  rw [Bool.eq_iff_iff, List.all_eq_true, beq_iff_eq]
  constructor
  · intro h
    refine List.ext_getElem (by omega) (fun i h1 h2 => ?_)
    have := h i (List.mem_range.2 (by omega))
    rw [beq_iff_eq, List.getD_eq_getElem?_getD, List.getD_eq_getElem?_getD, List.getElem?_eq_getElem h1, List.getElem?_eq_getElem h2] at this
    exact this
  · rintro rfl i _
    simp
theorem info_u8X : (Tryz.prog.info? 5).map (·.size) = some 1 := by kernel_rfl
theorem run_eqB (t : TypeId) (n d : Nat) (ht : Tryz.prog.underlying t = some (.array n 5)) (xs bs : List UInt8) (ha : xs.length = n) (hb : bs.length = n) (w : World) :
    (Op.equalIn (d + 2) t (.agg (xs.map byteV).toArray) (.agg (bs.map byteV).toArray)).run Tryz.prog w = .ok (xs == bs) w := by
  obtain ⟨i, hi, hs⟩ := Option.map_eq_some_iff.1 info_u8X
  rw [run_equalIn_array w (d + 1) _ _ ht hi]
  have hc : Tryz.prog.cellsOf 5 = 1 := by rw [Program.cellsOf, hi]; exact hs
  rw [hc, run_eqItemsB w d 5 Tryz.underlying5 xs bs (by omega) _ (fun i hi => by have := List.mem_range.1 hi; omega), all_getD ha hb]
theorem itemB_le (st : Int) (k : ByteArray) (d : CellD) : (itemB st k d).length ≤ 64 := by
  unfold itemB
  split
  · rename_i hh
    have h2 := hh.2
    unfold rightI at h2
    rw [if_neg hh.1] at h2
    simp only [Bool.and_eq_true] at h2
    have h3 := h2.2.1
    unfold goodKey at h3
    simp only [Bool.and_eq_true, decide_eq_true_eq] at h3
    have h4 := cellB_le34 h2.2.2
    have h5 : k.data.toList.length = k.size := by rw [Array.length_toList]; rfl
    simp only [List.length_append, List.length_cons, List.length_nil]
    omega
  · simp
theorem wpList_load_rowG {P : Program} {ops : Array Oper} {rest : List Oper} {o : Oper} {a : Act} {w : World} {Q : Exit → Act → World → Prop} (hw : Region.wanted o (yielded ops a.tmps) = true) (ty : TypeId) (x : Operand) (ho : o.op = .load ty x)
    (g : Nat) (hx : a.eval x = .pointer (some ⟨g, 0, none⟩)) (t : TypeId) (cs : Array Value) (fr : Nat × Nat) (d : TypeDesc) (hg : w.heap[g]? = some (.cells cs t fr)) (hu : P.underlying ty = some d) (hd : (match d with | .struct _ | .array _ _ => true | _ => false) = true) (hi : (P.info? ty).map (·.size) = some cs.size)
    (h : wpList P ops Q rest (a.put o.dst (.agg cs)) w) : wpList P ops Q (o :: rest) a w := by
  unfold wpList
  rw [if_pos hw]
  exact .inl (wp_load_row ty x ho g hx t cs fr d hg hu hd hi h)
def isU8 : Value → Bool
  | .int .u8 _ => true
  | _ => false
theorem not_u8 {cs : Array Value} (h : cs.toList.all (fun v => !isU8 v) = true) (i : Nat) (x : UInt8) : cs[i]? ≠ some (byteV x) := by
  intro hi
  rw [List.all_eq_true] at h
  have := h _ (Array.mem_toList_iff.2 (Array.mem_of_getElem? hi))
  simp [isU8, byteV] at this
theorem BytesAt.setOther {w : World} {B : Nat} {v : Value} {bs : List UInt8} (h : BytesAt w B v bs) {g : Nat} {t : TypeId} {cs : Array Value} (k : Blk w g t cs) (hc : cs.toList.all (fun v => !isU8 v) = true) (i : Nat) (u : Value) : BytesAt (w.setCell ⟨g, i, none⟩ u) B v bs := by
  obtain ⟨A, n, c, rfl, h2, h3, h4, h5, h6, h7⟩ := h
  refine ⟨A, n, c, rfl, h2, h3, h4, h5, h6, fun hn => ?_⟩
  obtain ⟨ad, rfl, hb, hcell⟩ := h7 hn
  refine ⟨ad, rfl, hb, fun j u' hu => ?_⟩
  have h1 := hcell j u' hu
  rw [List.getElem?_map] at hu
  obtain ⟨x, hx, rfl⟩ := Option.map_eq_some_iff.1 hu
  refine (World.cell?_setCell_other w _ _ _ ?_).trans h1
  intro e
  rw [← e, k.cell] at h1
  exact not_u8 hc i x h1
end Go.Proofs.YtdbgppknggaooaaGreatDoor
namespace Go.Proofs.YtdbgppknggaooaaGreatDoor.Vm
open Go Go.RowKit
theorem flat_bytes {t : TypeId} {n : Nat} {zc : List AV} (ht : Tryz.prog.underlying t = some (.array n 5)) (hg : Tryz.prog.eqGuardType Tryz.prog.depth t = false) : FlatOK Tryz.prog t true n zc := by
  refine ⟨hg, fun ρ a b xs ys r w hl h hx hy => ?_⟩
  have hl := shape_len hl
  obtain ⟨us, vs, e1, e2, e3, rfl⟩ := eqLB_rel h hx hy
  have hn : us.length = n := by
    have := CRel.length _ hx
    rw [e1, List.length_map, hl] at this
    exact this
  obtain rfl : xs = (us.map byteV).toArray := Array.ext' e1
  obtain rfl : ys = (vs.map byteV).toArray := Array.ext' e2
  exact ⟨run_eqB t n 9998 ht us vs hn (by omega) w, fun h => (by cases h)⟩
end Go.Proofs.YtdbgppknggaooaaGreatDoor.Vm
namespace Go.Proofs.YtdbgppknggaooaaGreatDoor.Vm
open Go Go.RowKit
def ScT (P : Program) (o : Nat) : List Field → List AV → Prop
  | [], [] => True
  | f :: fs, z :: zs => f.offset = o ∧ f.name ≠ "_" ∧ ((∃ k n, z = .int k n ∧ P.underlying f.type = some (.int k)) ∨ ∃ s, z = .str s ∧ P.underlying f.type = some .string) ∧ ScT P (o + 1) fs zs
  | _, _ => False
theorem eqLI_cons {a b : AV} {x y : List AV} {r : Bool} (h : eqLI (a :: x) (b :: y) = some r) : ∃ c q, eqSc a b = some c ∧ eqLI x y = some q ∧ r = (c && q) := by
  unfold eqLI at h
  cases hs : eqSc a b with
  | none => rw [hs] at h; cases h
  | some c =>
    rw [hs] at h
    simp only at h
    cases hr : eqLI x y with
    | none => rw [hr] at h; cases h
    | some q =>
      rw [hr] at h
      injection h with h
      exact ⟨c, q, rfl, rfl, h.symm⟩
section
variable {P : Program} {ρ : Ren}
theorem sc_field {f : Field} {z a b : AV} {u v : Value} {c c2 : Bool} (ht : (∃ k n, z = .int k n ∧ P.underlying f.type = some (.int k)) ∨ ∃ s, z = .str s ∧ P.underlying f.type = some .string) (hz : eqSc a z = some c2) (h : eqSc a b = some c) (hu : VRel ρ a u) (hv : VRel ρ b v) (d : Nat) (w : World) :
    P.plainKey f.type = true ∧ (Op.equalIn (d + 1) f.type u v).run P w = .ok c w ∧ ∀ e, (Instr.checkKey e (d + 1) f.type u).run P w = .ok () w := by
  obtain ⟨x, rfl, rfl, rfl⟩ := eqSc_rel h hu hv
  rcases ht with ⟨k, n, rfl, ht⟩ | ⟨s, rfl, ht⟩
  · have hx : ∃ k' p q, x = .i k' p q := by
      cases x with
      | i k' p q => exact ⟨k', p, q, rfl⟩
      | s p q =>
        exfalso
        cases a <;> simp only [eqSc, intA, strA, reduceCtorEq] at hz <;> cases hu
    obtain ⟨k', p, q, rfl⟩ := hx
    refine ⟨by unfold Program.plainKey; rw [ht], run_equalIn_int w d f.type k' k p q ht, fun e => ?_⟩
    unfold Instr.checkKey
    simp [run_underlying ht, Sc.lv]
  · have hx : ∃ p q, x = .s p q := by
      cases x with
      | s p q => exact ⟨p, q, rfl⟩
      | i k' p q =>
        exfalso
        cases a <;> simp only [eqSc, intA, strA, reduceCtorEq] at hz <;> cases hu
    obtain ⟨p, q, rfl⟩ := hx
    refine ⟨by unfold Program.plainKey; rw [ht], ?_, fun e => ?_⟩
    · have := run_equalIn_string (P := P) w d f.type p q ht
      rw [← beq_toListBytes] at this
      exact this
    · unfold Instr.checkKey
      simp [run_underlying ht, Sc.lv]
theorem eqF_ok (d : Nat) (xs ys : Array Value) (w : World) : ∀ (fs : List Field) (zs a b : List AV) (us vs : List Value) (o : Nat) (r c : Bool), ScT P o fs zs → eqLI a zs = some c → eqLI a b = some r → CRel ρ a us → CRel ρ b vs →
    (∀ (i : Nat) u, us[i]? = some u → xs[o + i]? = some u) → (∀ (i : Nat) u, vs[i]? = some u → ys[o + i]? = some u) → (Op.eqFields (d + 1) xs ys fs).run P w = .ok r w
  | [], [], a, b, us, vs, o, r, c, _, hz, h, _, _, _, _ => by
    cases a with
    | cons _ _ => cases hz
    | nil =>
      cases b with
      | cons _ _ => cases h
      | nil =>
        simp only [eqLI, Option.some.injEq] at h
        subst h
        rfl
  | [], _ :: _, _, _, _, _, _, _, _, h, _, _, _, _, _, _ => h.elim
  | _ :: _, [], _, _, _, _, _, _, _, h, _, _, _, _, _, _ => h.elim
  | f :: fs, z :: zs, [], b, us, vs, o, r, c, _, hz, _, _, _, _, _ => by cases hz
  | f :: fs, z :: zs, a :: x, [], us, vs, o, r, c, _, _, h, _, _, _, _ => by cases h
  | f :: fs, z :: zs, a :: x, b :: y, us, vs, o, r, c, ⟨t1, t2, t3, t4⟩, hz, h, hu, hv, hxs, hys => by
    obtain ⟨c1, c2, g1, g2, rfl⟩ := eqLI_cons h
    obtain ⟨c3, c4, g3, g4, rfl⟩ := eqLI_cons hz
    obtain ⟨b1, b2⟩ := eqSc_one g1
    obtain ⟨u, us', rfl, _, hu1, hu2⟩ := (CRel.one_iff b1).1 hu
    obtain ⟨v, vs', rfl, _, hv1, hv2⟩ := (CRel.one_iff b2).1 hv
    obtain ⟨k1, k2, _⟩ := sc_field t3 g3 g1 hu1 hv1 d w
    have p1 := run_part_plain (P := P) w k1 (show xs[f.offset]? = some u by rw [t1]; exact hxs 0 u rfl)
    have p2 := run_part_plain (P := P) w k1 (show ys[f.offset]? = some v by rw [t1]; exact hys 0 v rfl)
    have ih := eqF_ok d xs ys w fs zs x y us' vs' (o + 1) c2 c4 t4 g4 g2 hu2 hv2 (fun i u h => by rw [Nat.add_assoc, Nat.add_comm 1 i]; exact hxs (i + 1) u h) (fun i u h => by rw [Nat.add_assoc, Nat.add_comm 1 i]; exact hys (i + 1) u h)
    unfold Op.eqFields
    rw [if_pos t2]
    simp only [Sem.run_bind, p1, p2, k2, Result.andThen_ok]
    cases c1 with
    | false => simp
    | true =>
      simp only [Bool.not_true, Bool.false_eq_true, if_false, Bool.true_and]
      exact ih
theorem chkF_ok (d : Nat) (e : Bool) (xs : Array Value) (w : World) : ∀ (fs : List Field) (zs a : List AV) (us : List Value) (o : Nat) (r c : Bool), ScT P o fs zs → eqLI a zs = some c → eqLI a a = some r → CRel ρ a us →
    (∀ (i : Nat) u, us[i]? = some u → xs[o + i]? = some u) → (forIn fs PUnit.unit (fun f _ => do
      if f.name ≠ "_" then
        let v ← part f.type xs f.offset
        Instr.checkKey e (d + 1) f.type v
        pure (ForInStep.yield PUnit.unit)
      else pure (ForInStep.yield PUnit.unit)) : Sem PUnit).run P w = .ok PUnit.unit w
  | [], [], a, us, o, r, c, _, hz, h, _, _ => by simp
  | [], _ :: _, _, _, _, _, _, h, _, _, _, _ => h.elim
  | _ :: _, [], _, _, _, _, _, h, _, _, _, _ => h.elim
  | f :: fs, z :: zs, [], us, o, r, c, _, hz, _, _, _ => by cases hz
  | f :: fs, z :: zs, a :: x, us, o, r, c, ⟨t1, t2, t3, t4⟩, hz, h, hu, hxs => by
    obtain ⟨c1, c2, g1, g2, rfl⟩ := eqLI_cons h
    obtain ⟨c3, c4, g3, g4, rfl⟩ := eqLI_cons hz
    obtain ⟨b1, b2⟩ := eqSc_one g1
    obtain ⟨u, us', rfl, _, hu1, hu2⟩ := (CRel.one_iff b1).1 hu
    obtain ⟨k1, _, k3⟩ := sc_field t3 g3 g1 hu1 hu1 d w
    have p1 := run_part_plain (P := P) w k1 (show xs[f.offset]? = some u by rw [t1]; exact hxs 0 u rfl)
    have ih := chkF_ok d e xs w fs zs x us' (o + 1) c2 c4 t4 g4 g2 hu2 (fun i u h => by rw [Nat.add_assoc, Nat.add_comm 1 i]; exact hxs (i + 1) u h)
    rw [List.forIn_cons]
    simp only [ne_eq, t2, not_false_eq_true, if_true, Sem.run_bind, p1, k3 e, Result.andThen_ok, Sem.run_pure]
    exact ih
theorem eqLI_self {a b : List AV} {r : Bool} (h : eqLI a b = some r) : ∃ q, eqLI a a = some q := by
  induction a generalizing b r with
  | nil => exact ⟨true, rfl⟩
  | cons x a ih =>
    cases b with
    | nil => cases h
    | cons y b =>
      obtain ⟨c1, c2, g1, g2, _⟩ := eqLI_cons h
      obtain ⟨q, hq⟩ := ih g2
      have : ∃ q1, eqSc x x = some q1 := by
        unfold eqSc at g1 ⊢
        split at g1
        · rename_i p q ha hb
          rw [ha]
          exact ⟨_, if_pos rfl⟩
        · rename_i hni
          split at g1
          · rename_i p q ha hb
            cases hi : intA x with
            | some p' => cases x <;> first | (cases hi; done) | (cases ha; done)
            | none => simp only [ha]; exact ⟨_, rfl⟩
          · cases g1
      obtain ⟨q1, hq1⟩ := this
      refine ⟨q1 && q, ?_⟩
      unfold eqLI
      rw [hq1, hq]
theorem flat_struct {t : TypeId} {fs : Array Field} {n : Nat} {zc : List AV} (ht : P.underlying t = some (.struct fs)) (hp : P.stoodInHeld t = false) (hg : P.eqGuardType P.depth t = false) (hs : ScT P 0 fs.toList zc) : FlatOK P t false n zc := by
  refine ⟨hg, fun ρ a b xs ys r w hl h hx hy => ?_⟩
  obtain ⟨c, hc⟩ := shape_eq hl
  have hf : P.fieldsOf t = fs := by unfold Program.fieldsOf; rw [ht]
  refine ⟨?_, fun _ e => ?_⟩
  · have := run_equalIn_struct (P := P) w 9999 t xs ys (by rw [hf]; exact ht) hp
    rw [show (10000 : Nat) = 9999 + 1 from rfl, this, hf]
    exact eqF_ok 9998 xs ys w fs.toList zc a b _ _ 0 r c hs hc h hx hy (fun i u hu => by rw [Nat.zero_add, ← Array.getElem?_toList]; exact hu) (fun i u hu => by rw [Nat.zero_add, ← Array.getElem?_toList]; exact hu)
  · obtain ⟨q, hq⟩ := eqLI_self h
    have h1 := chkF_ok (P := P) 9998 e xs w fs.toList zc a _ 0 q c hs hc hq hx (fun i u hu => by rw [Nat.zero_add, ← Array.getElem?_toList]; exact hu)
    rw [show (10000 : Nat) = 9999 + 1 from rfl]
    unfold Instr.checkKey
    simp only [Sem.run_bind, run_underlying ht, Result.andThen_ok]
    rw [← Array.forIn_toList]
    exact (congrArg (fun r => Result.andThen r fun _ w' => Sem.run P (pure ()) w') h1).trans rfl
end
end Go.Proofs.YtdbgppknggaooaaGreatDoor.Vm
namespace Go.Proofs.YtdbgppknggaooaaGreatDoor.Vm
open Go Go.RowKit
noncomputable def flatK : Code → List Code
  | .seq x y => flatK x ++ flatK y
  | c => [c]
def wpL (P : Program) (F : Fence) (n : Nat) : List Code → (Exit → Act → World → Prop) → Act → World → Prop
  | [], Q, a, w => Q .normal a w
  | c :: r, Q, a, w => c.wpIn F n P (Exit.then (fun a w => wpL P F n r Q a w) Q) a w
section
variable {P : Program} {F : Fence} {n : Nat} {Q Q' : Exit → Act → World → Prop} {a : Act} {w : World}
theorem wpL_mono : ∀ {l : List Code} {a : Act} {w : World}, wpL P F n l Q a w → (∀ e a w, Q e a w → Q' e a w) → wpL P F n l Q' a w
  | [], _, _, h, hq => hq _ _ _ h
  | _ :: _, _, _, h, hq => wpIn_mono h fun e _ _ h1 => by
    cases e <;> first | exact wpL_mono h1 hq | exact hq _ _ _ h1
theorem wpL_split : ∀ {l m : List Code} {a : Act} {w : World}, wpL P F n (l ++ m) Q a w → wpL P F n l (Exit.then (fun a w => wpL P F n m Q a w) Q) a w
  | [], _, _, _, h => h
  | _ :: _, _, _, _, h => wpIn_mono h fun e _ _ h1 => by
    cases e <;> first | exact wpL_split h1 | exact h1
theorem flat_ok (c : Code) : ∀ {Q : Exit → Act → World → Prop} {a : Act} {w : World}, wpL P F n (flatK c) Q a w → c.wpIn F n P Q a w := by
  have one : ∀ (c : Code) {Q : Exit → Act → World → Prop} {a : Act} {w : World}, wpL P F n [c] Q a w → c.wpIn F n P Q a w := fun c Q a w h => wpIn_mono h fun e _ _ h1 => by cases e <;> exact h1
  induction c with
  | seq x y hx hy =>
    intro Q a w h
    have h1 := wpL_split (show wpL P F n (flatK x ++ flatK y) Q a w from h)
    exact wpIn_seq (wpIn_mono (hx h1) fun e _ _ h2 => by cases e <;> first | exact hy h2 | exact h2)
  | _ => exact fun h => one _ h
end
noncomputable def runL (E : Env) (ev : Ev) : List Code → AAct → M (AExit × AAct)
  | [], a => M.pure (.normal, a)
  | c :: r, a => M.bind (codeC E c ev none a) fun q => bif isNormal q.1 then runL E ev r q.2 else M.pure q
def CodesOK (P : Program) (l : List Code) (a : AAct) (s : St) (q : AExit × AAct) (s' : St) : Prop :=
  ∀ (ρ : Ren) (w : World) (act : Act) (F : Fence) (n : Nat), FOf ρ none F → WRel ρ s.h w → FreshN ρ s.c s'.c → ActR ρ a act → wpL P F n l (Left s s' ρ w q) act w
noncomputable def keepH (h : Tr AObj) : List Nat → List (Nat × AObj)
  | [] => []
  | n :: r =>
    match h.get n with
    | some o => (n, o) :: keepH h r
    | none => keepH h r
noncomputable def ofH : List (Nat × AObj) → Tr AObj
  | [] => .nil
  | p :: r => (ofH r).put p.1 (some p.2)
noncomputable def keepT (T : Tr AV) : List Nat → List (Nat × AV)
  | [] => []
  | k :: r => (k, slotA T k) :: keepT T r
noncomputable def anyT : Nat → Tr AV
  | 0 => .nil
  | n + 1 => (anyT n).put n (some .any)
noncomputable def ofT (n : Nat) : List (Nat × AV) → Tr AV
  | [] => anyT n
  | p :: r => (ofT n r).put p.1 (some p.2)
theorem keepH_get {h : Tr AObj} : ∀ {ns : List Nat} {p : Nat × AObj}, p ∈ keepH h ns → h.get p.1 = some p.2
  | [], _, h1 => by cases h1
  | n :: r, p, h1 => by
    unfold keepH at h1
    cases hn : h.get n with
    | none => rw [hn] at h1; exact keepH_get h1
    | some o =>
      rw [hn] at h1
      rcases List.mem_cons.1 h1 with rfl | h1
      · exact hn
      · exact keepH_get h1
theorem ofH_get {h : Tr AObj} : ∀ {L : List (Nat × AObj)}, (∀ p ∈ L, h.get p.1 = some p.2) → ∀ {n : Nat} {o : AObj}, (ofH L).get n = some o → h.get n = some o
  | [], _, _, _, h2 => by cases h2
  | p :: r, h1, n, o, h2 => by
    unfold ofH at h2
    rw [Tr.get_put] at h2
    by_cases hn : n = p.1
    · rw [if_pos hn] at h2
      rw [hn, h1 p List.mem_cons_self]
      exact h2
    · rw [if_neg hn] at h2
      exact ofH_get (fun q hq => h1 q (List.mem_cons_of_mem _ hq)) h2
section
variable {ρ ρ1 ρ' : Ren} {s s1 s2 s' : St} {w w1 w' : World} {P : Program} {E : Env} {ev : Ev}
theorem anyT_rel (tmps : Array Value) : ∀ (n k : Nat), (k < n ∨ tmps.getD k undef = undef) → VRel ρ (slotA (anyT n) k) (tmps.getD k undef)
  | 0, k, h => by
    rw [h.resolve_left (Nat.not_lt_zero _)]
    exact undef_rel
  | n + 1, k, h => by
    unfold anyT
    rw [slotA_put]
    by_cases hk : k = n
    · rw [if_pos hk]; trivial
    · rw [if_neg hk]
      exact anyT_rel tmps n k (h.imp (fun g => by omega) id)
theorem WRel.less {h h' : Tr AObj} (hw : WRel ρ h w) (hs : ∀ n o, h'.get n = some o → h.get n = some o) : WRel ρ h' w :=
  ⟨fun n o hn => hw.at_ n o (hs n o hn), fun n m p q hn hm => hw.inj n m p q (by obtain ⟨o, ho⟩ := Option.isSome_iff_exists.1 hn; rw [hs n o ho]; rfl) (by obtain ⟨o, ho⟩ := Option.isSome_iff_exists.1 hm; rw [hs m o ho]; rfl)⟩
theorem Loc.runL (hl : LocEv ev) : ∀ (l : List Code) (a : AAct), Loc (runL E ev l a)
  | [], _ => Loc.pure _
  | c :: r, a => Loc.bind (Loc.codeC hl c none a) fun q => Loc.cond (Loc.runL hl r q.2) (Loc.pure _)
theorem runL_ok (hE : EnvAll E P) (hev : EvOK P ev) (hl : LocEv ev) : ∀ (l : List Code) (a : AAct) (s : St) (q : AExit × AAct) (s' : St), runL E ev l a s = .ok q s' → CodesOK P l a s q s'
  | [], a, s, q, s', h => by
    obtain ⟨rfl, rfl⟩ := M.pure_ok.1 h
    intro ρ w act F n hF hw hf ha
    exact ⟨ρ, .normal, ha, hw, Stp.alike (Alike.refl _)⟩
  | c :: r, a, s, q, s', h => by
    obtain ⟨q1, s1, h1, h2⟩ := M.bind_ok.1 h
    intro ρ w act F n hF hw hf ha
    have c1 := (Loc.codeC hl c none a).le h1
    cases hn : isNormal q1.1 with
    | false =>
      rw [bif_false _ _ hn] at h2
      obtain ⟨rfl, rfl⟩ := M.pure_ok.1 h2
      refine wpIn_mono (code_ok hE hev hl c none a s _ _ h1 ρ w act F n hF hw hf ha) (fun e act1 w1 hleft => ?_)
      obtain ⟨ρ1, g1, g2, g3, g4⟩ := hleft
      exact ExR.other g1 hn ⟨ρ1, g1, g2, g3, g4⟩
    | true =>
      rw [bif_true _ _ hn] at h2
      have c2 := (Loc.runL hl r q1.2).le h2
      refine wpIn_mono (code_ok hE hev hl c none a s q1 s1 h1 ρ w act F n hF hw (hf.sub (Nat.le_refl _) c2) ha) (fun e act1 w1 hleft => ?_)
      obtain ⟨ρ1, g1, g2, g3, g4⟩ := hleft
      rw [isNormal_iff.1 hn] at g1
      rw [g1.normal_of]
      exact wpL_mono (runL_ok hE hev hl r q1.2 s1 q s' h2 ρ1 w1 act1 F n (hF.mono g4.le) g3 (hf.step g4 c1) g2) (fun e act2 w2 hl2 => Left.pre g4 c1 c2 hl2)
end
noncomputable def bodyOf (fn : Func) : Code :=
  match fn.body with
  | some c => c
  | none => .skip
end Go.Proofs.YtdbgppknggaooaaGreatDoor.Vm
namespace Go.Proofs.YtdbgppknggaooaaGreatDoor.Vm
open Go Go.RowKit
noncomputable def cutV (ns : List Nat) : Rs AV → Option (AV × List (Nat × AObj) × Nat)
  | .err _ => none
  | .ok v s => some (v, keepH s.h ns, s.c)
noncomputable def endR (E : Env) (ev : Ev) (rs : List ResultVar) (l : List Code) (a : AAct) : M (List AV) :=
  M.bind (runL E ev l a) fun q => bif isExit q.1 then M.fail "exit" else M.bind (leaveM E ev q.2.d) fun _ => resM E q.2.t rs
def isTrue : AV → Bool
  | .bool b => b
  | _ => false
def endsTrue : Rs (List AV) → Bool
  | .err _ => false
  | .ok vs _ =>
    match vs with
    | [] => false
    | v :: r =>
      match r with
      | [] => isTrue v
      | _ :: _ => false
section
variable {P : Program} {E : Env} {ρ : Ren}
theorem calledH (hE : EnvAll E P) {m c : Nat} {f : FuncId} {args : List AV} {v : AV} {ns : List Nat} {H : List (Nat × AObj)} (h : cutV ns ((evN E m).call f args (.mk .nil 0 [] [])) = some (v, H, c)) {us : Array Value} (hu : LRel noRen args us.toList) (w : World) :
    Calls P f us w (fun e w' => ∃ ρ u, e = .returned u ∧ VRel ρ v u ∧ WRel ρ (ofH H) w' ∧ (∀ n, c ≤ n → ρ n = none) ∧ (∀ q, Own (ofH H) ρ q → w.heap.size ≤ q) ∧ Below w.heap.size w w') := by
  unfold cutV at h
  split at h
  · cases h
  · rename_i v0 s' hr
    simp only [Option.some.injEq, Prod.mk.injEq] at h
    obtain ⟨rfl, rfl, rfl⟩ := h
    have hc := ((evN_ok hE m).call _ _ _ _ _ hr).2 noRen w us 0 ⟨fun n o ho => (by cases ho), fun n m p q hn => (by cases hn)⟩ (fun _ _ _ => rfl) hu
    refine Calls.mono (callsIn_wide.1 hc) ?_
    rintro e w' ⟨ρ, u, rfl, h1, h2, h3⟩
    have hsub : ∀ k o, (ofH (keepH s'.h ns)).get k = some o → s'.h.get k = some o := fun k o => ofH_get (fun p hp => keepH_get hp)
    refine ⟨ρ, u, rfl, h1, h2.less hsub, fun n hn => by rw [h3.ext n (by omega)]; rfl, fun q ⟨n, p, g1, g2, g3⟩ => ?_, ⟨h3.os, h3.tape, h3.output, h3.size, fun q hq => h3.block q hq ?_⟩⟩
    · have g4 : (s'.h.get n).isSome = true := by
        obtain ⟨o, ho⟩ := Option.isSome_iff_exists.1 g1
        rw [hsub n o ho]
        rfl
      rcases h3.own q ⟨n, p, g4, g2, g3⟩ with ⟨n', p', k1, _⟩ | k
      · cases k1
      · exact k
    · rintro ⟨n, p, hn, _⟩
      cases hn
theorem ofT_rel {tmps : Array Value} {n : Nat} (hs : tmps.size = n) : ∀ {T : List (Nat × AV)}, (∀ p ∈ T, VRel ρ p.2 (tmps.getD p.1 undef)) → TRel ρ (ofT n T) n tmps
  | [], _ => ⟨hs, fun k => by
    refine anyT_rel tmps n k ?_
    rcases Nat.lt_or_ge k n with g | g
    · exact .inl g
    · exact .inr (by simp [Array.getD, show ¬ k < tmps.size by rw [hs]; omega])⟩
  | p :: T, h => ⟨hs, fun k => by
    show VRel ρ (slotA ((ofT n T).put p.1 (some p.2)) k) _
    rw [slotA_put]
    by_cases hk : k = p.1
    · rw [if_pos hk, hk]
      exact h p List.mem_cons_self
    · rw [if_neg hk]
      exact (ofT_rel hs fun q hq => h q (List.mem_cons_of_mem _ hq)).2 k⟩
theorem runH (hE : EnvAll E P) {m c n : Nat} {fn : Func} {l : List Code} {T : List (Nat × AV)} {H : List (Nat × AObj)} (h : endsTrue (endR E (evN E m) fn.results.toList l (.mk (ofT n T) n []) (.mk (ofH H) c [] [])) = true)
    {w0 w : World} {act : Act} (hw : WRel ρ (ofH H) w) (hf : ∀ n, c ≤ n → ρ n = none) (ho : ∀ q, Own (ofH H) ρ q → w0.heap.size ≤ q) (hs : act.tmps.size = n) (hT : ∀ p ∈ T, VRel ρ p.2 (act.tmps.getD p.1 undef)) (hd : act.defers = []) (hb : Below w0.heap.size w0 w)
    {code : Code} (hl : flatK code = l) : code.wp P (bodyPostM Fence.wide 0 P fn (fun e w' => e = .returned (.bool true) ∧ Below w0.heap.size w0 w')) act w := by
  subst hl
  have hev := evN_ok hE m
  have hlo := locEv hE.orcLoc m
  unfold endsTrue at h
  split at h
  · cases h
  · rename_i vs s3 hr
    split at h
    · cases h
    · rename_i v r
      split at h
      rotate_left
      · cases h
      obtain ⟨⟨ex, aa⟩, s1, h1, h2⟩ := M.bind_ok.1 hr
      simp only at h2
      cases he : isExit ex with
      | true => rw [bif_true _ _ he] at h2; exact (M.fail_ok.1 h2).elim
      | false =>
        rw [bif_false _ _ he] at h2
        obtain ⟨_, s2, h3, h4⟩ := M.bind_ok.1 h2
        have c1 := (Loc.runL hlo _ _).le h1
        refine (wpIn_wide (n := 0)).1 (wpIn_mono (flat_ok code (runL_ok hE hev hlo _ _ _ _ _ h1 ρ w act Fence.wide 0 rfl hw (fun j h1 _ => hf j h1) ⟨ofT_rel hs hT, by rw [hd]; rfl⟩)) ?_)
        rintro x act1 w1 ⟨ρ1, g1, g2, g3, g4⟩
        have hfr : FreshN ρ1 s1.c s2.c := fun j k1 k2 => by
          rw [g4.ext j (by omega)]
          exact hf j (Nat.le_trans c1 k1)
        have hleave : LeavesInM Fence.wide 0 P fn act1.tmps (fun e w' => e = .returned (.bool true) ∧ Below w0.heap.size w0 w') act1.defers .returning w1 := by
          refine leave_ok (s0 := .mk (ofH H) c [] []) (ρ0 := ρ) (w0 := w) hE hev hlo aa.d act1.defers s1 ρ1 w1 h3 g2.d g3 hfr g4 c1 (fun ρ' w' hle' hw' hst' => ?_)
          obtain ⟨al, u, e1, e2⟩ := results_rel (P := P) hE.toEnvOK h4 (g2.t.mono hle') hw'
          have e3 : VRel ρ' v u := e2
          have e4 : u = .bool true := by
            cases v <;> simp only [isTrue, Bool.false_eq_true] at h
            subst h
            exact e3
          subst e4
          refine ⟨_, e1, rfl, hst'.os.trans hb.os, hst'.tape.trans hb.tape, hst'.output.trans hb.output, Nat.le_trans hb.size hst'.size, fun k hk => ?_⟩
          rw [hst'.block k (Nat.lt_of_lt_of_le hk hb.size) (fun k1 => absurd (ho k k1) (by omega))]
          exact hb.block k hk
        cases g1 with
        | normal => exact hleave
        | ret => exact hleave
        | exit i => cases he
end
end Go.Proofs.YtdbgppknggaooaaGreatDoor.Vm
namespace Go.Proofs.YtdbgppknggaooaaGreatDoor.Vm
open Go Go.RowKit
attribute [local go_sem] Oper.semAt_some
theorem calm_ask (args : Array Value) (w : World) (n : Nat) : CallsDIn Fence.wide n Tryz.prog 275 args .returning w (fun e u' w' => (∃ v, e = .returned v) ∧ u' = .returning ∧ Quiet w w') := by
  refine callsDIn_of_wpSIn Tryz.func275 rfl trivial (fun c₀ cs hu => ?_)
  have hz : ∃ T : Array Value, T = args ++ Array.replicate (Tryz.f275.ntmps - args.size) undef ∧ 5 ≤ T.size := ⟨_, rfl, by rw [Tryz.ntmps275]; simp; omega⟩
  obtain ⟨T, hT, hTs⟩ := hz
  rw [← hT]
  have h2 : 2 < T.size := by omega
  have h3 : 3 < T.size := by omega
  apply wpSIn_seq
  apply wpSIn_region
  simp [wpOpsSIn, go_sem, recoverD, hu, Exit.thenS, h2]
  refine wpSIn_cond (t := false) (by simp [Act.eval, h3]) ?_
  simp only [Bool.false_eq_true, if_false]
  refine wpSIn_of_wpIn rfl (wpIn_skip ?_)
  cases c₀
  simp_all [bodyPostS, results, Tryz.results275, Quiet]
theorem calm_force (args : Array Value) (w : World) (n : Nat) : CallsDIn Fence.wide n Tryz.prog 276 args .returning w (fun e u' w' => (∃ v, e = .returned v) ∧ u' = .returning ∧ Quiet w w') := by
  refine callsDIn_of_wpSIn Tryz.func276 rfl trivial (fun c₀ cs hu => ?_)
  have hz : ∃ T : Array Value, T = args ++ Array.replicate (Tryz.f276.ntmps - args.size) undef ∧ 3 ≤ T.size := ⟨_, rfl, by rw [Tryz.ntmps276]; simp; omega⟩
  obtain ⟨T, hT, hTs⟩ := hz
  rw [← hT]
  have h2 : 1 < T.size := by omega
  have h3 : 2 < T.size := by omega
  apply wpSIn_seq
  apply wpSIn_region
  simp [wpOpsSIn, go_sem, recoverD, hu, Exit.thenS, h2]
  refine wpSIn_cond (t := false) (by simp [Act.eval, h3]) ?_
  simp only [Bool.false_eq_true, if_false]
  refine wpSIn_of_wpIn rfl (wpIn_skip ?_)
  cases c₀
  simp_all [bodyPostS, results, Tryz.results276, Quiet]
theorem calm_usable (args : Array Value) (w : World) (n : Nat) : CallsDIn Fence.wide n Tryz.prog 271 args .returning w (fun e u' w' => (∃ v, e = .returned v) ∧ u' = .returning ∧ Quiet w w') := by
  refine callsDIn_of_wpSIn Tryz.func271 rfl trivial (fun c₀ cs hu => ?_)
  have hz : ∃ T : Array Value, T = args ++ Array.replicate (Tryz.f271.ntmps - args.size) undef ∧ 3 ≤ T.size := ⟨_, rfl, by rw [Tryz.ntmps271]; simp; omega⟩
  obtain ⟨T, hT, hTs⟩ := hz
  rw [← hT]
  have h2 : 1 < T.size := by omega
  have h3 : 2 < T.size := by omega
  apply wpSIn_seq
  apply wpSIn_region
  simp [wpOpsSIn, go_sem, recoverD, hu, Exit.thenS, h2]
  refine wpSIn_cond (t := false) (by simp [Act.eval, h3]) ?_
  simp only [Bool.false_eq_true, if_false]
  refine wpSIn_of_wpIn rfl (wpIn_skip ?_)
  cases c₀
  simp_all [bodyPostS, results, Tryz.results271, Quiet]
end Go.Proofs.YtdbgppknggaooaaGreatDoor.Vm
namespace Go.Proofs.YtdbgppknggaooaaGreatDoor.Vm
open Go
theorem meth_force (v : Value) (w : World) : (method (Tryz.prog.types.size + Made.depth) 52 v "Force").run Tryz.prog w = .ok (323, v) w := by
  obtain ⟨k, hk⟩ : ∃ k, Tryz.prog.types.size + Made.depth = k + 1 := ⟨Tryz.prog.types.size + Made.depth - 1, by have : 52 < Tryz.prog.types.size := (Array.getElem?_eq_some_iff.1 Tryz.type52).1; omega⟩
  rw [hk, method]
  simp [Tryz.typeInfo52, Tryz.t52, follow, receiverAt, Tryz.runUnderlying52, Place.get]
end Go.Proofs.YtdbgppknggaooaaGreatDoor.Vm
