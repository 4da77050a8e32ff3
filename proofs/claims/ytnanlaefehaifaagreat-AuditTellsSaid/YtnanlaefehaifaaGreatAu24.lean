/-
  Texts of this claim, joined: ES, ET, EV, EW.
-/
import Derived.Maps.Range
import Derived.Test.YtnanlaefehaifaaGreatAu23
set_option maxHeartbeats 6400000
set_option maxRecDepth 100000
namespace Go.Proofs.YtnanlaefehaifaaGreat
open Go.RowKit Go.Maps Go.WideElems Go.WideShapes
theorem flat_len512 : ∀ {l : List (List UInt8)}, (∀ p ∈ l, p.length = 512) → (l.flatMap (fun p => p.map byteV)).length = l.length * 512
  | [], _ => rfl
  | x :: l, h => by
    rw [List.flatMap_cons, List.length_append, List.length_map, h x List.mem_cons_self, flat_len512 (fun p hp => h p (List.mem_cons_of_mem _ hp)), List.length_cons]
    omega
theorem flat_at512 {l : List (List UInt8)} (h : ∀ p ∈ l, p.length = 512) (i : Nat) : (l.flatMap (fun p => p.map byteV))[i]? = (l[i / 512]?).bind fun p => (p.map byteV)[i % 512]? := by
  by_cases hi : i / 512 < l.length
  · obtain ⟨p, hp⟩ : ∃ p, l[i / 512]? = some p := ⟨_, List.getElem?_eq_getElem hi⟩
    have hpl := h p (List.mem_of_getElem? hp)
    obtain ⟨u, hu⟩ : ∃ u, (p.map byteV)[i % 512]? = some u := ⟨_, List.getElem?_eq_getElem (by rw [List.length_map, hpl]; omega)⟩
    have := flat_pages h hp (i % 512) u hu
    rw [show i / 512 * 512 + i % 512 = i by omega] at this
    rw [this, hp]
    exact hu.symm
  · rw [List.getElem?_eq_none (by rw [flat_len512 h]; omega), List.getElem?_eq_none (by omega)]
    rfl
def safeN (safe : List (List UInt8)) (wr : Nat → List (List UInt8)) : List (List UInt8) := (List.range safe.length).map (pgOf safe wr)
theorem safeN_length (safe : List (List UInt8)) (wr : Nat → List (List UInt8)) : (safeN safe wr).length = safe.length := by unfold safeN; rw [List.length_map, List.length_range]
theorem safeN_at {safe : List (List UInt8)} {wr : Nat → List (List UInt8)} {i : Nat} (h : i < safe.length) : (safeN safe wr)[i]? = some (pgOf safe wr i) := by
  unfold safeN
  rw [List.getElem?_map, List.getElem?_range h]
  rfl
def SyncP (w : World) (d g m n : Nat) (fuse : Int) (lv : Value) (stale head sure : Int) (safe : List (List UInt8)) (wr : Nat → List (List UInt8)) (w' : World) : Prop :=
  DevS w' d g m n false fuse lv stale head sure (safeN safe wr) 0 (fun _ => none) (fun _ => []) ∧ Turn (fun q => q = d ∨ q = g ∨ q = m) w w'
theorem mapF_none {W : World} {m clock : Nat} (h : W.heap[m]? = some (.map #[] clock)) : MapF W m 0 (fun _ => none) :=
  ⟨.map [], ⟨#[], clock, h, ⟨by simp, MapKept.stamped_empty clock, fun x hx => by simp at hx⟩, Nat.le_refl _, rfl⟩, fun _ => ⟨rfl, fun _ h => by cases h⟩⟩
theorem devsync_any (w : World) (d g m n : Nat) (fuse : Int) (lv : Value) (stale head sure : Int) (safe : List (List UInt8)) (k : Nat) (mf : Int → Option Value) (wr : Nat → List (List UInt8)) (h : DevS w d g m n false fuse lv stale head sure safe k mf wr)
    (hmf : ∀ p v, mf p = some v → ∃ i : Nat, p = (i : Int) ∧ i < n ∧ 0 < (wr i).length ∧ (wr i).length ≤ 1000000) :
    Calls Tryz.prog 207 #[.pointer (some ⟨d, 0, none⟩)] w fun e w' => (∃ v, e = .returned v) ∧ SyncP w d g m n fuse lv stale head sure safe wr w' := by
  obtain ⟨o, kd⟩ := h.kd
  obtain ⟨D, ⟨es, clock, hb, F, hs, hD⟩, hf⟩ := h.hm
  have hst := (MapKept.stamped_iff es clock).1 F.stamped
  have K := keyInt
  have hdg : d ≠ g := kd.ne_ h.kg (by decide)
  have hpl : ∀ p ∈ safeN safe wr, p.length = 512 := by
    intro p hp
    unfold safeN at hp
    obtain ⟨i, hi, rfl⟩ := List.mem_map.1 hp
    exact pgOf_length h (by have := List.mem_range.1 hi; rw [h.sn] at this; exact this)
  have hent : ∀ x ∈ es.toList, ∃ i : Nat, x.key = .int .i64 (i : Int) ∧ mf (i : Int) = some x.val ∧ i < n ∧ 0 < (wr i).length ∧ (wr i).length ≤ 1000000 := by
    intro x hx
    obtain ⟨y, hy⟩ := F.reads x hx
    have hkey := rd_key hy
    obtain ⟨p, e1, e2, e3⟩ := Maps.keyOf_int_inv Tryz.underlying3 hkey
    obtain ⟨z, hz, hzd⟩ := rd_val hy
    have hrg := rg_of hy
    have hk : WideAt.IsKeyLit y.1 := K.key hkey
    have hat : ∀ zd, D.atKey (.int .i64 p) zd = .held x.val := fun zd => by
      rw [← e2, hD, (atKey_sorted (es.toList.map (rg Tryz.prog 3 heldV)) (Maps.fit_rising K F) y.1 hk).2 (rg Tryz.prog 3 heldV x) (List.mem_map.2 ⟨x, hx, rfl⟩) (by rw [hrg]), hrg, hzd]
      rw [← Option.some.inj (show some (DataW.held x.val, ([] : List MemPlace)) = some z from hz)]
    have hhas : Maps.has D (.int .i64 p) = true := has_true_of_atKey hat
    rw [(hf p).1] at hhas
    obtain ⟨v, hv⟩ := Option.isSome_iff_exists.1 hhas
    have hv2 := (hf p).2 v hv .nil
    rw [hat] at hv2
    injection hv2 with hv2
    obtain ⟨i, rfl, g1, g2, g3⟩ := hmf p v hv
    exact ⟨i, e1, by rw [hv, hv2], g1, g2, g3⟩
  have hT := flat_len512 hpl
  rw [safeN_length, h.sn] at hT
  have hG := flat_len512 h.sl
  rw [h.sn] at hG
  have hmain := Vm.sync_any w d 0 g 0 n n m 107 63 _ _ ((safeN safe wr).flatMap (fun p => p.map byteV)).toArray es clock kd rfl rfl hdg h.kg hb (by rw [List.size_toArray, List.size_toArray, hT, hG]) ?c1 ?c2 hst.1 hst.2.1
  case c1 =>
    intro i hi
    rw [List.getElem?_toArray, List.getElem?_toArray, flat_at512 hpl, flat_at512 h.sl]
    by_cases hin : i / 512 < safe.length
    · have hz : (wr (i / 512)).length = 0 := by
        cases hm0 : mf ((i / 512 : Nat) : Int) with
        | none =>
          have := h.fw (i / 512)
          rw [hm0] at this
          obtain ⟨A', c', e, _⟩ := own_slice this
          injection e with _ e _
          exact e.symm
        | some v =>
          exfalso
          have hhas : Maps.has D (.int .i64 ((i / 512 : Nat) : Int)) = true := by rw [(hf _).1, hm0]; rfl
          rw [hD, has_eq] at hhas
          obtain ⟨p, hp, hpk⟩ := List.any_eq_true.1 hhas
          obtain ⟨x, hx, rfl⟩ := List.mem_map.1 (mem_sorted.1 hp)
          obtain ⟨q, e1, _⟩ := hent x hx
          obtain ⟨y, hy⟩ := F.reads x hx
          obtain ⟨p', f1, f2, f3⟩ := Maps.keyOf_int_inv Tryz.underlying3 (rd_key hy)
          have hke := WideAt.sameKey_eq hpk
          rw [rg_of hy, f2] at hke
          rw [f1] at e1
          injection e1 with _ e1
          injection hke with _ hke
          refine hi ⟨x, hx, q, by rw [f1, e1], ?_, ?_⟩ <;> omega
      rw [safeN_at hin, List.getElem?_eq_getElem hin]
      have : pgOf safe wr (i / 512) = safe[i / 512] := by
        unfold pgOf
        rw [if_pos hz, List.getD_eq_getElem?_getD, List.getElem?_eq_getElem hin]
        rfl
      rw [this]
    · rw [List.getElem?_eq_none (by rw [safeN_length]; omega), List.getElem?_eq_none (by omega)]
  case c2 =>
    intro x hx
    obtain ⟨i, e1, e2, e3, e4, e5⟩ := hent x hx
    have hfw := h.fw i
    rw [e2, Option.getD_some] at hfw
    obtain ⟨q1, q2⟩ := hfw
    have hlen : pgOf safe wr i = (wr i).getD ((wr i).length - 1) [] := by unfold pgOf; rw [if_neg (by omega)]
    have hpgl : (pgOf safe wr i).length = 512 := pgOf_length h e3
    rcases q2 with ⟨q2, q3⟩ | ⟨gr, cap, cur, q2, q3, q4, q5, q6, q7, q8⟩
    · omega
    · refine ⟨i, pgOf safe wr i, e1, e3, by rw [List.size_toArray, hG]; omega, hpgl, fun j u hu => ?_, gr, 0, (wr i).length, cap, 63, cur, q2, e4, e5, fun e => ?_, q4, fun j u hu => ?_⟩
      · rw [Nat.zero_add, List.getElem?_toArray]
        exact flat_pages hpl (safeN_at (by rw [h.sn]; exact e3)) j u hu
      · refine h.gw i ?_
        rw [e2, Option.getD_some, q2, e]
        rfl
      · rw [Nat.zero_add]
        have hpg : (wr i)[(wr i).length - 1]? = some (pgOf safe wr i) := by
          rw [hlen, List.getD_eq_getElem?_getD, List.getElem?_eq_getElem (by omega)]
          rfl
        have hfl := flat_pages (h.wl i) hpg j u hu
        have hj : j < 512 := by
          have := (List.getElem?_eq_some_iff.1 hu).1
          rw [List.length_map, hpgl] at this
          exact this
        rw [← q8, List.getElem?_take_of_lt (by omega)] at hfl
        simpa using hfl
  refine hmain.mono ?_
  rintro e w' ⟨rfl, hbw⟩
  refine ⟨⟨_, rfl⟩, ?_⟩
  have hgl := h.kg.lt
  have hml := h.hm.lt
  have hdm : d ≠ m := h.hm.ne kd
  have hgm : g ≠ m := h.hm.ne h.kg
  have hz : (Vm.syW w g m 63 ((safeN safe wr).flatMap (fun p => p.map byteV)).toArray clock).heap.size = w.heap.size := by simp [Vm.syW]
  have hne : ∀ q, q < w.heap.size → q ≠ g → q ≠ m → w'.heap[q]? = w.heap[q]? := fun q hq h1 h2 => by
    rw [hbw.block q (by rw [hz]; exact hq)]
    unfold Vm.syW
    dsimp only
    rw [Array.getElem?_setIfInBounds_ne (Ne.symm h2), Array.getElem?_setIfInBounds_ne (Ne.symm h1)]
  have hg' : Blk w' g 63 ((safeN safe wr).flatMap (fun p => p.map byteV)).toArray := by
    show w'.heap[g]? = _
    rw [hbw.block g (by rw [hz]; exact hgl)]
    unfold Vm.syW
    dsimp only
    rw [Array.getElem?_setIfInBounds_ne (Ne.symm hgm), Array.getElem?_setIfInBounds_self_of_lt hgl]
  have hm' : w'.heap[m]? = some (.map #[] clock) := by
    rw [hbw.block m (by rw [hz]; exact hml)]
    unfold Vm.syW
    dsimp only
    rw [Array.getElem?_setIfInBounds_self_of_lt (by rw [Array.size_setIfInBounds]; exact hml)]
  have hd' : Blk w' d 107 _ := (hne d kd.lt hdg hdm).trans kd
  refine ⟨⟨⟨o, hd'⟩, hg', by rw [safeN_length, h.sn], hpl, mapF_none hm', fun i p hp => (by cases hp), fun i => World.ownsRow_nil _ _ _ _, fun i e => (by cases e), fun i j _ q hq => (by cases hq)⟩, ⟨hbw.os, hbw.tape, hbw.output, by have := hbw.size; rw [hz] at this; exact this, fun q hq hs => hne q hq (fun e => hs (.inr (.inl e))) (fun e => hs (.inr (.inr e)))⟩⟩
theorem DevS.drv {w w' : World} {d g m n : Nat} {fs : Bool} {fuse : Int} {lv : Value} {stale head sure : Int} {safe : List (List UInt8)} {k : Nat} {mf : Int → Option Value} {wr : Nat → List (List UInt8)} (h : DevS w d g m n fs fuse lv stale head sure safe k mf wr) {o' : Int} (hw : w' = w.setCell ⟨d, 9, none⟩ (.int .i64 o')) : DevS w' d g m n fs fuse lv stale head sure safe k mf wr := by
  obtain ⟨o, kd⟩ := h.kd
  subst hw
  exact h.turnd (Turn.set (S := fun q => q = d) (Turn.of_below (Below.refl w.heap.size w)) (p := ⟨d, 9, none⟩) (.inl rfl) _) ⟨o', kd.set_ 9 _⟩
theorem devSync_any (w : World) (d g m n : Nat) (fuse : Int) (lv : Value) (stale head sure : Int) (safe : List (List UInt8)) (k : Nat) (mf : Int → Option Value) (wr : Nat → List (List UInt8)) (h : DevS w d g m n false fuse lv stale head sure safe k mf wr)
    (hmf : ∀ p v, mf p = some v → ∃ i : Nat, p = (i : Int) ∧ i < n ∧ 0 < (wr i).length ∧ (wr i).length ≤ 1000000) :
    Calls Tryz.prog 151 #[.pointer (some ⟨d, 0, none⟩)] w fun e w' => e = .returned (.int .i64 0) ∧ SyncP w d g m n fuse lv stale head sure safe wr w' := by
  have hmk : ∀ (fn : Fn) (first cap : Array Value) (w : World), (Instr.makeFunc fn first cap).run Tryz.prog w = .ok (.func fn first cap) w := fun _ _ _ _ => rfl
  have hb1 : Below w.heap.size w (w.alloc (.cells #[.pointer (some ⟨d, 0, none⟩)] 28)) := (Below.refl _ _).alloc (Nat.le_refl _) _
  have h1 := h.via hb1
  have kb := Blk.new w 28 #[.pointer (some ⟨d, 0, none⟩)]
  have hdl := h.lt d (.inl rfl)
  have hgl := h.lt g (.inr (.inl rfl))
  have hml := h.lt m (.inr (.inr (.inl rfl)))
  obtain ⟨o, kd⟩ := h.kd
  have hact := devsync_any _ d g m n fuse lv stale head sure safe k mf wr h1 hmf
  have hR : DoRF w.heap.size d false fuse (fun W => SyncP (w.alloc (.cells #[.pointer (some ⟨d, 0, none⟩)] 28)) d g m n fuse lv stale head sure safe wr W) := by
    rintro W ⟨g1, g2⟩
    obtain ⟨o5, kd5⟩ := g1.kd
    refine ⟨g2.blk kb (fun hq => ?_), _, o5, kd5, rfl, rfl, rfl⟩
    rcases hq with e | e | e <;> omega
  have HD := hide (doF_any d 207 (.pointer (some ⟨d, 0, none⟩)) _ false fuse _ w kd rfl rfl rfl (fun h => by cases h) hR (fun W => by simp [go_sem]) hact)
  have HF := hide (show ∀ w', (∃ W, SyncP (w.alloc (.cells #[.pointer (some ⟨d, 0, none⟩)] 28)) d g m n fuse lv stale head sure safe wr W ∧ doneW false d fuse W w') → SyncP w d g m n fuse lv stale head sure safe wr w' from by
    rintro w' ⟨W, ⟨g1, g2⟩, o', hw'⟩
    obtain rfl : w' = W.setCell ⟨d, 9, none⟩ (.int .i64 o') := hw'
    exact ⟨g1.drv rfl, Turn.set (S := fun q => q = d ∨ q = g ∨ q = m) ((Turn.of_below hb1).trans g2) (p := ⟨d, 9, none⟩) (.inl (.inl rfl)) _⟩)
  clear hact hR kb h1 hb1 kd
  go_enter Tryz.func151, Tryz.ntmps151
  go_wp2_with fail
  refine HD.out.mono ?_
  rintro e w' ⟨rfl, hw'⟩
  have HL := hide (HF.out w' hw')
  clear hw'
  go_wp2
  go_ret
  exact ⟨rfl, HL.out⟩
end Go.Proofs.YtnanlaefehaifaaGreat
namespace Go.Proofs.YtnanlaefehaifaaGreat
open Go.RowKit Go.Maps
def fmtU (x : ConfD) (no : Nat) : List UInt8 := if no = 0 then metaPg x else withB zPg 12 2 (no : Nat)
theorem metaPg_length (x : ConfD) : (metaPg x).length = 512 := withB_length (withB_length (withB_length zPg_length (by omega) _) (by omega) _) (by omega) _
theorem fmtU_length (x : ConfD) (no : Nat) : (fmtU x no).length = 512 := by
  unfold fmtU
  split
  · exact metaPg_length x
  · exact withB_length zPg_length (by omega) _
def wrQ (x : ConfD) (j : Nat) : Nat → List (List UInt8) := fun no => if no < j then [sealB (fmtU x no)] else []
theorem wrQ_next (x : ConfD) (j : Nat) : (fun no => if no = j then wrQ x j j ++ [sealB (fmtU x j)] else wrQ x j no) = wrQ x (j + 1) := by
  funext no
  unfold wrQ
  by_cases h : no = j
  · subst h
    rw [if_pos rfl, if_neg (by omega), if_pos (by omega)]
    rfl
  · rw [if_neg h]
    by_cases h1 : no < j
    · rw [if_pos h1, if_pos (by omega)]
    · rw [if_neg h1, if_neg (by omega)]
theorem wrQ_len (x : ConfD) (j no : Nat) : (wrQ x j no).length ≤ 1 := by
  unfold wrQ
  split
  · exact Nat.le_refl _
  · exact Nat.zero_le _
def DGM (d g m q : Nat) : Prop := q = d ∨ q = g ∨ q = m
theorem Turn.into {S S' : Nat → Prop} {a b c : World} (h : Turn S a b) (k : Turn S' b c) (hS : ∀ q, S' q → S q ∨ a.heap.size ≤ q) : Turn S a c :=
  ⟨k.os.trans h.os, k.tape.trans h.tape, k.output.trans h.output, Nat.le_trans h.size k.size, fun q hq hn => (k.block q (Nat.lt_of_lt_of_le hq h.size) (fun hs => by
    rcases hS q hs with e | e
    · exact hn e
    · omega)).trans (h.block q hq hn)⟩
theorem DevS.otherF {w : World} {d g m n : Nat} {fs : Bool} {fuse : Int} {lv : Value} {stale head sure : Int} {safe : List (List UInt8)} {k : Nat} {mf : Int → Option Value} {wr : Nat → List (List UInt8)} (h : DevS w d g m n fs fuse lv stale head sure safe k mf wr) {q : Nat} {t : TypeId} {cur : Array Value} (k' : Blk w q t cur) (h1 : t ≠ 107) (h2 : t ≠ 63) : ¬ DevB d g m mf q := by
  obtain ⟨o, kd⟩ := h.kd
  rintro (e | e | e | ⟨i, e⟩)
  · exact k'.ne_ kd h1 e
  · exact k'.ne_ h.kg h2 e
  · exact h.hm.ne k' e
  · obtain ⟨cur2, e2⟩ := row_obj (h.fw i) e
    exact k'.ne_ (show Blk w q 63 cur2 from e2) h2 rfl
theorem Turn.setRowT (w : World) (g : Nat) (cs : Array Value) : Turn (fun q => q = g) w (w.setRow g cs) :=
  have t := touch_setRow w g cs
  ⟨t.os, t.tape, t.output, Nat.le_of_eq t.size.symm, fun k _ hn => t.block k (by rcases Nat.lt_trichotomy k g with h | h | h; exact .inl h; exact absurd h hn; exact .inr h)⟩
theorem metaFormat_any (x : ConfD) (hx : confOk x = true) (w : World) (d g m n : Nat) (fuse : Int) (stale head sure : Int) (lv : Value) (safe : List (List UInt8)) (k0 : Nat) (hk0 : k0 ≤ 1000) (h : DevS w d g m n false fuse lv stale head sure safe k0 (fun _ => none) (fun _ => [])) (hp : x.p ≤ n) (hn : n ≤ 1024) :
    Calls Tryz.prog 95 #[.pointer (some ⟨d, 0, none⟩), confV x] w fun e w' => e = .returned (.int .i64 0) ∧ DevS w' d g m n false fuse lv stale head sure (safeN safe (wrQ x (x.b.toNat + 1))) 0 (fun _ => none) (fun _ => []) ∧ Turn (DGM d g m) w w' := by
  have hx2 := of_decide_eq_true (show decide _ = true from hx)
  obtain ⟨xb, xp, xf, xc, xl⟩ := x
  dsimp only at hx2 hp
  obtain ⟨b, rfl⟩ : ∃ b : Nat, xb = b := ⟨xb.toNat, by omega⟩
  have hb1 : 1 ≤ b := by omega
  have hb16 : b ≤ 16 := by omega
  have hbp : (b : Int) < xp := by omega
  have HCK := hide (fun W => metaCheck_any ⟨b, xp, xf, xc, xl⟩ W)
  have HMN0 := hide (fun W => metaNew_any ⟨b, xp, xf, xc, xl⟩ hx W)
  have hce : confE ⟨b, xp, xf, xc, xl⟩ = 0 := by unfold confE; rw [if_pos hx]
  rw [hce] at HCK
  have HS := hide h
  rw [show (⟨(b : Int), xp, xf, xc, xl⟩ : ConfD).b.toNat = b from Int.toNat_natCast b]
  clear h hx hx2 hce
  unfold confV at *
  dsimp only at *
  go_enter Tryz.func95, Tryz.ntmps95
  go_upto_region 1 with (fail)
  refine gen1 (R := fun W => Code.wp _ _ _ _ W) (fun W1 kc hbb hzz => ?_)
  obtain ⟨gc, hgc⟩ : ∃ g, g = w.heap.size := ⟨_, rfl⟩
  rw [← hgc] at kc ⊢
  have KC1 := hide kc
  have HT1 := hide (Turn.of_below (S := DGM d g m) hbb)
  have HS1 := hide (HS.out.via hbb)
  clear kc hbb hzz hgc HS
  have q0 : W1.cell? ⟨gc, 0, none⟩ = some (.int .i64 b) := KC1.out.cell 0
  have q1 : W1.cell? ⟨gc, 1, none⟩ = some (.int .i64 xp) := KC1.out.cell 1
  have q2 : W1.cell? ⟨gc, 2, none⟩ = some (.int .i64 xf) := KC1.out.cell 2
  have q3 : W1.cell? ⟨gc, 3, none⟩ = some (.int .i64 xc) := KC1.out.cell 3
  have q4 : W1.cell? ⟨gc, 4, none⟩ = some (.int .i64 xl) := KC1.out.cell 4
  have ql := KC1.out.lt
  go_upto_region 5 with (go_at_call 138; refine (HCK.out _).mono ?_; rintro e W2 ⟨rfl, hb2⟩)
  have KC2 := hide (Blk.via hb2 KC1.out)
  have HT2 := hide (HT1.out.into (Turn.of_below (S := fun _ => False) hb2) (fun _ e => e.elim))
  have HS2 := hide (HS1.out.via hb2)
  clear hb2 q0 q1 q2 q3 q4 ql KC1 HT1 HS1
  go_cut [17] from 13 to 17 (fun s17 wx => s17 = .bool false ∧ Below W2.heap.size W2 wx)
  case first =>
    refine wp_region_inv [fun v _ => v = .pointer (some ⟨d, 0, none⟩), fun v _ => v = .int .i64 n, fun v _ => v = .pointer (some ⟨gc, 1, none⟩), fun v _ => v = .int .i64 xp, fun v _ => v = .bool (decide ((n : Int) < xp))] (by kernel_rfl) (by kernel_rfl) (by kernel_rfl) ?st ?steps ?fin
    case st =>
      intro i v W W' hWW h
      match i with
      | 0 | 1 | 2 | 3 | 4 => exact h
      | (i + 5) => exact h
    case steps =>
      simp only [stepsI]
      refine ⟨?_, ?_, ?_, ?_, ?_, trivial⟩
      · intro f W hbW hdp
        simp only [fS, Nat.reduceAdd]
        go_wp2
        exact ⟨rfl, _, rfl, rfl, Below.refl _ _⟩
      · intro f W hbW hdp
        have e0 : f 0 = .pointer (some ⟨d, 0, none⟩) := hdp ⟨0, .data⟩ (mfl (by simp) rfl)
        simp only [fS, Nat.reduceAdd, e0]
        obtain ⟨o, kd⟩ := (HS2.out.via hbW).kd
        have HP := hide (devPages_any d _ n _ _ _ _ _ _ _ _ W kd)
        clear kd
        go_wp2_with fail
        refine HP.out.mono ?_
        rintro e w' ⟨rfl, hw'⟩
        obtain rfl := hw'.symm
        go_wp2
        exact ⟨rfl, _, rfl, rfl, Below.refl _ _⟩
      · intro f W hbW hdp
        simp only [fS, Nat.reduceAdd]
        go_wp2
        exact ⟨rfl, _, rfl, rfl, Below.refl _ _⟩
      · intro f W hbW hdp
        have e2 : f 2 = .pointer (some ⟨gc, 1, none⟩) := hdp ⟨2, .data⟩ (mfl (by simp) rfl)
        have q : W.cell? ⟨gc, 1, none⟩ = some (.int .i64 xp) := (Blk.via hbW KC2.out).cell 1
        simp only [fS, Nat.reduceAdd, e2]
        go_wp2
        exact ⟨rfl, _, rfl, rfl, Below.refl _ _⟩
      · intro f W hbW hdp
        have e1 : f 1 = .int .i64 n := hdp ⟨1, .data⟩ (mfl (by simp) rfl)
        have e3 : f 3 = .int .i64 xp := hdp ⟨3, .data⟩ (mfl (by simp) rfl)
        simp only [fS, Nat.reduceAdd, e1, e3]
        go_wp2
        exact ⟨rfl, _, rfl, rfl, Below.refl _ _⟩
    case fin =>
      intro f W hbW hA
      have e4 : f 4 = .bool (decide ((n : Int) < xp)) := hA 4 (by simp)
      show wpList Tryz.prog #[] (Exit.then _ _) [] _ _
      simp only [fS, Nat.reduceAdd, e4]
      clear hA e4
      have hd : decide ((n : Int) < xp) = false := by simpa using hp
      rw [hd]
      go_wp2
      go_meet
      exact ⟨rfl, hbW⟩
  case rest =>
    obtain ⟨rfl, hb3⟩ := hcut
    rename World => W3
    have KC3 := hide (Blk.via hb3 KC2.out)
    have HT3 := hide (HT2.out.into (Turn.of_below (S := fun _ => False) hb3) (fun _ e => e.elim))
    have HS3 := hide (HS2.out.via hb3)
    clear hb3 KC2 HT2 HS2
    have q0 : W3.cell? ⟨gc, 0, none⟩ = some (.int .i64 b) := KC3.out.cell 0
    have ql := KC3.out.lt
    have HD3 := hide (show ∀ q, DevB d g m (fun _ => none) q → DGM d g m q ∨ w.heap.size ≤ q from by
      rintro q (h | h | h | ⟨i, h⟩)
      · exact .inl (.inl h)
      · exact .inl (.inr (.inl h))
      · exact .inl (.inr (.inr h))
      · cases h)
    have HS3' := hide (show DevS W3 d g m n false fuse lv stale head sure safe k0 (fun _ => none) (wrQ ⟨b, xp, xf, xc, xl⟩ 0) from HS3.out)
    clear HS3
    go_wp2
    go_loopw [21] (fun i wr => ∃ (j k2 : Nat) (mf : Int → Option Value), j ≤ b + 1 ∧ k2 ≤ k0 + j ∧ i = .int .i64 j ∧ Hid (DevS wr d g m n false fuse lv stale head sure safe k2 mf (wrQ ⟨b, xp, xf, xc, xl⟩ j)) ∧ Hid (∀ p v, mf p = some v → ∃ i : Nat, p = (i : Int) ∧ i < j) ∧ Hid (∀ q, DevB d g m mf q → DGM d g m q ∨ w.heap.size ≤ q) ∧ Hid (Blk wr gc 56 #[.int .i64 b, .int .i64 xp, .int .i64 xf, .int .i64 xc, .int .i64 xl]) ∧ Hid (Turn (DGM d g m) w wr)) (fun i _ => b + 1 - (intOf i).toNat)
    case atStart => exact ⟨0, k0, _, Nat.zero_le _, Nat.le_refl _, rfl, HS3', hide (fun p v hp => by cases hp), HD3, KC3, HT3⟩
    case round =>
      obtain ⟨j, k2, mf, hj, hk2, rfl, HSr, HM, HD, HC, HT⟩ := hrel
      clear q0 ql
      by_cases hlt : j < b + 1
      · have t1 : (j : Int) < (b : Int) + 1 := by omega
        have hl0 := withB_length zPg_length (at_ := 12) (width := 2) (by omega) (j : Nat)
        obtain ⟨Y, hY⟩ : ∃ Y, Y = ((withB zPg 12 2 (j : Nat)).map byteV).toArray := ⟨_, rfl⟩
        have HN := hide (fun W => pNew_any (j : Nat) W)
        unfold pgV at HN
        rw [← hY] at HN
        have HPI := hide (show (Tryz.prog.info? 63).map (·.size) = some Y.size by rw [hY, pg_size _ hl0]; exact info_pg)
        have HXZ := hide (show Tryz.zeroCells63.size = Y.size by rw [hY, pg_size _ hl0]; exact zeros_page)
        have HX1 := hide (show Y.all (·.oneCell') = true by rw [hY]; exact row_one _)
        have HY := hide hY
        clear hl0 hY
        go_wp2_with fail
        refine (HN.out wr).mono ?_
        rintro e W4 ⟨rfl, hb4⟩
        have HT4 := hide (HT.out.into (Turn.of_below (S := fun _ => False) hb4) (fun _ e => e.elim))
        have HS4 := hide (HSr.out.via hb4)
        have HC4 := hide (Blk.via hb4 HC.out)
        clear hb4
        go_upto_region 11 with (refine wpList_store_row rfl 63 (.tmp 6) (.tmp 25) rfl W4.heap.size Y rfl rfl 63 _ (Blk.new W4 _ _) HPI.out HXZ.out HX1.out ?_)
        refine nameW (R := fun W => Code.wp _ _ _ _ W) (fun W5 hW5 => ?_)
        have kp5 : Blk W5 W4.heap.size 63 Y := hW5 ▸ setRow_heap _ W4.heap.size _ _ _ _ (Blk.new W4 _ _)
        have hb5 : Below W4.heap.size W4 W5 := hW5 ▸ (touch_setRow _ W4.heap.size Y).below ((Below.refl W4.heap.size W4).alloc (Nat.le_refl _) _) (Nat.le_refl _)
        have hgpw : w.heap.size ≤ W4.heap.size := HT4.out.size
        have HND := hide (show ∀ q, DevB d g m mf q → q ≠ W4.heap.size from fun q hq e => by have := HS4.out.lt q hq; omega)
        obtain ⟨gp, hgp⟩ : ∃ gp, gp = W4.heap.size := ⟨_, rfl⟩
        rw [← hgp] at kp5 hgpw HND ⊢
        have KP5 := hide kp5
        have HT5 := hide (HT4.out.into (Turn.of_below (S := fun _ => False) hb5) (fun _ e => e.elim))
        have HS5 := hide (HS4.out.via hb5)
        have HC5 := hide (Blk.via hb5 HC4.out)
        clear hW5 kp5 hb5 hgp HT4 HS4 HC4 HT HSr HC HN
        by_cases hj0 : j = 0
        · obtain ⟨Z, hZ⟩ : ∃ Z, Z = ((metaPg ⟨b, xp, xf, xc, xl⟩).map byteV).toArray := ⟨_, rfl⟩
          have hlm := metaPg_length ⟨b, xp, xf, xc, xl⟩
          have HPZ := hide (show (Tryz.prog.info? 63).map (·.size) = some Z.size by rw [hZ, pg_size _ hlm]; exact info_pg)
          have HYZ := hide (show Y.size = Z.size by have h1 := HPI.out; rw [HPZ.out] at h1; injection h1 with h1; exact h1.symm)
          have HZ1 := hide (show Z.all (·.oneCell') = true by rw [hZ]; exact row_one _)
          have HXF := hide (show pgV (fmtU ⟨b, xp, xf, xc, xl⟩ j) = .agg Z by unfold fmtU pgV; rw [if_pos hj0, hZ])
          have HMZ := hide (fun W => (HMN0.out W).mono (R' := fun e w' => e = .returned (.agg Z) ∧ Below W.heap.size W w') (by rw [hZ]; exact fun _ _ h => h))
          have t2 : (j : Int) = 0 := by omega
          subst hj0
          clear hlm hZ t2
          have q0 : W5.cell? ⟨gc, 0, none⟩ = some (.int .i64 b) := HC5.out.cell 0
          have q1 : W5.cell? ⟨gc, 1, none⟩ = some (.int .i64 xp) := HC5.out.cell 1
          have q2 : W5.cell? ⟨gc, 2, none⟩ = some (.int .i64 xf) := HC5.out.cell 2
          have q3 : W5.cell? ⟨gc, 3, none⟩ = some (.int .i64 xc) := HC5.out.cell 3
          have q4 : W5.cell? ⟨gc, 4, none⟩ = some (.int .i64 xl) := HC5.out.cell 4
          have ql := HC5.out.lt
          go_upto_region 13 with (first
            | (go_at_call 149; refine (HMZ.out _).mono ?_; rintro e Wm ⟨rfl, hbm⟩)
            | (refine wpList_store_row rfl 63 (.tmp 6) (.tmp 29) rfl gp Z rfl rfl 63 _ (Blk.via hbm KP5.out) HPZ.out HYZ.out HZ1.out ?_))
          refine nameW (R := fun W => Code.wp _ _ _ _ W) (fun W8 hW8 => ?_)
          have kp8 : Blk W8 gp 63 Z := hW8 ▸ setRow_heap _ gp _ _ _ _ (Blk.via hbm KP5.out)
          have ht8 : Turn (fun q => q = gp) Wm W8 := hW8 ▸ Turn.setRowT Wm gp Z
          have KP8 := hide kp8
          have HT8 := hide ((HT5.out.into (Turn.of_below (S := fun _ => False) hbm) (fun _ e => e.elim)).into ht8 (fun q e => .inr (by rw [e]; exact hgpw)))
          have HS8 := hide ((HS5.out.via hbm).keep ht8 (fun q hq e => HND.out q hq e))
          have HC8 := hide (ht8.blk (Blk.via hbm HC5.out) ((Blk.via hbm HC5.out).ne_ (Blk.via hbm KP5.out) (by decide)))
          have hsz := HYZ.out
          have HPI := HPZ
          clear hW8 kp8 ht8 hbm q0 q1 q2 q3 q4 ql KP5 HT5 HS5 HC5 hsz
          have hul := fmtU_length ⟨b, xp, xf, xc, xl⟩ 0
          have hsl := sealB_length hul
          have HSE := hide (fun W => pSeal_any (fmtU ⟨b, xp, xf, xc, xl⟩ 0) hul W)
          rw [HXF.out] at HSE
          unfold pgV at HSE
          go_wp2_with (refine wpList_load_row rfl 63 (.tmp 6) rfl gp rfl 63 Z (0, 0) _ (KP8).out Tryz.underlying63 rfl HPI.out ?_)
          refine (HSE.out _).mono ?_
          rintro e W6 ⟨rfl, hb6⟩
          have HT6 := hide ((HT8).out.into (Turn.of_below (S := fun _ => False) hb6) (fun _ e => e.elim))
          have HS6 := hide ((HS8).out.via hb6)
          have HC6 := hide (Blk.via hb6 (HC8).out)
          have HWR := hide (show Calls Tryz.prog 22 #[.pointer (some ⟨d, 0, none⟩), (.int .i64 0), pgV (sealB (fmtU ⟨b, xp, xf, xc, xl⟩ 0))] W6 _ from devWrite_any W6 d g m n _ _ _ _ _ k2 mf _ 0 (sealB (fmtU ⟨b, xp, xf, xc, xl⟩ 0)) fuse HS6.out (by omega) (by omega) (by omega) (by have := wrQ_len ⟨b, xp, xf, xc, xl⟩ 0 0; omega) hsl)
          unfold pgV at HWR
          clear hb6 hul hsl HSE
          go_wp2_with fail
          refine HWR.out.mono ?_
          rintro e W7 ⟨rfl, v7, hs7, ht7, hloc7⟩
          rw [wrQ_next] at hs7
          have HDN := hide (fun q hq => (show DGM d g m q ∨ w.heap.size ≤ q from by
            rcases WroteP.blocks hloc7 q hq with h | h
            · exact HD.out q h
            · exact .inr (Nat.le_trans HT6.out.size h)))
          have HTN := hide (HT6.out.into ht7 HD.out)
          have HCN := hide (ht7.blk HC6.out (HS6.out.otherF HC6.out (by decide) (by decide)))
          have HSN := hide hs7
          have HMN := hide (show ∀ p v, (fun q => if q = ((0 : Nat) : Int) then some v7 else mf q) p = some v → ∃ i : Nat, p = (i : Int) ∧ i < 0 + 1 from fun p v hp => by
            dsimp only at hp
            by_cases hpj : p = ((0 : Nat) : Int)
            · exact ⟨0, hpj, by omega⟩
            · rw [if_neg hpj] at hp
              obtain ⟨i, h1, h2⟩ := HM.out p v hp
              exact ⟨i, h1, by omega⟩)
          clear hs7 ht7 hloc7 HWR HS6 HC6 HT6
          go_wp2
          go_roundw
          case rel => exact ⟨0 + 1, k2 + 1, _, by omega, by omega, by go_num, HSN, HMN, HDN, HCN, HTN⟩
          case measure => first | (simp [intOf]; done) | (simp [intOf]; omega)
        · have HXF := hide (show pgV (fmtU ⟨b, xp, xf, xc, xl⟩ j) = .agg Y by unfold fmtU pgV; rw [if_neg hj0, HY.out])
          have t2 : ¬ (j : Int) = 0 := by omega
          go_upto_region 13 with (fail)
          have hul := fmtU_length ⟨b, xp, xf, xc, xl⟩ j
          have hsl := sealB_length hul
          have HSE := hide (fun W => pSeal_any (fmtU ⟨b, xp, xf, xc, xl⟩ j) hul W)
          rw [HXF.out] at HSE
          unfold pgV at HSE
          go_wp2_with (refine wpList_load_row rfl 63 (.tmp 6) rfl gp rfl 63 Y (0, 0) _ (KP5).out Tryz.underlying63 rfl HPI.out ?_)
          refine (HSE.out _).mono ?_
          rintro e W6 ⟨rfl, hb6⟩
          have HT6 := hide ((HT5).out.into (Turn.of_below (S := fun _ => False) hb6) (fun _ e => e.elim))
          have HS6 := hide ((HS5).out.via hb6)
          have HC6 := hide (Blk.via hb6 (HC5).out)
          have HWR := hide (show Calls Tryz.prog 22 #[.pointer (some ⟨d, 0, none⟩), (.int .i64 (j : Nat)), pgV (sealB (fmtU ⟨b, xp, xf, xc, xl⟩ j))] W6 _ from devWrite_any W6 d g m n _ _ _ _ _ k2 mf _ j (sealB (fmtU ⟨b, xp, xf, xc, xl⟩ j)) fuse HS6.out (by omega) (by omega) (by omega) (by have := wrQ_len ⟨b, xp, xf, xc, xl⟩ j j; omega) hsl)
          unfold pgV at HWR
          clear hb6 hul hsl HSE
          go_wp2_with fail
          refine HWR.out.mono ?_
          rintro e W7 ⟨rfl, v7, hs7, ht7, hloc7⟩
          rw [wrQ_next] at hs7
          have HDN := hide (fun q hq => (show DGM d g m q ∨ w.heap.size ≤ q from by
            rcases WroteP.blocks hloc7 q hq with h | h
            · exact HD.out q h
            · exact .inr (Nat.le_trans HT6.out.size h)))
          have HTN := hide (HT6.out.into ht7 HD.out)
          have HCN := hide (ht7.blk HC6.out (HS6.out.otherF HC6.out (by decide) (by decide)))
          have HSN := hide hs7
          have HMN := hide (show ∀ p v, (fun q => if q = ((j : Nat) : Int) then some v7 else mf q) p = some v → ∃ i : Nat, p = (i : Int) ∧ i < j + 1 from fun p v hp => by
            dsimp only at hp
            by_cases hpj : p = ((j : Nat) : Int)
            · exact ⟨j, hpj, by omega⟩
            · rw [if_neg hpj] at hp
              obtain ⟨i, h1, h2⟩ := HM.out p v hp
              exact ⟨i, h1, by omega⟩)
          clear hs7 ht7 hloc7 HWR HS6 HC6 HT6
          go_wp2
          go_roundw
          case rel => exact ⟨j + 1, k2 + 1, _, by omega, by omega, by go_num, HSN, HMN, HDN, HCN, HTN⟩
          case measure => first | (simp [intOf]; done) | (simp [intOf]; omega)
      · obtain rfl : j = b + 1 := by omega
        have t1 : ¬ (((b + 1 : Nat) : Int) < (b : Int) + 1) := by omega
        have HSY := hide (devSync_any wr d g m n fuse lv stale head sure safe k2 mf (wrQ ⟨b, xp, xf, xc, xl⟩ (b + 1)) HSr.out (fun p v hp => by
          obtain ⟨i, h1, h2⟩ := HM.out p v hp
          refine ⟨i, h1, by omega, ?_, by have := wrQ_len ⟨b, xp, xf, xc, xl⟩ (b + 1) i; omega⟩
          unfold wrQ
          rw [if_pos h2]
          show 0 < 1
          omega))
        go_wp2_with fail
        refine HSY.out.mono ?_
        rintro e w9 ⟨rfl, hs9, ht9⟩
        have HF := hide (show DevS w9 d g m n false fuse lv stale head sure (safeN safe (wrQ ⟨b, xp, xf, xc, xl⟩ (b + 1))) 0 (fun _ => none) (fun _ => []) from hs9)
        have HTF := hide (HT.out.into ht9 (fun q e => .inl e))
        clear hs9 ht9
        go_wp2
        go_ret
        exact ⟨rfl, HF.out, HTF.out⟩
end Go.Proofs.YtnanlaefehaifaaGreat
namespace Go.Proofs.YtnanlaefehaifaaGreat
open Go.RowKit
theorem byteS_lo (m : Nat) (h : m < 256) : byteS (m : Int) 0 = UInt8.ofNat m := by
  apply UInt8.toNat_inj.1
  rw [byteS_low m (by omega), UInt8.toNat_ofNat']
theorem byteS_hi (m : Nat) (h : m < 256) : byteS (m : Int) 8 = 0 := by
  apply UInt8.toNat_inj.1
  rw [byteS_high m (by omega)]
  show m / 256 = 0
  omega
def putW (p : List UInt8) (at_ width : Nat) (c : List UInt8) : List UInt8 := p.take at_ ++ (c ++ p.drop (at_ + width))
theorem metaPg_aux (x : ConfD) (u : Nat) : putW (putW (putW zPg 12 2 (beB 2 0)) 14 2 [0, UInt8.ofNat u]) 16 8 (noteC x) = firstB x u := by kernel_rfl
theorem metaPg_first (x : ConfD) (u : Nat) (hu : x.b + 1 = (u : Int)) (h : u < 256) : metaPg x = firstB x u := by
  have e8 : beB 8 (numI (cutB (noteB x) 0 8)) = noteC x := beB_numI (noteC x) rfl
  have e2 : beB 2 (x.b + 1) = [0, UInt8.ofNat u] := by
    rw [hu]
    show [byteS (u : Int) 8, byteS (u : Int) 0] = _
    rw [byteS_lo u h, byteS_hi u h]
  have e0 : metaPg x = putW (putW (putW zPg 12 2 (beB 2 0)) 14 2 (beB 2 (x.b + 1))) 16 8 (beB 8 (numI (cutB (noteB x) 0 8))) := rfl
  rw [e0, e8, e2, metaPg_aux]
def restN (h l : UInt8) : List UInt8 := [0, 0, 0, 0, 0, 0, 0, 0, h, l] ++ List.replicate 498 0
theorem newP_drop (no : Nat) : (withB zPg 12 2 (no : Nat)).drop 4 = restN (byteS (no : Nat) 8) (byteS (no : Nat) 0) := by kernel_rfl
section
variable (v : Int) (h l : UInt8)
theorem restN_no : cutB (beB 4 v ++ restN h l) 12 2 = [h, l] := rfl
theorem restN_next : cutB (beB 4 v ++ restN h l) 14 2 = [0, 0] := rfl
theorem restN_lsn : cutB (beB 4 v ++ restN h l) 4 8 = List.replicate 8 0 := by kernel_rfl
theorem restN_sum : cutB (beB 4 v ++ restN h l) 0 4 = beB 4 v := rfl
theorem restN_pad : cutB (beB 4 v ++ restN h l) 24 8 = List.replicate 8 0 := by kernel_rfl
theorem restN_end : (beB 4 v ++ restN h l).drop 480 = List.replicate 32 0 := by kernel_rfl
theorem restN_slot0 : slotB (beB 4 v ++ restN h l) 0 = List.replicate 64 0 := by kernel_rfl
theorem restN_slot1 : slotB (beB 4 v ++ restN h l) 1 = List.replicate 64 0 := by kernel_rfl
theorem restN_slot2 : slotB (beB 4 v ++ restN h l) 2 = List.replicate 64 0 := by kernel_rfl
theorem restN_slot3 : slotB (beB 4 v ++ restN h l) 3 = List.replicate 64 0 := by kernel_rfl
theorem restN_slot4 : slotB (beB 4 v ++ restN h l) 4 = List.replicate 64 0 := by kernel_rfl
theorem restN_slot5 : slotB (beB 4 v ++ restN h l) 5 = List.replicate 64 0 := by kernel_rfl
theorem restN_slot6 : slotB (beB 4 v ++ restN h l) 6 = List.replicate 64 0 := by kernel_rfl
theorem restN_slot (i : Nat) (hi : i < 7) : slotB (beB 4 v ++ restN h l) i = List.replicate 64 0 := by
  have hh : i = 0 ∨ i = 1 ∨ i = 2 ∨ i = 3 ∨ i = 4 ∨ i = 5 ∨ i = 6 := by omega
  rcases hh with rfl | rfl | rfl | rfl | rfl | rfl | rfl
  · exact restN_slot0 v h l
  · exact restN_slot1 v h l
  · exact restN_slot2 v h l
  · exact restN_slot3 v h l
  · exact restN_slot4 v h l
  · exact restN_slot5 v h l
  · exact restN_slot6 v h l
end
theorem newP_seal (no : Nat) : sealB (withB zPg 12 2 (no : Nat)) = beB 4 ((moreD 0 (restN (byteS (no : Nat) 8) (byteS (no : Nat) 0)) : Nat) : Int) ++ restN (byteS (no : Nat) 8) (byteS (no : Nat) 0) := by
  unfold sealB sumB
  rw [newP_drop]
theorem newP_right (no : Nat) (hn : no < 65536) : rightP (sealB (withB zPg 12 2 (no : Nat))) (no : Nat) = true := by
  rw [newP_seal]
  obtain ⟨h, hh⟩ : ∃ h, h = byteS (no : Nat) 8 := ⟨_, rfl⟩
  obtain ⟨l, hl⟩ : ∃ l, l = byteS (no : Nat) 0 := ⟨_, rfl⟩
  have hno : numI [h, l] = (no : Int) := by rw [hh, hl]; exact numI_pair (by omega) (by omega)
  rw [← hh, ← hl]
  clear hh hl
  have hs : moreD 0 (restN h l) < 4294967296 := by rw [moreD_eq]; unfold moreR; omega
  have ed : (beB 4 ((moreD 0 (restN h l) : Nat) : Int) ++ restN h l).drop 4 = restN h l := List.drop_left' (beB_length 4 _)
  unfold rightP
  rw [restN_sum, ed, restN_no, restN_pad, restN_end, hno, numI_four _ hs, slotsOk_all 7 (fun i hi => by rw [restN_slot _ h l i hi, slotG_nil]; rfl)]
  simp
theorem newP_next (no : Nat) : numI (cutB (sealB (withB zPg 12 2 (no : Nat))) 14 2) = 0 := by
  rw [newP_seal, restN_next, numI_2]
  rfl
theorem newP_lsn (no : Nat) : numI (cutB (sealB (withB zPg 12 2 (no : Nat))) 4 8) = 0 := by
  rw [newP_seal, restN_lsn]
  have : numB (List.replicate 8 0) = 0 := rfl
  unfold numI wrap64
  rw [this]
  rfl
theorem newP_items (no : Nat) : ((List.range 7).map fun k => (slotG (slotB (sealB (withB zPg 12 2 (no : Nat))) k)).getD item0) = List.replicate 7 item0 := by
  rw [newP_seal]
  refine List.ext_getElem? fun i => ?_
  by_cases hi : i < 7
  · rw [List.getElem?_map, List.getElem?_range hi, Option.map_some, restN_slot _ _ _ i hi, slotG_nil, List.getElem?_replicate, if_pos hi]
    rfl
  · rw [List.getElem?_eq_none (by rw [List.length_map, List.length_range]; omega), List.getElem?_eq_none (by rw [List.length_replicate]; omega)]
theorem keysD_none (hd : ByteArray → Int) (head : Int) (ks : List ByteArray) : ∀ n, keysD hd head (List.replicate n item0) ks = some ks
  | 0 => rfl
  | n + 1 => by
    rw [List.replicate_succ]
    unfold keysD
    rw [if_pos (show item0.st = 0 from rfl)]
    exact keysD_none hd head ks n
theorem catD_none : catD item0 = 4 := rfl
theorem tallyD_none (n c : Nat) : tallyD (List.replicate n item0) c = if c = 4 then n else 0 := by
  unfold tallyD
  rw [List.countP_replicate, catD_none]
  by_cases h : c = 4
  · subst h
    rfl
  · rw [if_neg h, if_neg]
    simpa using fun e => h e.symm
theorem okD_of {hd : ByteArray → Int} {it : Nat → List ItemD} {nx : Nat → Nat} (h : chainsD hd it nx 3 2 1 ([], []) = some ([1, 2], [])) : okD hd it nx 2 3 = true := by
  unfold okD
  rw [h]
  decide
theorem check_of {s : StN} {u B : Nat} (h1 : pagesB s u = true) (h2 : okD (headI s.x.b) (itP s) (nxI s) B u = true) : checkB s u B = true := by
  unfold checkB
  rw [h1, h2]
  rfl
section
variable {s : StN} (h1 : s.pg 1 = sealB (withB zPg 12 2 ((1 : Nat) : Int))) (h2 : s.pg 2 = sealB (withB zPg 12 2 ((2 : Nat) : Int)))
include h1 h2
theorem new_its : itP s 1 = List.replicate 7 item0 ∧ itP s 2 = List.replicate 7 item0 := by
  constructor
  · unfold itP; rw [h1]; exact newP_items 1
  · unfold itP; rw [h2]; exact newP_items 2
theorem new_nxs : nxI s 1 = 0 ∧ nxI s 2 = 0 := by
  constructor
  · unfold nxI; rw [h1, newP_next]; rfl
  · unfold nxI; rw [h2, newP_next]; rfl
theorem new_pages : pagesB s 3 = true := by
  have a1 : auI s 3 ((1 : Nat) : Int) = 0 := by
    unfold auI
    rw [if_neg (by omega), Int.toNat_natCast, h1, if_pos ⟨newP_right 1 (by omega), newP_lsn 1⟩]
  have a2 : auI s 3 ((2 : Nat) : Int) = 0 := by
    unfold auI
    rw [if_neg (by omega), Int.toNat_natCast, h2, if_pos ⟨newP_right 2 (by omega), newP_lsn 2⟩]
  refine pagesB_yes (fun no g1 g2 => ?_)
  have hn : no = 1 ∨ no = 2 := by omega
  rcases hn with rfl | rfl
  · exact a1
  · exact a2
theorem new_chains (hd : ByteArray → Int) : chainsD hd (itP s) (nxI s) 3 2 1 ([], []) = some ([1, 2], []) := by
  obtain ⟨i1, i2⟩ := new_its h1 h2
  obtain ⟨n1, n2⟩ := new_nxs h1 h2
  have w1 : walkP (nxI s) 3 3 1 = ([1], true) := by unfold walkP; rw [if_neg (by omega), if_pos n1]
  have w2 : walkP (nxI s) 3 3 2 = ([2], true) := by unfold walkP; rw [if_neg (by omega), if_pos n2]
  have f1 : fitsL hd (itP s) ((1 : Nat) : Int) [1] ([], []) = some ([1], []) := by
    unfold fitsL fitsD
    rw [if_neg (by simp), i1, keysD_none]
    rfl
  have f2 : fitsL hd (itP s) ((2 : Nat) : Int) [2] ([1], []) = some ([1, 2], []) := by
    unfold fitsL fitsD
    rw [if_neg (by simp), i2, keysD_none]
    rfl
  unfold chainsD
  rw [w1, f1, Option.bind_some, if_pos rfl]
  unfold chainsD
  rw [show (1 : Nat) + 1 = 2 from rfl, w2, f2, Option.bind_some, if_pos rfl]
  rfl
theorem new_check : checkB s 3 2 = true := by
  have hp := new_pages h1 h2
  have hc := new_chains h1 h2 (headI s.x.b)
  exact check_of hp (okD_of hc)
theorem new_tal : talS s 3 = ⟨3, 0, 0, 0, 14⟩ := by
  obtain ⟨i1, i2⟩ := new_its h1 h2
  have hf : (from1 3).flatMap (itP s) = List.replicate 7 item0 ++ List.replicate 7 item0 := by
    show (itP s 1 ++ (itP s 2 ++ [])) = _
    rw [i1, i2, List.append_nil]
  unfold talS talL
  rw [hf]
  simp only [tallyD_append, tallyD_none]
  rfl
end
end Go.Proofs.YtnanlaefehaifaaGreat
namespace Go.Proofs.YtnanlaefehaifaaGreat
open Go.RowKit Go.Maps
theorem newSt_pg (x : ConfD) (n b no : Nat) (h : no ≤ b) (hn : no < n) : pgOf (safeN (List.replicate n zPg) (wrQ x (b + 1))) (fun _ => []) no = sealB (fmtU x no) := by
  have e1 : pgOf (safeN (List.replicate n zPg) (wrQ x (b + 1))) (fun _ => []) no = (safeN (List.replicate n zPg) (wrQ x (b + 1))).getD no [] := rfl
  have e2 : wrQ x (b + 1) no = [sealB (fmtU x no)] := by unfold wrQ; rw [if_pos (by omega)]
  rw [e1, List.getD_eq_getElem?_getD, safeN_at (by rw [List.length_replicate]; exact hn)]
  show pgOf _ _ no = _
  unfold pgOf
  rw [e2]
  rfl
def NewSt (x : ConfD) (b : Nat) (w : World) (s : StN) (w' : World) : Prop := StoreI s w' ∧ s.x = x ∧ w.heap.size ≤ s.d ∧ w.heap.size ≤ s.p ∧ StK s (b + 1) ∧ (∀ no, no ≤ b → s.pg no = sealB (fmtU x no)) ∧ Below w.heap.size w w'
theorem open26_any (x : ConfD) (b : Nat) (hxb : x.b = (b : Int)) (hx : confOk x = true) (w : World) : Calls Tryz.prog 59 #[confV x, .int .i64 0] w fun e w' => ∃ s : StN, e = .returned (ptrV s.b) ∧ NewSt x b w s w' := by
  have hx2 := of_decide_eq_true (show decide _ = true from hx)
  have HFM := hide (first_meta x (b + 1) hx (by omega) (by omega) (by omega))
  have HFR := hide (first_right x (b + 1))
  rw [← metaPg_first x (b + 1) (by omega) (by omega)] at HFM HFR
  have HFMT := hide (fun W d g m n h hp hn => metaFormat_any x hx W d g m n 0 0 0 0 nilS (List.replicate n zPg) 0 (by omega) h hp hn)
  obtain ⟨n, hxn⟩ : ∃ n : Nat, x.p = n := ⟨x.p.toNat, by omega⟩
  have hxt : x.b.toNat = b := by omega
  rw [hxt] at HFMT
  have hn1 : b < n := by omega
  have hn2 : n ≤ 1024 := by omega
  have hf1 : 4 ≤ x.f := by omega
  have hf2 : x.f ≤ 64 := by omega
  have hb1 : 1 ≤ b := by omega
  have hb16 : b ≤ 16 := by omega
  have HX := hide hx
  obtain ⟨xb, xp, xf, xc, xl⟩ := x
  dsimp only at hxb hxn hf1 hf2
  subst hxb hxn
  clear hx2 hxt hx
  unfold confV at *
  dsimp only at *
  go_enter Tryz.func59, Tryz.ntmps59
  go_upto_region 1 with (fail)
  refine gen1 (R := fun W => Code.wp _ _ _ _ W) (fun W1 kc hbb hzz => ?_)
  obtain ⟨gc, hgc⟩ : ∃ g, g = w.heap.size := ⟨_, rfl⟩
  rw [← hgc] at kc ⊢
  have KC1 := hide kc
  have HB1 := hide hbb
  clear kc hbb hzz hgc
  have q1 : W1.cell? ⟨gc, 1, none⟩ = some (.int .i64 n) := KC1.out.cell 1
  have ql := KC1.out.lt
  go_wp2_with fail
  refine (devNewN_any n (by omega) (by omega) W1).mono ?_
  rintro e W2 ⟨d, g, mm, rfl, kd, kg, hmf, hd, hg, hmm, hb2⟩
  have hz1 := HB1.out.size
  have HS2 := hide (DevS.fresh kd kg hmf)
  have HD2 := hide (show ∀ q, DGM d g mm q → w.heap.size ≤ q from by
    rintro q (h | h | h) <;> omega)
  have hdl : w.heap.size ≤ d := by omega
  have KC2 := hide (Blk.via hb2 KC1.out)
  have HB2 := hide (HB1.out.trans (hb2.mono hz1))
  clear kd kg hmf hd hg hmm hb2 q1 ql KC1 HB1 hz1
  have q0 : W2.cell? ⟨gc, 0, none⟩ = some (.int .i64 b) := KC2.out.cell 0
  have q1 : W2.cell? ⟨gc, 1, none⟩ = some (.int .i64 n) := KC2.out.cell 1
  have q2 : W2.cell? ⟨gc, 2, none⟩ = some (.int .i64 xf) := KC2.out.cell 2
  have q3 : W2.cell? ⟨gc, 3, none⟩ = some (.int .i64 xc) := KC2.out.cell 3
  have q4 : W2.cell? ⟨gc, 4, none⟩ = some (.int .i64 xl) := KC2.out.cell 4
  have ql := KC2.out.lt
  have HF := hide (HFMT.out W2 d g mm n HS2.out (Int.le_refl _) hn2)
  go_wp2_with fail
  refine HF.out.mono ?_
  rintro e W3 ⟨rfl, hs3, ht3⟩
  have hz2 := HB2.out.size
  have HS3 := hide hs3
  have HB3 := hide (ht3.belowT HB2.out HD2.out hz2)
  have hpg0 : pgOf (safeN (List.replicate n zPg) (wrQ ⟨b, n, xf, xc, xl⟩ (b + 1))) (fun _ => []) 0 = sealB (metaPg ⟨b, n, xf, xc, xl⟩) := newSt_pg ⟨b, n, xf, xc, xl⟩ n b 0 (by omega) (by omega)
  have HOPN := hide (open_ok W3 d g mm n false 0 0 _ 0 (fun _ => none) (fun _ => []) HS3.out (by omega) (by omega) (by simp) (fun h => by cases h) ⟨b, n, xf, xc, xl⟩ ((b + 1 : Nat) : Int) (by rw [hpg0]; exact HFM.out) (by rw [hpg0]; exact HFR.out) (by dsimp only; omega) (fun h => by cases h) 0 rfl)
  have HPG0 := hide hpg0
  clear hs3 ht3 HF HS2 q0 q1 q2 q3 q4 ql KC2 HB2 hz2 hpg0
  go_wp2_with fail
  refine HOPN.out.mono ?_
  rintro e W20 ⟨bb, l, ml, pp, tt, rfl, hP, hD, ht, hpn⟩
  have hz3 := HB3.out.size
  have HB20 := hide (ht.belowT HB3.out (fun q e => by rw [e]; exact hdl) hz3)
  obtain ⟨s, hs⟩ : ∃ s : StN, s = ⟨bb, d, g, mm, n, pp, l, ⟨b, n, xf, xc, xl⟩, 0, safeN (List.replicate n zPg) (wrQ ⟨b, n, xf, xc, xl⟩ (b + 1)), 0, fun _ => none, fun _ => []⟩ := ⟨_, rfl⟩
  have HFIN := hide (show NewSt ⟨b, n, xf, xc, xl⟩ b w s W20 by
    have hst : StoreI s W20 := by rw [hs]; exact StoreI.opened hP hD (by dsimp only; omega)
    have hq : s.pg 0 = sealB (metaPg ⟨b, n, xf, xc, xl⟩) := by rw [hs]; exact HPG0.out
    have hsx : s.x = ⟨b, n, xf, xc, xl⟩ := by rw [hs]
    have hsn : s.n = n := by rw [hs]
    have hsw : ∀ no, s.wr no = [] := fun no => by rw [hs]
    have hsk : StK s (b + 1) := ⟨⟨by rw [hsn]; exact hn2, by rw [hsx, hsn]; exact Int.le_refl _, by rw [hsx]; dsimp only; omega, by rw [hsx]; dsimp only; omega, fun no => by rw [hsw]; simp⟩, by rw [hq]; exact HFR.out, by rw [hq, hsx]; exact HFM.out, by rw [hsx]; dsimp only; omega, by rw [hsx]; dsimp only; omega, by rw [hsx]; dsimp only; omega, by rw [hsx]; dsimp only; omega⟩
    refine ⟨hst, by rw [hs], by rw [hs]; exact hdl, by rw [hs]; dsimp only; omega, hsk, fun no hno => ?_, HB20.out⟩
    rw [hs]
    exact newSt_pg ⟨b, n, xf, xc, xl⟩ n b no hno (by omega))
  have hsb : s.b = bb := by rw [hs]
  clear hP hD ht hpn hs HOPN hz3
  go_wp2
  go_loopw [8] (fun i wr => i = .int .i64 0 ∧ wr = W20) (fun _ _ => 0)
  case atStart => exact ⟨rfl, rfl⟩
  case round =>
    obtain ⟨rfl, rfl⟩ := hrel
    go_wp2
    go_ret
    exact ⟨s, by rw [hsb]; rfl, HFIN.out⟩
def x38 : ConfD := ⟨2, 9, 4, 1, 4⟩
theorem live38_any (w : World) : Calls Tryz.prog 19 #[] w fun e w' => e = .returned (.bool true) ∧ Below w.heap.size w w' := by
  have HO := hide (show Calls Tryz.prog 59 #[.agg #[.int .i64 2, .int .i64 9, .int .i64 4, .int .i64 1, .int .i64 4], .int .i64 0] w _ from open26_any x38 2 rfl (by decide) w)
  go_enter Tryz.func19, Tryz.ntmps19
  go_wp2_with fail
  refine HO.out.mono ?_
  rintro e W1 ⟨s, rfl, hst, hsx, hsd, hsp, hsk, hpg, hb1⟩
  have h1 := hpg 1 (by omega)
  have h2 := hpg 2 (by omega)
  have hck : checkB s 3 2 = true := new_check h1 h2
  have htl : talS s 3 = ⟨3, 0, 0, 0, 14⟩ := new_tal h1 h2
  have hsb : s.x.b = ((2 : Nat) : Int) := by rw [hsx]; rfl
  have hcn : cntV s 3 2 = .tuple #[.agg #[.int .i64 3, .int .i64 0, .int .i64 0, .int .i64 0, .int .i64 14], .int .i64 0] := by
    unfold cntV
    rw [if_pos hck, htl]
    rfl
  have hau : auI s 3 3 = 2 := by unfold auI; rw [if_pos (by omega)]
  have hz1 := hb1.size
  have HCN := hide (auCount_any s 3 2 hsk hsb (by omega) (by omega) W1 hst w.heap.size hsd hsp hz1)
  rw [hcn] at HCN
  have HPN := hide (fun W hs => auPage_any s 3 hsk 3 W hs)
  rw [hau] at HPN
  have HB1 := hide hb1
  have HKS := hide (fun (A B : World) (h : StR s A B) => KeepC.of_str hsd hsp h)
  have heq := fun W => run_eqTal 3 0 0 0 14 W
  clear hpg h1 h2 hck htl hsb hcn hau hst hsx hsk hb1 hsd hsp
  unfold ptrV at *
  go_upto_region 3 with (go_at_call 28; refine HCN.out.mono ?_; rintro e W2 ⟨rfl, hst2, hk2⟩)
  refine gen1 (R := fun W => Code.wp _ _ _ _ W) (fun W3 kt hb3 hz3 => ?_)
  have hz2 := hk2.size
  have HB3 := hide ((hk2.below HB1.out hz1).trans (hb3.mono (Nat.le_trans hz1 hz2)))
  have HST3 := hide (hst2.via hb3)
  obtain ⟨gt, hgt⟩ : ∃ g, g = W2.heap.size := ⟨_, rfl⟩
  rw [← hgt] at kt ⊢
  have y0 : W3.cell? ⟨gt, 0, none⟩ = some (.int .i64 3) := kt.cell 0
  have y1 : W3.cell? ⟨gt, 1, none⟩ = some (.int .i64 0) := kt.cell 1
  have y2 : W3.cell? ⟨gt, 2, none⟩ = some (.int .i64 0) := kt.cell 2
  have y3 : W3.cell? ⟨gt, 3, none⟩ = some (.int .i64 0) := kt.cell 3
  have y4 : W3.cell? ⟨gt, 4, none⟩ = some (.int .i64 14) := kt.cell 4
  have yl := kt.lt
  have HP3 := hide (HPN.out W3 HST3.out)
  clear kt hb3 hz3 hst2 hk2 hgt HCN HPN
  go_wp2_with (first
    | (go_at_call 27; refine (code38_any _ _).mono ?_; rintro e w' ⟨rfl, hw'⟩; obtain rfl := hw'.symm)
    | (go_at_call 31; refine HP3.out.mono ?_; rintro e W4 ⟨rfl, hs4⟩))
  go_ret
  exact ⟨rfl, (HKS.out _ _ hs4).below HB3.out HB3.out.size⟩
end Go.Proofs.YtnanlaefehaifaaGreat
