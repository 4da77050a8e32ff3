/-
  WALKS OF THE LIBRARY: slices.Insert and slices.Delete, of one pair, in a row of the program's own.
-/
import Derived.Test.YteidmdnhkgcnoaaGreatIns
import Derived.Test.YteidmdnhkgcnoaaGreatProg
import Derived.Test.YteidmdnhkgcnoaaGreatMem
import Derived.Laws.Externs
namespace Go.Proofs.YteidmdnhkgcnoaaGreat
open Go.RowKit

def pairZ' : Array Value := #[.string ByteArray.empty, .int .i64 0, .slice none 0 0, .int .i64 0, .int .i64 0, .int .i64 0]
theorem info_pair' : (Tryz.prog.info? 55).map (fun i => (i.zero, i.size, i.bytes)) = some (some (.agg pairZ'), 6, 72) := by kernel_rfl
theorem size_pair : (Tryz.prog.info? 55).map (·.size) = some 6 := by kernel_rfl
theorem sizeOf_pair (w : World) : (Go.sizeOf 55).run Tryz.prog w = .ok 6 w := by kernel_rfl
theorem zero_pair (w : World) : (zeroValue 55).run Tryz.prog w = .ok (.agg pairZ') w := by kernel_rfl

theorem Blk.shape {w : World} {g : Nat} {t : TypeId} {cs : Array Value} (h : Blk w g t cs) : w.shape? g = some (t, cs.size) := by unfold Blk at h; simp [World.shape?, h]
theorem zero_cells : (Builtin.zeroCells (Value.agg pairZ').cells 1).toList = pairZ'.toList := by simp [Builtin.zeroCells, Value.cells, pairZ']; rfl
/-- A row behind a change of its own. -/
def RowPost (w : World) (base : Nat) (v : Value) (n : Nat) (ys : List Value) (e : Ending) (w' : World) : Prop :=
  ∃ v', e = .returned v' ∧ w'.ownsRow base 55 6 v' n ys ∧ w.grownBy w' v.ownBlock ∧ (v'.ownBlock = v.ownBlock ∨ v'.ownBlock = some w.heap.size)
theorem grown_of_touch {w w' : World} {g : Nat} (ht : Touch g (g + 1) w w') : w.grownBy w' (some g) := ⟨ht.os, ht.tape, ht.output, Nat.le_of_eq ht.size.symm, fun k _ hne => ht.block k (by rcases Nat.lt_trichotomy k g with h | h | h; exact .inl h; exact absurd (by rw [h]) hne; exact .inr h)⟩
theorem grown_drew (w : World) (row : Option Nat) : w.grownBy w.drew row := ⟨rfl, rfl, rfl, Nat.le_refl _, fun _ _ _ => rfl⟩
theorem grown_trans {a b c : World} {row : Option Nat} (h1 : a.grownBy b row) (h2 : b.grownBy c row) : a.grownBy c row :=
  ⟨h2.os.trans h1.os, h2.tape.trans h1.tape, h2.output.trans h1.output, Nat.le_trans h1.size h2.size, fun k hk hne => (h2.block k (Nat.lt_of_lt_of_le hk h1.size) hne).trans (h1.block k hk hne)⟩

set_option maxHeartbeats 1600000 in
set_option maxRecDepth 100000 in
theorem insert_end (v : Value) (n : Nat) (xs new : List Value) (gn base : Nat) (w : World) (hn : n ≤ 100000) (hb : base ≤ w.heap.size) (hown : w.ownsRow base 55 6 v n xs) (hnew : Blk w gn 55 new.toArray) (hl : new.length = 6) (h1 : ∀ u ∈ new, u.oneCell' = true) :
    Calls Tryz.prog 85 #[v, .int .i64 (n : Nat), .slice (some ⟨gn, 0, none⟩) 1 1] w (RowPost w base v (n + 1) (xs ++ new)) := by
  obtain ⟨A, c, rfl, hnc, hcm, hnil, _, _⟩ := own_slice hown
  obtain ⟨i0, hi, hz0, hz1, hz2⟩ := info_parts info_pair'
  have hr : Reads w (gn + 1) 6 (some ⟨gn, 0, none⟩) 1 new := by simpa using Reads.of_blk (n := 1) (size := 6) hnew (by simpa using hl)
  unfold maxLen at hcm
  clear hnil hnew hl
  go_enter Tryz.func85, Tryz.ntmps85
  go_wp2_with (at_builtin; refine wpList_append_any _ rfl _ _ _ rfl base 55 i0 _ 6 72 Tryz.underlying22 hi hz0 hz1 hz2 rfl (by omega) (.slice A n c) n xs rfl hown (gn + 1) _ 1 1 new rfl hr h1 (by unfold maxLen; omega) (by omega) hb ?_; intro v' w1 hown1 hg1 hat1)
  all_goals
    go_ret
    exact ⟨_, rfl, hown1, by cases A <;> exact hg1, by cases A <;> exact hat1⟩

set_option maxHeartbeats 1600000 in
set_option maxRecDepth 100000 in
theorem insert_room (g cap n i : Nat) (cur xs new : List Value) (gn base : Nat) (w : World) (hn : n ≤ 100000) (hi : i < n) (hroom : n + 1 ≤ cap) (hcm : cap ≤ 9223372036854775807) (hbg : base ≤ g) (hk : Blk w g 55 cur.toArray) (hcl : cur.length = cap * 6) (hx : xs.length = n * 6) (hcx : cur.take (n * 6) = xs) (h1x : ∀ u ∈ xs, u.oneCell' = true)
    (hnew : Blk w gn 55 new.toArray) (hl : new.length = 6) (h1 : ∀ u ∈ new, u.oneCell' = true) (hgn : gn ≠ g) :
    Calls Tryz.prog 85 #[.slice (some ⟨g, 0, none⟩) n cap, .int .i64 (i : Nat), .slice (some ⟨gn, 0, none⟩) 1 1] w (RowPost w base (.slice (some ⟨g, 0, none⟩) n cap) (n + 1) (xs.take (i * 6) ++ new ++ xs.drop (i * 6))) := by
  have hov : ∀ lb cb, (callFunc 110 #[.slice (some ⟨gn, 0, none⟩) 1 1, .slice (some ⟨g, (i + 1) * 6, none⟩) lb cb]).run Tryz.prog w = .ok (.value (.bool false)) w := fun lb cb => by
    rw [run_callFunc_extern Tryz.func110 (by kernel_rfl) (by kernel_rfl) (by kernel_rfl) (e := Extern.SlicesOverlaps.overlaps #[22, 22] #[4]) (by kernel_rfl),
      Lib.run_overlaps_apart w 22 4 55 Tryz.underlying22 6 sizeOf_pair ⟨gn, 0, none⟩ ⟨g, (i + 1) * 6, none⟩ 1 1 lb cb hgn 55 55 new.length cur.length (by simpa using hnew.shape) (by simpa using hk.shape) (by omega) (hnew.frozen 0) (hnew.frozen _)]
    rfl
  have hdl : (xs.drop (i * 6)).length = (n - i) * 6 := by rw [List.length_drop, hx, Nat.sub_mul]
  have hz2 : ((i : Int) == (n : Int)) = false := by simp; omega
  have hw1 : IntKind.i64.wrap ((i : Int) + 1) = (i : Int) + 1 := by rw [IntKind.wrap_i64]; omega
  have hb1 : (0 : Int) ≤ (i : Int) + 1 := by omega
  have htn : ((i : Int) + 1).toNat = i + 1 := by omega
  have hb2 : ¬ (cap = i + 1) := by omega
  have hb3 : (i : Int) ≤ (n : Int) + 1 := by omega
  have hb4 : ¬ (cap = i) := by omega
  have hb5 : (i : Int) + 1 ≤ (n : Int) + 1 := by omega
  have hcs : ∀ (W : World), (∀ x, W.cell? x = w.cell? x) → ∀ j v, (xs.drop (i * 6))[j]? = some v → W.cell? ((⟨g, i * 6, none⟩ : Addr).add j) = some v := fun W hW j v hj => by
    rw [hW, add_plain, hk.cell]
    rw [List.getElem?_drop, ← hcx, List.getElem?_take] at hj
    split at hj
    · simpa using hj
    · cases hj
  have HCS := hide hcs
  have HDL := hide hdl
  have HCX := hide hcx
  have HX := hide hx
  have HNEW := hide hnew
  have HL := hide hl
  have HCL := hide hcl
  clear hcs hdl hcx hx hnew hl hcl
  have hkd := hk.drew
  go_enter Tryz.func85, Tryz.ntmps85
  go_wp2_with (simp only [hov])
  have hn1 : (xs.drop (i * 6)).length = Nat.min (n + 1 - i) (n + 1 - (i + 1)) * 6 := by rw [HDL.out]; simp only [Nat.min_def]; split <;> omega
  have hf1 : (i + 1) * 6 + (xs.drop (i * 6)).length ≤ cur.length := by rw [HDL.out, HCL.out]; omega
  have h1d : ∀ u ∈ xs.drop (i * 6), u.oneCell' = true := fun u hu => h1x u (List.mem_of_mem_drop hu)
  go_region_law ((refine step_copy_blk rfl _ _ 22 22 rfl 55 6 Tryz.underlying22 size_pair g ((i + 1) * 6) 55 cur (xs.drop (i * 6)) (n + 1 - (i + 1)) (cap - (i + 1)) (n + 1 - i) (cap - i) ⟨g, i * 6, none⟩ (by simp [Act.eval, Act.put]) (by simp [Act.eval, Act.put]) hkd hn1 (HCS.out _ (fun _ => rfl)) hf1 h1d ?_; intro vx w1 hk1 ht1))
  have hn2 : new.length = Nat.min 1 (n + 1 - i) * 6 := by rw [HL.out]; simp only [Nat.min_def]; split <;> omega
  have hl1 : (spl cur ((i + 1) * 6) (xs.drop (i * 6))).length = cur.length := spl_length hf1
  have hf2 : i * 6 + new.length ≤ (spl cur ((i + 1) * 6) (xs.drop (i * 6))).length := by rw [hl1, HL.out, HCL.out]; omega
  have hnw : ∀ j v, new[j]? = some v → w1.cell? ((⟨gn, 0, none⟩ : Addr).add j) = some v := fun j v hj => by
    have hkn : Blk w1 gn 55 new.toArray := (ht1.block gn (by omega)).trans HNEW.out
    rw [add_plain, Nat.zero_add, hkn.cell]
    simpa using hj
  have HNW := hide hnw
  have HF1 := hide hf1
  have HN1 := hide hn1
  have HL1 := hide hl1
  clear hn1 hf1 hnw hl1 hw1 htn
  go_wp2_with (refine wpList_copy_blk rfl (.tmp 80) (.tmp 81) 22 22 rfl 55 6 Tryz.underlying22 size_pair g (i * 6) 55 (spl cur ((i + 1) * 6) (xs.drop (i * 6))) new (n + 1 - i) (cap - i) 1 1 ⟨gn, 0, none⟩ rfl rfl hk1 hn2 HNW.out hf2 h1 ?_; intro vy w2 hk2 ht2)
  go_ret
  have hgw : w.grownBy w2 (some g) := grown_trans (grown_drew w _) (grown_trans (grown_of_touch ht1) (grown_of_touch ht2))
  refine ⟨_, rfl, ⟨?_, .inr ⟨g, cap, _, rfl, hbg, hk2, by omega, by unfold maxLen; omega, ?_, ?_⟩⟩, hgw, .inl rfl⟩
  · simp only [List.length_append, List.length_take, List.length_drop, HX.out, HL.out]; omega
  · have := spl_length hf2
    rw [HL1.out, HCL.out] at this
    simpa using this
  · exact ins_room (by omega) HX.out HCX.out (by rw [HCL.out]; omega) HL.out

set_option maxHeartbeats 1600000 in
set_option maxRecDepth 100000 in
theorem insert_grow (g cap n i : Nat) (cur xs new : List Value) (gn base : Nat) (w : World) (hn : n ≤ 100000) (hi : i < n) (hnc : n ≤ cap) (hroom : cap < n + 1) (hbase : base ≤ w.heap.size) (hk : Blk w g 55 cur.toArray) (hx : xs.length = n * 6) (hcx : cur.take (n * 6) = xs) (h1x : ∀ u ∈ xs, u.oneCell' = true)
    (hnew : Blk w gn 55 new.toArray) (hl : new.length = 6) (h1 : ∀ u ∈ new, u.oneCell' = true) :
    Calls Tryz.prog 85 #[.slice (some ⟨g, 0, none⟩) n cap, .int .i64 (i : Nat), .slice (some ⟨gn, 0, none⟩) 1 1] w (RowPost w base (.slice (some ⟨g, 0, none⟩) n cap) (n + 1) (xs.take (i * 6) ++ new ++ xs.drop (i * 6))) := by
  obtain ⟨i0, hi0, hz0, hz1, hz2⟩ := info_parts info_pair'
  have hgz := hk.lt
  have hgnz := hnew.lt
  have hcell : ∀ j v, xs[j]? = some v → w.cell? ⟨g, j, none⟩ = some v := fun j v hj => by
    rw [hk.cell]
    rw [← hcx, List.getElem?_take] at hj
    split at hj
    · simpa using hj
    · cases hj
  have hold : ∀ j v, (xs.take (i * 6))[j]? = some v → w.cell? ((⟨g, 0, none⟩ : Addr).add j) = some v := fun j v hj => by
    rw [add_plain, Nat.zero_add]
    rw [List.getElem?_take] at hj
    split at hj
    · exact hcell j v hj
    · cases hj
  have hol : (xs.take (i * 6)).length = i * 6 := by rw [List.length_take, hx]; omega
  have hz3 : ((i : Int) == (n : Int)) = false := by simp; omega
  have hkk : (n : Int) + 1 - (i : Int) = ((n + 1 - i : Nat) : Int) := by omega
  have hci : ¬ (cap = i) := by omega
  have hb3 : (i : Int) ≤ (n : Int) := by omega
  have HOLD := hide hold
  have HCELL := hide hcell
  have HOL := hide hol
  have HX := hide hx
  have HNEW := hide hnew
  have HL := hide hl
  clear hold hcell hol hx hnew hl hcx
  have hik : i + (n + 1 - i) = n + 1 := by omega
  have HIK := hide hik
  clear hik
  go_enter Tryz.func85, Tryz.ntmps85
  have hn2 : new.length = Nat.min 1 (n + 1 - i) * 6 := by rw [HL.out]; simp only [Nat.min_def]; split <;> omega
  have HN2 := hide hn2
  clear hn2
  go_wp2_with (first
    | (at_builtin; refine wpList_append_zeros rfl _ _ _ _ rfl 55 6 72 _ Tryz.underlying22 Tryz.underlying3 i0 hi0 hz0 hz1 hz2 (by omega) rfl ⟨g, 0, none⟩ i cap (n + 1 - i) (xs.take (i * 6)) HOL.out HOLD.out (by omega) (by omega) (by omega) (by omega) rfl (by first | rfl | exact congrArg _ hkk) ?_; rw [HIK.out]; intro G cur' w1 hG hGm hk1 hc1 ht1 hb1; have HC1 := hide hc1; have HT1 := hide ht1; have hGi : ¬ (G = i) := (by omega); have hGi1 : ¬ (G = i + 1) := (by omega); have hG63 : G ≤ 9223372036854775807 := (by unfold maxLen at hGm; omega); clear hc1 ht1 hkk)
    | (refine wpList_copy_blk rfl (.tmp 43) (.tmp 44) 22 22 rfl 55 6 Tryz.underlying22 size_pair w.heap.size (i * 6) 55 cur' new (n + 1 - i) (G - i) 1 1 ⟨gn, 0, none⟩ rfl rfl hk1 HN2.out (fun j v hj => by rw [add_plain, Nat.zero_add, (HNEW.out.below hb1 hgnz).cell]; simpa using hj) (by rw [HL.out, HC1.out]; omega) h1 ?_; intro vy w2 hk2 ht2))
  have hdl : (xs.drop (i * 6)).length = (n - i) * 6 := by rw [List.length_drop, HX.out, Nat.sub_mul]
  have hn1 : (xs.drop (i * 6)).length = Nat.min (n - i) (n + 1 - (i + 1)) * 6 := by rw [hdl]; simp only [Nat.min_def]; split <;> omega
  have hf0 : i * 6 + new.length ≤ cur'.length := by rw [HL.out, HC1.out]; omega
  have hl1 : (spl cur' (i * 6) new).length = cur'.length := spl_length hf0
  have hf1 : (i + 1) * 6 + (xs.drop (i * 6)).length ≤ (spl cur' (i * 6) new).length := by rw [hl1, hdl, HC1.out]; omega
  have hcs : ∀ j v, (xs.drop (i * 6))[j]? = some v → w2.drew.cell? ((⟨g, i * 6, none⟩ : Addr).add j) = some v := fun j v hj => by
    rw [add_plain]
    rw [List.getElem?_drop] at hj
    have hb2 : Below w.heap.size w w2 := ht2.below hb1 (Nat.le_refl _)
    exact (hb2.cell (p := ⟨g, i * 6 + j, none⟩) hgz).trans (HCELL.out _ v hj)
  have h1d : ∀ u ∈ xs.drop (i * 6), u.oneCell' = true := fun u hu => h1x u (List.mem_of_mem_drop hu)
  have hkd := hk2.drew
  have hw1 : IntKind.i64.wrap ((i : Int) + 1) = (i : Int) + 1 := by rw [IntKind.wrap_i64]; omega
  have hq1 : (0 : Int) ≤ (i : Int) + 1 := by omega
  have htn : ((i : Int) + 1).toNat = i + 1 := by omega
  have hb5 : (i : Int) + 1 ≤ (n : Int) + 1 := by omega
  have HDL := hide hdl
  have HL1 := hide hl1
  clear hdl hl1
  go_region_law ((refine step_copy_blk rfl _ _ 22 22 rfl 55 6 Tryz.underlying22 size_pair w.heap.size ((i + 1) * 6) 55 (spl cur' (i * 6) new) (xs.drop (i * 6)) (n + 1 - (i + 1)) (G - (i + 1)) (n - i) (cap - i) ⟨g, i * 6, none⟩ (by simp [Act.eval, Act.put]) (by simp [Act.eval, Act.put]) hkd hn1 hcs hf1 h1d ?_; intro vx w3 hk3 ht3))
  clear hw1 htn
  go_wp2
  go_ret
  have hb3' : Below w.heap.size w w3 := ht3.below (ht2.below hb1 (Nat.le_refl _)).drew (Nat.le_refl _)
  have hgw : w.grownBy w3 (some g) := ⟨hb3'.os, hb3'.tape, hb3'.output, hb3'.size, fun k hk _ => hb3'.block k hk⟩
  refine ⟨_, rfl, ⟨?_, .inr ⟨w.heap.size, G, _, rfl, hbase, hk3, hG, hGm, ?_, ?_⟩⟩, hgw, .inr rfl⟩
  · simp only [List.length_append, List.length_take, List.length_drop, HX.out, HL.out]; omega
  · have := spl_length hf1
    rw [HL1.out, HC1.out] at this
    simpa using this
  · exact ins_grow (by omega) HX.out HT1.out (by rw [HC1.out]; omega) HL.out

/-- Insert, in all cases. -/
theorem insert_any (v : Value) (n i : Nat) (xs new : List Value) (gn base : Nat) (w : World) (hn : n ≤ 100000) (hi : i ≤ n) (hb : base ≤ w.heap.size) (hown : w.ownsRow base 55 6 v n xs) (h1x : ∀ u ∈ xs, u.oneCell' = true) (hnew : Blk w gn 55 new.toArray) (hl : new.length = 6) (h1 : ∀ u ∈ new, u.oneCell' = true) (hgn : v.ownBlock ≠ some gn) :
    Calls Tryz.prog 85 #[v, .int .i64 (i : Nat), .slice (some ⟨gn, 0, none⟩) 1 1] w (RowPost w base v (n + 1) (xs.take (i * 6) ++ new ++ xs.drop (i * 6))) := by
  by_cases hin : i = n
  · subst hin
    have e : xs.take (i * 6) ++ new ++ xs.drop (i * 6) = xs ++ new := by
      rw [List.take_of_length_le (Nat.le_of_eq hown.1), List.drop_of_length_le (Nat.le_of_eq hown.1), List.append_nil]
    rw [e]
    exact insert_end v i xs new gn base w hn hb hown hnew hl h1
  · obtain ⟨hx, ⟨rfl, h0⟩ | ⟨g, cap, cur, rfl, hbg, hk, hnc, hcm, hs, ht⟩⟩ := hown
    · omega
    · have hk' : Blk w g 55 cur.toList.toArray := by unfold Blk; simpa using hk
      have hg : gn ≠ g := fun e => hgn (by rw [e]; rfl)
      by_cases hr : n + 1 ≤ cap
      · exact insert_room g cap n i cur.toList xs new gn base w hn (by omega) hr hcm hbg hk' (by simpa using hs) hx ht h1x hnew hl h1 hg
      · exact insert_grow g cap n i cur.toList xs new gn base w hn (by omega) hnc (by omega) hb hk' hx ht h1x hnew hl h1

set_option maxHeartbeats 1600000 in
set_option maxRecDepth 100000 in
theorem delete_row (g cap p i : Nat) (cur xs : List Value) (base : Nat) (w : World) (hn : p + 1 ≤ 100000) (hi : i ≤ p) (hnc : p + 1 ≤ cap) (hcm : cap ≤ 9223372036854775807) (hbg : base ≤ g) (hk : Blk w g 55 cur.toArray) (hcl : cur.length = cap * 6) (hx : xs.length = (p + 1) * 6) (hcx : cur.take ((p + 1) * 6) = xs) (h1x : ∀ u ∈ xs, u.oneCell' = true) :
    Calls Tryz.prog 86 #[.slice (some ⟨g, 0, none⟩) (p + 1) cap, .int .i64 (i : Nat), .int .i64 ((i : Int) + 1)] w (RowPost w base (.slice (some ⟨g, 0, none⟩) (p + 1) cap) p (xs.take (i * 6) ++ xs.drop ((i + 1) * 6))) := by
  have hz2 : ((i : Int) == (i : Int) + 1) = false := by simp; omega
  have hb1 : (0 : Int) ≤ (i : Int) + 1 := by omega
  have htn : ((i : Int) + 1).toNat = i + 1 := by omega
  have hb3 : (i : Int) ≤ (i : Int) + 1 := by omega
  have hb5 : (i : Int) + 1 ≤ ((p + 1 : Nat) : Int) := by omega
  have hb6 : (i : Int) ≤ ((p + 1 : Nat) : Int) := by omega
  have hb7 : (i : Int) ≤ (p : Int) + 1 := by omega
  have hb8 : (i : Int) + 1 ≤ (p : Int) + 1 := by omega
  have hb9 : (i : Int) ≤ (cap : Int) := by omega
  have hb10 : (0 : Int) ≤ (i : Int) := by omega
  have hb11 : i ≤ cap := by omega
  have hr0 : (xs.drop ((i + 1) * 6)).length = (p + 1 - (i + 1)) * 6 := by rw [List.length_drop, hx, Nat.sub_mul]
  have hf0 : i * 6 + (xs.drop ((i + 1) * 6)).length ≤ cur.length := by rw [hr0, hcl]; omega
  have h1d : ∀ u ∈ xs.drop ((i + 1) * 6), u.oneCell' = true := fun u hu => h1x u (List.mem_of_mem_drop hu)
  have hsrc : ∀ j v, (xs.drop ((i + 1) * 6))[j]? = some v → w.drew.cell? ((⟨g, (i + 1) * 6, none⟩ : Addr).add j) = some v := fun j v hj => by
    rw [add_plain]
    rw [List.getElem?_drop, ← hcx, List.getElem?_take] at hj
    have : w.cell? ⟨g, (i + 1) * 6 + j, none⟩ = some v := by
      rw [hk.cell]
      split at hj
      · simpa using hj
      · cases hj
    exact this
  have hlen : i + (p + 1 - (i + 1)) = p := by omega
  have hl1 : (spl cur (i * 6) (xs.drop ((i + 1) * 6))).length = cur.length := spl_length hf0
  have hf2 : p * 6 + pairZ'.toList.length ≤ (spl cur (i * 6) (xs.drop ((i + 1) * 6))).length := by rw [hl1, hcl]; show p * 6 + 6 ≤ _; omega
  have hfin := del_row (cur := cur) (xs := xs) (zs := pairZ'.toList) (i := i) (n := p + 1) (by omega) hx hcx (by rw [hcl]; omega)
  have hfl := spl_length hf2
  have HX := hide hx
  have HCX := hide hcx
  have HCL := hide hcl
  have HLEN := hide hlen
  have HL1 := hide hl1
  have HF2 := hide hf2
  have HFIN := hide hfin
  have HFL := hide hfl
  have HSRC := hide hsrc
  have HR0 := hide hr0
  have HF0 := hide hf0
  clear hx hcx hcl hlen hl1 hf2 hfin hfl hsrc hr0 hf0
  have hkd := hk.drew
  have hz1 : ∀ v ∈ pairZ'.toList, v.oneCell' = true := by decide
  have hcp : ¬ (cap = p) := by omega
  by_cases hce : cap = i + 1
  · obtain rfl : p = i := by omega
    subst hce
    go_enter Tryz.func86, Tryz.ntmps86
    go_wp2
    go_region_law ((refine step_append_blk rfl _ _ 22 rfl 55 6 Tryz.underlying22 size_pair g 55 cur (xs.drop ((p + 1) * 6)) p (p + 1) (some ⟨g, 0, none⟩) 0 0 (by simp [Act.eval, Act.put]) (by simp [Act.eval, Act.put]) hkd (by have := HR0.out; omega) (fun h => absurd h (by omega)) (by omega) HF0.out h1d ?_; rw [Nat.add_zero]; intro w1 hk1 ht1))
    go_wp2_with (refine wpList_clear_blk rfl (.tmp 31) 22 rfl 55 pairZ'.toList Tryz.underlying22 zero_pair zero_cells g (p * 6) 55 (spl cur (p * 6) (xs.drop ((p + 1) * 6))) 1 rfl hk1 HF2.out hz1 ?_; intro w2 hk2 ht2)
    go_ret
    have hgw : w.grownBy w2 (some g) := grown_trans (grown_drew w _) (grown_trans (grown_of_touch ht1) (grown_of_touch ht2))
    refine ⟨_, rfl, ⟨?_, .inr ⟨g, p + 1, _, rfl, hbg, hk2, by omega, by unfold maxLen; omega, ?_, ?_⟩⟩, hgw, .inl rfl⟩
    · simp only [List.length_append, List.length_take, List.length_drop, HX.out]; omega
    · have := HFL.out
      rw [HL1.out, HCL.out] at this
      simpa using this
    · exact HFIN.out
  · go_enter Tryz.func86, Tryz.ntmps86
    go_wp2
    go_region_law ((refine step_append_blk rfl _ _ 22 rfl 55 6 Tryz.underlying22 size_pair g 55 cur (xs.drop ((i + 1) * 6)) i cap (some ⟨g, (i + 1) * 6, none⟩) (p + 1 - (i + 1)) (cap - (i + 1)) (by simp [Act.eval, Act.put]) (by simp [Act.eval, Act.put]) hkd HR0.out (fun _ => ⟨_, rfl, HSRC.out⟩) (by omega) HF0.out h1d ?_; rw [HLEN.out]; intro w1 hk1 ht1))
    go_wp2_with (refine wpList_clear_blk rfl (.tmp 31) 22 rfl 55 pairZ'.toList Tryz.underlying22 zero_pair zero_cells g (p * 6) 55 (spl cur (i * 6) (xs.drop ((i + 1) * 6))) (cap - p) rfl hk1 HF2.out hz1 ?_; intro w2 hk2 ht2)
    go_ret
    have hgw : w.grownBy w2 (some g) := grown_trans (grown_drew w _) (grown_trans (grown_of_touch ht1) (grown_of_touch ht2))
    refine ⟨_, rfl, ⟨?_, .inr ⟨g, cap, _, rfl, hbg, hk2, by omega, by unfold maxLen; omega, ?_, ?_⟩⟩, hgw, .inl rfl⟩
    · simp only [List.length_append, List.length_take, List.length_drop, HX.out]; omega
    · have := HFL.out
      rw [HL1.out, HCL.out] at this
      simpa using this
    · exact HFIN.out

theorem delete_any (v : Value) (n i : Nat) (xs : List Value) (base : Nat) (w : World) (hn : n ≤ 100000) (hi : i < n) (hown : w.ownsRow base 55 6 v n xs) (h1x : ∀ u ∈ xs, u.oneCell' = true) :
    Calls Tryz.prog 86 #[v, .int .i64 (i : Nat), .int .i64 ((i : Int) + 1)] w (RowPost w base v (n - 1) (xs.take (i * 6) ++ xs.drop ((i + 1) * 6))) := by
  obtain ⟨hx, ⟨rfl, h0⟩ | ⟨g, cap, cur, rfl, hbg, hk, hnc, hcm, hs, ht⟩⟩ := hown
  · omega
  · have hk' : Blk w g 55 cur.toList.toArray := by unfold Blk; simpa using hk
    obtain ⟨p, rfl⟩ : ∃ p, n = p + 1 := ⟨n - 1, by omega⟩
    exact delete_row g cap p i cur.toList xs base w hn (by omega) hnc hcm hbg hk' (by simpa using hs) hx ht h1x
end Go.Proofs.YteidmdnhkgcnoaaGreat
