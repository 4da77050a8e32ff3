/-
  WALKS OF THE REFERENCES: moneyerref31.Right, Line of any act.
  WALKS OF THE REFERENCES: moneyerref31.Line of a crash, of any act; moneyerref09.Plain, moneyerref31.Plain.
-/
import Derived.Test.YtgokkbocboonnaaDoorAQ
namespace Go.Proofs.YtgokkbocboonnaaDoor
open Go.RowKit Go.Lib

set_option maxHeartbeats 3200000 in
theorem rRight_any (a cl m lg : Int) (x : OpD) (pages : List Int) (A F : Option Addr) (n c f f' : Nat) (w : World) (hn : n = x.data.length) (hf : f = pages.length) (hf1 : f ≤ 9223372036854775807) (hk : x.key.size ≤ 9223372036854775807) :
    Calls Tryd.prog 24 #[.agg #[.int .i64 a, .int .i64 cl, .int .i64 x.act, .string x.key, .slice A n c, .int .i64 x.lo, .int .i64 x.hi, .int .i64 x.n, .int .i64 m, .slice F f f', .int .i64 lg]] w fun e w' => e = .returned (.bool (isActB ⟨a, cl, x, m, pages, lg⟩)) ∧ Below w.heap.size w w' := by
  by_cases a0 : a < 0
  · have HB := hide (show isActB ⟨a, cl, x, m, pages, lg⟩ = false by unfold isActB; rw [decide_eq_false (show ¬ (0 ≤ a ∧ a ≤ 5) by omega)]; rfl)
    clear hn hf
    rw [HB.out]
    go_enter Tryd.func24, Tryd.ntmps24
    go_wp2
    go_ret
    exact ⟨rfl, (Below.refl _ _).alloc (Nat.le_refl _) _⟩
  by_cases a5 : 5 < a
  · have HB := hide (show isActB ⟨a, cl, x, m, pages, lg⟩ = false by unfold isActB; rw [decide_eq_false (show ¬ (0 ≤ a ∧ a ≤ 5) by omega)]; rfl)
    clear hn hf
    rw [HB.out]
    go_enter Tryd.func24, Tryd.ntmps24
    go_wp2
    go_ret
    exact ⟨rfl, (Below.refl _ _).alloc (Nat.le_refl _) _⟩
  by_cases a2 : a < 2
  · by_cases c0 : cl < 0
    · have HB := hide (show isActB ⟨a, cl, x, m, pages, lg⟩ = false by
        unfold isActB; rw [decide_eq_false (show ¬ (0 ≤ cl ∧ cl < 16) by omega), decide_eq_true a2]; simp)
      clear hn hf
      rw [HB.out]
      go_enter Tryd.func24, Tryd.ntmps24
      go_wp2
      go_ret
      exact ⟨rfl, (Below.refl _ _).alloc (Nat.le_refl _) _⟩
    by_cases c15 : 15 < cl
    · have HB := hide (show isActB ⟨a, cl, x, m, pages, lg⟩ = false by
        unfold isActB; rw [decide_eq_false (show ¬ (0 ≤ cl ∧ cl < 16) by omega), decide_eq_true a2]; simp)
      clear hn hf
      rw [HB.out]
      go_enter Tryd.func24, Tryd.ntmps24
      go_wp2
      go_ret
      exact ⟨rfl, (Below.refl _ _).alloc (Nat.le_refl _) _⟩
    rcases (show a = 0 ∨ a = 1 by omega) with rfl | rfl
    · have e : isActB ⟨0, cl, x, m, pages, lg⟩ = isCallB x := by unfold isActB; rw [decide_eq_true (show 0 ≤ cl ∧ cl < 16 by omega)]; simp
      rw [e]
      exact rRight_call x cl m lg A F n c f f' w hn hk (by omega) (by omega)
    · have HB := hide (show isActB ⟨1, cl, x, m, pages, lg⟩ = true by unfold isActB; rw [decide_eq_true (show 0 ≤ cl ∧ cl < 16 by omega)]; simp)
      clear hn hf
      rw [HB.out]
      go_enter Tryd.func24, Tryd.ntmps24
      go_wp2
      go_ret
      exact ⟨rfl, (Below.refl _ _).alloc (Nat.le_refl _) _⟩
  rcases (show a = 2 ∨ a = 3 ∨ a = 4 ∨ a = 5 by omega) with rfl | rfl | rfl | rfl
  · have HB := hide (show isActB ⟨2, cl, x, m, pages, lg⟩ = true from rfl)
    clear hn hf
    rw [HB.out]
    go_enter Tryd.func24, Tryd.ntmps24
    go_wp2
    go_ret
    exact ⟨rfl, (Below.refl _ _).alloc (Nat.le_refl _) _⟩
  · have HB := hide (show isActB ⟨3, cl, x, m, pages, lg⟩ = true from rfl)
    clear hn hf
    rw [HB.out]
    go_enter Tryd.func24, Tryd.ntmps24
    go_wp2
    go_ret
    exact ⟨rfl, (Below.refl _ _).alloc (Nat.le_refl _) _⟩
  · by_cases h60 : f ≤ 60
    · have HB := hide (show isActB ⟨4, cl, x, m, pages, lg⟩ = true by unfold isActB; simp; omega)
      have h61 : (f : Int) ≤ 60 := by omega
      clear hn hf
      rw [HB.out]
      go_enter Tryd.func24, Tryd.ntmps24
      go_wp2
      go_ret
      exact ⟨rfl, (Below.refl _ _).alloc (Nat.le_refl _) _⟩
    · have HB := hide (show isActB ⟨4, cl, x, m, pages, lg⟩ = false by unfold isActB; simp; omega)
      have h61 : ¬ (f : Int) ≤ 60 := by omega
      clear hn hf
      rw [HB.out]
      go_enter Tryd.func24, Tryd.ntmps24
      go_wp2
      go_ret
      exact ⟨rfl, (Below.refl _ _).alloc (Nat.le_refl _) _⟩
  · have HB := hide (show isActB ⟨5, cl, x, m, pages, lg⟩ = true from rfl)
    clear hn hf
    rw [HB.out]
    go_enter Tryd.func24, Tryd.ntmps24
    go_wp2
    go_ret
    exact ⟨rfl, (Below.refl _ _).alloc (Nat.le_refl _) _⟩

def rlineV (s : List UInt8) : Value := .tuple #[.string (tx s), .bool true]
theorem ret_rline {s : ByteArray} {l : List UInt8} (h : s.data.toList = l) : Ending.returned (.tuple #[.string s, .bool true]) = .returned (rlineV l) := by
  subst h
  rfl
set_option maxHeartbeats 1600000 in
theorem rLine_no (a : Int) (cl m lg : Int) (x : OpD) (pages : List Int) (A F : Option Addr) (n c f f' : Nat) (w : World) (hn : n = x.data.length) (hf : f = pages.length) (hf1 : f ≤ 9223372036854775807) (hk : x.key.size ≤ 9223372036854775807) (hb : isActB ⟨a, cl, x, m, pages, lg⟩ = false) :
    Calls Tryd.prog 11 #[.agg #[.int .i64 a, .int .i64 cl, .int .i64 x.act, .string x.key, .slice A n c, .int .i64 x.lo, .int .i64 x.hi, .int .i64 x.n, .int .i64 m, .slice F f f', .int .i64 lg]] w fun e w' => e = .returned (.tuple #[.string ⟨#[]⟩, .bool false]) ∧ Below w.heap.size w w' := by
  have HC := hide (fun W => rRight_any a cl m lg x pages A F n c f f' W hn hf hf1 hk)
  rw [hb] at HC
  clear hn hf hb
  go_enter Tryd.func11, Tryd.ntmps11
  go_wp2_with (go_at_call 24; refine (HC.out _).mono ?_; rintro e w1 ⟨rfl, hb1⟩)
  go_ret2
  exact ⟨rfl, below_via ((Below.refl _ _).alloc (Nat.le_refl _) _) hb1 (by simp)⟩
set_option maxHeartbeats 1600000 in
theorem rLine_check (cl m lg : Int) (x : OpD) (pages : List Int) (A F : Option Addr) (n c f f' : Nat) (w : World) (hn : n = x.data.length) (hf : f = pages.length) (hf1 : f ≤ 9223372036854775807) (hk : x.key.size ≤ 9223372036854775807) : Calls Tryd.prog 11 #[.agg #[.int .i64 2, .int .i64 cl, .int .i64 x.act, .string x.key, .slice A n c, .int .i64 x.lo, .int .i64 x.hi, .int .i64 x.n, .int .i64 m, .slice F f f', .int .i64 lg]] w fun e w' => e = .returned (rlineV (actT ⟨2, cl, x, m, pages, lg⟩)) ∧ Below w.heap.size w w' := by
  have HC := hide (fun W => rRight_any 2 cl m lg x pages A F n c f f' W hn hf hf1 hk)
  rw [show isActB (⟨2, cl, x, m, pages, lg⟩ : ActD) = true from rfl] at HC
  clear hn hf
  go_enter Tryd.func11, Tryd.ntmps11
  go_wp2_with (go_at_call 24; refine (HC.out _).mono ?_; rintro e w1 ⟨rfl, hb1⟩; have k1 := Blk.via hb1 (Blk.new w _ _); have q1 := k1.cell; have l1 := k1.lt; have hbw1 := below_via ((Below.refl _ w).alloc (Nat.le_refl _) _) hb1 (by simp))
  go_ret2
  exact ⟨ret_rline rfl, hbw1.alloc hbw1.size _⟩
set_option maxHeartbeats 1600000 in
theorem rLine_open (cl m lg : Int) (x : OpD) (pages : List Int) (A F : Option Addr) (n c f f' : Nat) (w : World) (hn : n = x.data.length) (hf : f = pages.length) (hf1 : f ≤ 9223372036854775807) (hk : x.key.size ≤ 9223372036854775807) : Calls Tryd.prog 11 #[.agg #[.int .i64 5, .int .i64 cl, .int .i64 x.act, .string x.key, .slice A n c, .int .i64 x.lo, .int .i64 x.hi, .int .i64 x.n, .int .i64 m, .slice F f f', .int .i64 lg]] w fun e w' => e = .returned (rlineV (actT ⟨5, cl, x, m, pages, lg⟩)) ∧ Below w.heap.size w w' := by
  have HC := hide (fun W => rRight_any 5 cl m lg x pages A F n c f f' W hn hf hf1 hk)
  rw [show isActB (⟨5, cl, x, m, pages, lg⟩ : ActD) = true from rfl] at HC
  clear hn hf
  go_enter Tryd.func11, Tryd.ntmps11
  go_wp2_with (go_at_call 24; refine (HC.out _).mono ?_; rintro e w1 ⟨rfl, hb1⟩; have k1 := Blk.via hb1 (Blk.new w _ _); have q1 := k1.cell; have l1 := k1.lt; have hbw1 := below_via ((Below.refl _ w).alloc (Nat.le_refl _) _) hb1 (by simp))
  go_ret2
  exact ⟨ret_rline rfl, hbw1.alloc hbw1.size _⟩
set_option maxHeartbeats 1600000 in
theorem rLine_fuse (cl m lg : Int) (x : OpD) (pages : List Int) (A F : Option Addr) (n c f f' : Nat) (w : World) (hn : n = x.data.length) (hf : f = pages.length) (hf1 : f ≤ 9223372036854775807) (hk : x.key.size ≤ 9223372036854775807) (hi : inI m) : Calls Tryd.prog 11 #[.agg #[.int .i64 3, .int .i64 cl, .int .i64 x.act, .string x.key, .slice A n c, .int .i64 x.lo, .int .i64 x.hi, .int .i64 x.n, .int .i64 m, .slice F f f', .int .i64 lg]] w fun e w' => e = .returned (rlineV (actT ⟨3, cl, x, m, pages, lg⟩)) ∧ Below w.heap.size w w' := by
  have HC := hide (fun W => rRight_any 3 cl m lg x pages A F n c f f' W hn hf hf1 hk)
  rw [show isActB (⟨3, cl, x, m, pages, lg⟩ : ActD) = true from rfl] at HC
  obtain ⟨sn, HN1, HN2, hns⟩ := letter (num m)
  have hl := num_len (show inI m from hi)
  have HN := hide (fun W => HN1.out ▸ Num_any m W hi.1 hi.2)
  clear hn hf hi HN1
  go_enter Tryd.func11, Tryd.ntmps11
  go_wp2_with (first
    | (go_at_call 24; refine (HC.out _).mono ?_; rintro e w1 ⟨rfl, hb1⟩; have k1 := Blk.via hb1 (Blk.new w _ _); have q1 := k1.cell; have l1 := k1.lt; have hbw1 := below_via ((Below.refl _ w).alloc (Nat.le_refl _) _) hb1 (by simp))
    | (go_at_call 25; refine (HN.out _).mono ?_; rintro e w' ⟨rfl, rfl⟩))
  go_ret2
  refine ⟨ret_rline ?_, hbw1.alloc hbw1.size _⟩
  simp only [ByteArray.data_append, Array.toList_append, HN2.out]
  rfl
set_option maxHeartbeats 1600000 in
theorem rLine_step (cl m lg : Int) (x : OpD) (pages : List Int) (A F : Option Addr) (n c f f' : Nat) (w : World) (hn : n = x.data.length) (hf : f = pages.length) (hf1 : f ≤ 9223372036854775807) (hk : x.key.size ≤ 9223372036854775807) (hc : 0 ≤ cl ∧ cl < 16) (hi : inI cl) : Calls Tryd.prog 11 #[.agg #[.int .i64 1, .int .i64 cl, .int .i64 x.act, .string x.key, .slice A n c, .int .i64 x.lo, .int .i64 x.hi, .int .i64 x.n, .int .i64 m, .slice F f f', .int .i64 lg]] w fun e w' => e = .returned (rlineV (actT ⟨1, cl, x, m, pages, lg⟩)) ∧ Below w.heap.size w w' := by
  have HC := hide (fun W => rRight_any 1 cl m lg x pages A F n c f f' W hn hf hf1 hk)
  rw [show isActB (⟨1, cl, x, m, pages, lg⟩ : ActD) = true by unfold isActB; simp [hc.1, hc.2]] at HC
  obtain ⟨sn, HN1, HN2, hns⟩ := letter (num cl)
  have hl := num_len (show inI cl from hi)
  have HN := hide (fun W => HN1.out ▸ Num_any cl W hi.1 hi.2)
  clear hn hf hi HN1
  go_enter Tryd.func11, Tryd.ntmps11
  go_wp2_with (first
    | (go_at_call 24; refine (HC.out _).mono ?_; rintro e w1 ⟨rfl, hb1⟩; have k1 := Blk.via hb1 (Blk.new w _ _); have q1 := k1.cell; have l1 := k1.lt; have hbw1 := below_via ((Below.refl _ w).alloc (Nat.le_refl _) _) hb1 (by simp))
    | (go_at_call 25; refine (HN.out _).mono ?_; rintro e w' ⟨rfl, rfl⟩))
  go_ret2
  refine ⟨ret_rline ?_, hbw1.alloc hbw1.size _⟩
  simp only [ByteArray.data_append, Array.toList_append, HN2.out]
  rfl
set_option maxHeartbeats 3200000 in
theorem rLine_call (cl m lg : Int) (x : OpD) (pages : List Int) (A F : Option Addr) (n c f f' : Nat) (w : World) (hn : n = x.data.length) (hf : f = pages.length) (hf1 : f ≤ 9223372036854775807) (hk : x.key.size ≤ 9223372036854775807) (B : Nat) (hB : B ≤ w.heap.size) (hs : OpSm x) (h : BytesAt w B (.slice A n c) x.data) (hc : 0 ≤ cl ∧ cl < 16) (hi : inI cl) (hb : isCallB x = true) : Calls Tryd.prog 11 #[.agg #[.int .i64 0, .int .i64 cl, .int .i64 x.act, .string x.key, .slice A n c, .int .i64 x.lo, .int .i64 x.hi, .int .i64 x.n, .int .i64 m, .slice F f f', .int .i64 lg]] w fun e w' => e = .returned (rlineV (actT ⟨0, cl, x, m, pages, lg⟩)) ∧ Below w.heap.size w w' := by
  have HC := hide (fun W => rRight_any 0 cl m lg x pages A F n c f f' W hn hf hf1 hk)
  rw [show isActB (⟨0, cl, x, m, pages, lg⟩ : ActD) = true by unfold isActB; simp [hc.1, hc.2, hb]] at HC
  obtain ⟨sn, HN1, HN2, hns⟩ := letter (num cl)
  have hl := num_len (show inI cl from hi)
  obtain ⟨sc, HS1, HS2, hss⟩ := letter (callT x)
  have hl2 := callT_len hs
  have HN := hide (fun W => HN1.out ▸ Num_any cl W hi.1 hi.2)
  have HO := hide (fun W (hW : Below w.heap.size w W) => HS1.out ▸ rOp_any x A n c B W (Nat.le_trans hB hW.size) hs (h.below hW hB) hb)
  clear hn hf hi HN1 HS1 h hb hs
  go_enter Tryd.func11, Tryd.ntmps11
  go_wp2_with (first
    | (go_at_call 24; refine (HC.out _).mono ?_; rintro e w1 ⟨rfl, hb1⟩; have k1 := Blk.via hb1 (Blk.new w _ _); have q1 := k1.cell; have l1 := k1.lt; have hbw1 := below_via ((Below.refl _ w).alloc (Nat.le_refl _) _) hb1 (by simp))
    | (go_at_call 25; refine (HN.out _).mono ?_; rintro e w' ⟨rfl, rfl⟩)
    | (go_at_call 26; refine (HO.out _ (hbw1.alloc hbw1.size _)).mono ?_; rintro e w2 ⟨rfl, hb2⟩; have hbw2 := below_via (hbw1.alloc hbw1.size _) hb2 (by have := hbw1.size; simp; omega); have k2 := Blk.via hb2 (k1.alloc _); have q2 := k2.cell))
  go_ret2
  refine ⟨ret_rline ?_, hbw2⟩
  simp only [ByteArray.data_append, Array.toList_append, HN2.out, HS2.out]
  simp [actT]
end Go.Proofs.YtgokkbocboonnaaDoor
namespace Go.Proofs.YtgokkbocboonnaaDoor
open Go.RowKit Go.Lib

theorem numsT_len (ns : List Int) (h : ∀ n ∈ ns, inI n) : (numsT ns).length ≤ 22 * ns.length := by
  induction ns with
  | nil => simp [numsT]
  | cons n r ih =>
    have h2 := ih (fun x hx => h x (List.mem_cons_of_mem _ hx))
    have h3 := num_len (h n List.mem_cons_self)
    unfold numsT at h2 ⊢
    simp only [List.flatMap_cons, List.length_append, List.length_cons] at h2 ⊢
    omega
theorem numsT_snoc {ns : List Int} {k : Nat} {z : Int} (h : ns[k]? = some z) : numsT (ns.take (k + 1)) = numsT (ns.take k) ++ 32 :: num z := by
  obtain ⟨hk, e⟩ := List.getElem?_eq_some_iff.1 h
  rw [List.take_succ_eq_append_getElem hk, e]
  simp [numsT]
/-- The text so far. -/
def RLRel (lg : Int) (pages : List Int) (f : Nat) (s i : Value) : Prop :=
  ∃ (k : Nat) (l : ByteArray), k ≤ f ∧ i = .int .i64 k ∧ s = .string l ∧ Hid (l.data.toList = wCrash ++ (32 :: num lg ++ numsT (pages.take k))) ∧ l.size ≤ 2000
theorem size_text (l : ByteArray) : l.size = l.data.toList.length := (Array.length_toList (xs := l.data)).symm
set_option maxHeartbeats 3200000 in
theorem rLine_crash (cl m lg : Int) (x : OpD) (pages : List Int) (A F : Option Addr) (n c f f' : Nat) (w : World) (hn : n = x.data.length) (hf : f = pages.length) (hf1 : f ≤ 9223372036854775807) (hk : x.key.size ≤ 9223372036854775807) (B : Nat) (hB : B ≤ w.heap.size) (hp : Ints w B F f pages) (h60 : f ≤ 60) (hi : inI lg) (hpi : ∀ p ∈ pages, inI p) : Calls Tryd.prog 11 #[.agg #[.int .i64 4, .int .i64 cl, .int .i64 x.act, .string x.key, .slice A n c, .int .i64 x.lo, .int .i64 x.hi, .int .i64 x.n, .int .i64 m, .slice F f f', .int .i64 lg]] w fun e w' => e = .returned (rlineV (actT ⟨4, cl, x, m, pages, lg⟩)) ∧ Below w.heap.size w w' := by
  have HC := hide (fun W => rRight_any 4 cl m lg x pages A F n c f f' W hn hf hf1 hk)
  rw [show isActB (⟨4, cl, x, m, pages, lg⟩ : ActD) = true by unfold isActB; simp; omega] at HC
  obtain ⟨sl, HL1, HL2, hls⟩ := letter (num lg)
  have hl := num_len hi
  have HNL := hide (fun W => HL1.out ▸ Num_any lg W hi.1 hi.2)
  have HN := hide (fun (z : Int) (hz : inI z) W => Num_any z W hz.1 hz.2)
  have HPI := hide hpi
  have HF := hide hf
  have HTL := hide (fun k => numsT_len (pages.take k) (fun x hx => hpi x (List.mem_of_mem_take hx)))
  clear hn hf hi hpi HL1
  go_enter Tryd.func11, Tryd.ntmps11
  go_wp2_with (first
    | (go_at_call 24; refine (HC.out _).mono ?_; rintro e w1 ⟨rfl, hb1⟩; have k1 := (Blk.via hb1 (Blk.new w _ _)).alloc (.cells #[.string ⟨#[99, 97, 108, 108]⟩, .string ⟨#[115, 116, 101, 112]⟩, .string ⟨#[99, 104, 101, 99, 107]⟩, .string ⟨#[102, 117, 115, 101]⟩, .string ⟨#[99, 114, 97, 115, 104]⟩, .string ⟨#[111, 112, 101, 110]⟩] 9); have q1 := (Blk.via hb1 (Blk.new w _ _)).cell; have l1 := (Blk.via hb1 (Blk.new w _ _)).lt; have hbw1 := below_via ((Below.refl _ w).alloc (Nat.le_refl _) _) hb1 (by simp))
    | (go_at_call 25; refine (HNL.out _).mono ?_; rintro e w' ⟨rfl, rfl⟩))
  go_loop [4, 5] (RLRel lg pages f) (fun _ i => f - (intOf i).toNat)
  case atStart =>
    have e1 : ((⟨#[99, 114, 97, 115, 104]⟩ : ByteArray) ++ ⟨#[32]⟩ ++ sl).data.toList = wCrash ++ (32 :: num lg ++ numsT (pages.take 0)) := by
      simp only [ByteArray.data_append, Array.toList_append, HL2.out]
      simp [wCrash, numsT]
    refine ⟨0, _, Nat.zero_le _, rfl, rfl, e1, ?_⟩
    rw [size_text, e1]
    have h3 : wCrash.length = 5 := rfl
    have h4 : (numsT (pages.take 0)).length = 0 := rfl
    simp only [List.length_append, List.length_cons]
    omega
  case round =>
    obtain ⟨k, l, hk1, rfl, rfl, HS, hls2⟩ := hrel
    by_cases hlt : k < f
    · have hpw := hp.below (hbw1.alloc hbw1.size (.cells #[.string ⟨#[99, 97, 108, 108]⟩, .string ⟨#[115, 116, 101, 112]⟩, .string ⟨#[99, 104, 101, 99, 107]⟩, .string ⟨#[102, 117, 115, 101]⟩, .string ⟨#[99, 114, 97, 115, 104]⟩, .string ⟨#[111, 112, 101, 110]⟩] 9)) hB
      obtain ⟨b, o, z, rfl, hb, hkx, c0⟩ := hpw.at_ (k := k) hlt
      obtain ⟨sz, HZ1, HZ2, hzs⟩ := letter (num z)
      have hzi := HPI.out z (List.mem_of_getElem? hkx)
      have hzl := num_len hzi
      have HZ := hide (fun W => HZ1.out ▸ HN.out z hzi W)
      have HX := hide hkx
      have s1 : (k : Int) < f := by omega
      have s0 : (0 : Int) ≤ k := by omega
      clear hkx hzi HZ1
      go_wp2_with (go_at_call 25; refine (HZ.out _).mono ?_; rintro e w' ⟨rfl, rfl⟩)
      go_round
      case rel =>
        have e1 : (l ++ ⟨#[32]⟩ ++ sz).data.toList = wCrash ++ (32 :: num lg ++ numsT (pages.take (k + 1))) := by
          rw [ByteArray.data_append, Array.toList_append, ByteArray.data_append, Array.toList_append, HS.out, HZ2.out, numsT_snoc HX.out]
          simp
        refine ⟨k + 1, _, by omega, by go_num, rfl, e1, ?_⟩
        rw [size_text, e1]
        have := HTL.out (k + 1)
        have h3 : wCrash.length = 5 := rfl
        simp only [List.length_append, List.length_cons, List.length_take] at this ⊢
        omega
      case measure => simp [intOf]; omega
    · obtain rfl : k = f := by omega
      go_wp2
      go_ret2
      refine ⟨ret_rline ?_, hbw1.alloc hbw1.size _⟩
      rw [HS.out, List.take_of_length_le (by rw [← HF.out]; exact Nat.le_refl _)]
      simp [actT, wCrash, numsT]
/-- What moneyerref31.Line tells. -/
def RLinePost (w : World) (a : ActD) (e : Ending) (w' : World) : Prop :=
  Below w.heap.size w w' ∧ ((isActB a = false ∧ e = .returned (.tuple #[.string ⟨#[]⟩, .bool false])) ∨ (isActB a = true ∧ e = .returned (rlineV (actT a))))
theorem rLine_any (x : ActV) (B : Nat) (w : World) (hB : B ≤ w.heap.size) (hs : OpSm x.d.op) (hi : ActIn x.d) (hok : ActOk w B x) (hpm : x.d.pages.length ≤ 1000000) :
    Calls Tryd.prog 11 #[actV x] w (RLinePost w x.d) := by
  obtain ⟨⟨a, cl, op, m, pages, lg⟩, dv, pv⟩ := x
  obtain ⟨hd, A2, c2, hp1, hp2, hp3⟩ := hok
  obtain ⟨A, n, c, hd1, hd2, hd3, hd4, hd5⟩ := hd
  dsimp only at *
  subst hd1 hp1
  have hd' : BytesAt w B (.slice A n c) op.data := ⟨A, n, c, rfl, hd2, hd3, hd4, hd5⟩
  have hk : op.key.size ≤ 9223372036854775807 := by have := hs.1; omega
  unfold actV
  dsimp only
  cases hb : isActB ⟨a, cl, op, m, pages, lg⟩
  · exact (rLine_no a cl m lg op pages A A2 n c pages.length c2 w hd4 rfl (by omega) hk hb).mono fun e w' h => ⟨h.2, .inl ⟨hb, h.1⟩⟩
  · have h05 := isActB_act hb
    dsimp only at h05
    have hb' := hb
    unfold isActB at hb'
    simp only [Bool.and_eq_true, Bool.or_eq_true, Bool.not_eq_true', decide_eq_true_eq, decide_eq_false_iff_not] at hb'
    obtain ⟨⟨⟨_, hcl⟩, hop⟩, hpg⟩ := hb'
    have hpl : pages.length ≤ 9223372036854775807 := by omega
    have mk : ∀ e w', e = .returned (rlineV (actT ⟨a, cl, op, m, pages, lg⟩)) ∧ Below w.heap.size w w' → RLinePost w ⟨a, cl, op, m, pages, lg⟩ e w' := fun e w' h => ⟨h.2, .inr ⟨hb, h.1⟩⟩
    rcases (show a = 0 ∨ a = 1 ∨ a = 2 ∨ a = 3 ∨ a = 4 ∨ a = 5 by omega) with rfl | rfl | rfl | rfl | rfl | rfl
    · have hc : isCallB op = true := hop.resolve_left (fun h => h rfl)
      have h2 := hcl.resolve_left (fun h => h (by omega))
      exact (rLine_call cl m lg op pages A A2 n c pages.length c2 w hd4 rfl hpl hk B hB hs hd' h2 hi.2.1 hc).mono mk
    · have h2 := hcl.resolve_left (fun h => h (by omega))
      exact (rLine_step cl m lg op pages A A2 n c pages.length c2 w hd4 rfl hpl hk h2 hi.2.1).mono mk
    · exact (rLine_check cl m lg op pages A A2 n c pages.length c2 w hd4 rfl hpl hk).mono mk
    · exact (rLine_fuse cl m lg op pages A A2 n c pages.length c2 w hd4 rfl hpl hk hi.2.2.2.1).mono mk
    · have h60 := hpg.resolve_left (fun h => h rfl)
      exact (rLine_crash cl m lg op pages A A2 n c pages.length c2 w hd4 rfl hpl hk B hB hp3 h60 hi.2.2.2.2.1 hi.2.2.2.2.2).mono mk
    · exact (rLine_open cl m lg op pages A A2 n c pages.length c2 w hd4 rfl hpl hk).mono mk
end Go.Proofs.YtgokkbocboonnaaDoor
