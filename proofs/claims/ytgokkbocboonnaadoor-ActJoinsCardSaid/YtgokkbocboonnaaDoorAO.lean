/-
  WALK OF THE PROGRAM: act.Line of any act.
-/
import Derived.Test.YtgokkbocboonnaaDoorAN
import Derived.Test.YtgokkbocboonnaaDoorAE
namespace Go.Proofs.YtgokkbocboonnaaDoor
open Go.RowKit Go.Lib

theorem row_via {W W' : World} {base n : Nat} {e : TypeId} {size : Nat} {v : Value} {xs : List Value} (h : W.ownsRow base e size v n xs) (hb : Below W.heap.size W W') : W'.ownsRow base e size v n xs :=
  row_keep h fun q hq => hb.block q (World.ownsRow.lt h q hq).2
theorem row_alloc {W : World} {base n : Nat} {e : TypeId} {size : Nat} {v : Value} {xs : List Value} (h : W.ownsRow base e size v n xs) (o : Obj) : (W.alloc o).ownsRow base e size v n xs := World.ownsRow.alloc h o
def lineV (s : List UInt8) : Value := .tuple #[.string (tx s), .int .i64 0]
set_option maxHeartbeats 1600000 in
theorem actLine_no (a : Int) (cl m lg : Int) (x : OpD) (pages : List Int) (A F : Option Addr) (n c f f' : Nat) (w : World) (hn : n = x.data.length) (hf : f = pages.length) (hf1 : f ≤ 9223372036854775807) (hk : x.key.size ≤ 9223372036854775807) (hb : isActB (⟨a, cl, x, m, pages, lg⟩ : ActD) = false) :
    Calls Tryd.prog 14 #[.agg #[.int .i64 a, .int .i64 cl, .int .i64 x.act, .string x.key, .slice A n c, .int .i64 x.lo, .int .i64 x.hi, .int .i64 x.n, .int .i64 m, .slice F f f', .int .i64 lg]] w fun e w' => e = .returned (.tuple #[.string ⟨#[]⟩, .int .i64 1]) ∧ Below w.heap.size w w' := by
  have HC := hide (fun W => actCheck_any a cl m lg x pages A F n c f f' W hn hf hf1 hk)
  rw [hb] at HC
  clear hn hf hb
  go_enter Tryd.func14, Tryd.ntmps14
  go_wp2_with (go_at_call 15; refine (HC.out _).mono ?_; rintro e w1 ⟨rfl, hb1⟩)
  go_ret2
  exact ⟨rfl, below_via ((Below.refl _ _).alloc (Nat.le_refl _) _) hb1 (by simp)⟩
theorem ret_line {s : ByteArray} {l : List UInt8} (h : s.data.toList = l) : Ending.returned (.tuple #[.string s, .int .i64 0]) = .returned (lineV l) := by
  subst h
  rfl
set_option maxHeartbeats 1600000 in
theorem actLine_check (cl m lg : Int) (x : OpD) (pages : List Int) (A F : Option Addr) (n c f f' : Nat) (w : World) (hn : n = x.data.length) (hf : f = pages.length) (hf1 : f ≤ 9223372036854775807) (hk : x.key.size ≤ 9223372036854775807) :
    Calls Tryd.prog 14 #[.agg #[.int .i64 2, .int .i64 cl, .int .i64 x.act, .string x.key, .slice A n c, .int .i64 x.lo, .int .i64 x.hi, .int .i64 x.n, .int .i64 m, .slice F f f', .int .i64 lg]] w fun e w' => e = .returned (lineV (actT ⟨2, cl, x, m, pages, lg⟩)) ∧ Below w.heap.size w w' := by
  have HC := hide (fun W => actCheck_any 2 cl m lg x pages A F n c f f' W hn hf hf1 hk)
  rw [show isActB (⟨2, cl, x, m, pages, lg⟩ : ActD) = true from rfl] at HC
  clear hn hf
  go_enter Tryd.func14, Tryd.ntmps14
  go_wp2_with (go_at_call 15; refine (HC.out _).mono ?_; rintro e w1 ⟨rfl, hb1⟩; have q1 := (Blk.via hb1 (Blk.new w _ _)).cell)
  go_ret2
  exact ⟨ret_line rfl, below_via ((Below.refl _ _).alloc (Nat.le_refl _) _) hb1 (by simp)⟩
set_option maxHeartbeats 1600000 in
theorem actLine_open (cl m lg : Int) (x : OpD) (pages : List Int) (A F : Option Addr) (n c f f' : Nat) (w : World) (hn : n = x.data.length) (hf : f = pages.length) (hf1 : f ≤ 9223372036854775807) (hk : x.key.size ≤ 9223372036854775807) :
    Calls Tryd.prog 14 #[.agg #[.int .i64 5, .int .i64 cl, .int .i64 x.act, .string x.key, .slice A n c, .int .i64 x.lo, .int .i64 x.hi, .int .i64 x.n, .int .i64 m, .slice F f f', .int .i64 lg]] w fun e w' => e = .returned (lineV (actT ⟨5, cl, x, m, pages, lg⟩)) ∧ Below w.heap.size w w' := by
  have HC := hide (fun W => actCheck_any 5 cl m lg x pages A F n c f f' W hn hf hf1 hk)
  rw [show isActB (⟨5, cl, x, m, pages, lg⟩ : ActD) = true from rfl] at HC
  clear hn hf
  go_enter Tryd.func14, Tryd.ntmps14
  go_wp2_with (go_at_call 15; refine (HC.out _).mono ?_; rintro e w1 ⟨rfl, hb1⟩; have q1 := (Blk.via hb1 (Blk.new w _ _)).cell)
  go_ret2
  exact ⟨ret_line rfl, below_via ((Below.refl _ _).alloc (Nat.le_refl _) _) hb1 (by simp)⟩
set_option maxHeartbeats 1600000 in
theorem actLine_fuse (cl m lg : Int) (x : OpD) (pages : List Int) (A F : Option Addr) (n c f f' : Nat) (w : World) (hn : n = x.data.length) (hf : f = pages.length) (hf1 : f ≤ 9223372036854775807) (hk : x.key.size ≤ 9223372036854775807) (hi : inI m) (ht : PTab w) :
    Calls Tryd.prog 14 #[.agg #[.int .i64 3, .int .i64 cl, .int .i64 x.act, .string x.key, .slice A n c, .int .i64 x.lo, .int .i64 x.hi, .int .i64 x.n, .int .i64 m, .slice F f f', .int .i64 lg]] w fun e w' => e = .returned (lineV (actT ⟨3, cl, x, m, pages, lg⟩)) ∧ Below w.heap.size w w' := by
  have HC := hide (fun W => actCheck_any 3 cl m lg x pages A F n c f f' W hn hf hf1 hk)
  rw [show isActB (⟨3, cl, x, m, pages, lg⟩ : ActD) = true from rfl] at HC
  obtain ⟨sn, HN1, HN2, hns⟩ := letter (num m)
  have hl := num_len (show inI m from hi)
  have HN := hide (fun W (hb' : Below w.heap.size w W) => HN1.out ▸ anumber_any m W hi.1 hi.2 (ht.below hb'))
  clear hn hf ht hi HN1
  go_enter Tryd.func14, Tryd.ntmps14
  go_wp2_with (first
    | (go_at_call 15; refine (HC.out _).mono ?_; rintro e w1 ⟨rfl, hb1⟩; have q1 := (Blk.via hb1 (Blk.new w _ _)).cell; have hbw1 := below_via ((Below.refl _ w).alloc (Nat.le_refl _) _) hb1 (by simp))
    | (go_at_call 30; refine (HN.out _ hbw1).mono ?_; rintro e w2 ⟨rfl, hb2⟩; have hbw2 := below_via hbw1 hb2 hbw1.size)
    | (go_at_call 29; refine (ajoin2 _ _ _ _ _ (Blk.new _ _ _) (by show 4 + sn.size ≤ _; omega)).mono ?_; rintro e w3 ⟨rfl, hb3⟩; have hbw3 := below_via (hbw2.alloc hbw2.size _) hb3 (by have := hbw2.size; simp; omega)))
  go_ret2
  exact ⟨by rw [HN2.out]; exact ret_line (tx_data _), hbw3⟩
set_option maxHeartbeats 1600000 in
theorem actLine_step (cl m lg : Int) (x : OpD) (pages : List Int) (A F : Option Addr) (n c f f' : Nat) (w : World) (hn : n = x.data.length) (hf : f = pages.length) (hf1 : f ≤ 9223372036854775807) (hk : x.key.size ≤ 9223372036854775807) (hc : 0 ≤ cl ∧ cl < 16) (hi : inI cl) (ht : PTab w) :
    Calls Tryd.prog 14 #[.agg #[.int .i64 1, .int .i64 cl, .int .i64 x.act, .string x.key, .slice A n c, .int .i64 x.lo, .int .i64 x.hi, .int .i64 x.n, .int .i64 m, .slice F f f', .int .i64 lg]] w fun e w' => e = .returned (lineV (actT ⟨1, cl, x, m, pages, lg⟩)) ∧ Below w.heap.size w w' := by
  have HC := hide (fun W => actCheck_any 1 cl m lg x pages A F n c f f' W hn hf hf1 hk)
  rw [show isActB (⟨1, cl, x, m, pages, lg⟩ : ActD) = true by unfold isActB; simp [hc.1, hc.2]] at HC
  obtain ⟨sn, HN1, HN2, hns⟩ := letter (num cl)
  have hl := num_len (show inI cl from hi)
  have HN := hide (fun W (hb' : Below w.heap.size w W) => HN1.out ▸ anumber_any cl W hi.1 hi.2 (ht.below hb'))
  clear hn hf ht hi HN1
  go_enter Tryd.func14, Tryd.ntmps14
  go_wp2_with (first
    | (go_at_call 15; refine (HC.out _).mono ?_; rintro e w1 ⟨rfl, hb1⟩; have q1 := (Blk.via hb1 (Blk.new w _ _)).cell; have hbw1 := below_via ((Below.refl _ w).alloc (Nat.le_refl _) _) hb1 (by simp))
    | (go_at_call 30; refine (HN.out _ hbw1).mono ?_; rintro e w2 ⟨rfl, hb2⟩; have hbw2 := below_via hbw1 hb2 hbw1.size)
    | (go_at_call 29; refine (ajoin2 _ _ _ _ _ (Blk.new _ _ _) (by show 4 + sn.size ≤ _; omega)).mono ?_; rintro e w3 ⟨rfl, hb3⟩; have hbw3 := below_via (hbw2.alloc hbw2.size _) hb3 (by have := hbw2.size; simp; omega)))
  go_ret2
  exact ⟨by rw [HN2.out]; exact ret_line (tx_data _), hbw3⟩

def crashW (lg : Int) (ns : List Int) : List (List UInt8) := wCrash :: (lg :: ns).map num
def wordV (l : List UInt8) : Value := .string (tx l)
/-- The words so far. -/
def CrashRel (w : World) (lg : Int) (pages : List Int) (f : Nat) (v i : Value) (wr : World) : Prop :=
  ∃ k : Nat, k ≤ f ∧ i = .int .i64 k ∧ wr.ownsRow w.heap.size 9 1 v (k + 2) ((crashW lg (pages.take k)).map wordV) ∧ Below w.heap.size w wr
theorem crash_join (lg : Int) (ns : List Int) : Lib.join (crashW lg ns) [32] = wCrash ++ numsT (lg :: ns) := by
  have h : ∀ (ws : List (List UInt8)), Lib.join ws [32] = joinW ws := by
    intro ws
    induction ws with
    | nil => rfl
    | cons a r ih =>
      cases r with
      | nil => simp [Lib.join, joinW, List.intercalate]
      | cons b r =>
        rw [joinW_cons a (by simp), ← ih]
        simp [Lib.join, List.intercalate]
  rw [h]
  exact joinW_nums _ _
theorem crash_len (lg : Int) (ns : List Int) (h0 : inI lg) (h : ∀ n ∈ ns, inI n) (hl : ns.length ≤ 1000) : (Lib.join (crashW lg ns) [32]).length ≤ 100000 := by
  rw [crash_join]
  have h1 : ∀ ns : List Int, (∀ n ∈ ns, inI n) → (numsT ns).length ≤ 22 * ns.length := by
    intro ns
    induction ns with
    | nil => intro _; simp [numsT]
    | cons n r ih =>
      intro h
      have h2 := ih (fun x hx => h x (List.mem_cons_of_mem _ hx))
      have h3 := num_len (h n List.mem_cons_self)
      unfold numsT at h2 ⊢
      simp only [List.flatMap_cons, List.length_append, List.length_cons] at h2 ⊢
      omega
  have h2 := h1 (lg :: ns) (fun n hn => (List.mem_cons.1 hn).elim (fun e => e ▸ h0) (h n))
  rw [List.length_append]
  simp only [List.length_cons] at h2
  have : wCrash.length = 5 := rfl
  omega
theorem crash_snoc (lg : Int) {ns : List Int} {k : Nat} {z : Int} (h : ns[k]? = some z) : (crashW lg (ns.take (k + 1))).map wordV = (crashW lg (ns.take k)).map wordV ++ [wordV (num z)] := by
  obtain ⟨hk, e⟩ := List.getElem?_eq_some_iff.1 h
  rw [List.take_succ_eq_append_getElem hk, e]
  simp [crashW]
theorem info_stringA : (Tryd.prog.info? 9).map (fun i => (i.zero, i.size, i.bytes)) = some (some (.string ⟨#[]⟩), 1, 16) := by kernel_rfl
set_option maxHeartbeats 3200000 in
theorem actLine_crash (cl m lg : Int) (x : OpD) (pages : List Int) (A F : Option Addr) (n c f f' : Nat) (w : World) (hn : n = x.data.length) (hf : f = pages.length) (hf1 : f ≤ 9223372036854775807) (hk : x.key.size ≤ 9223372036854775807) (hp : Ints w w.heap.size F f pages) (h60 : f ≤ 60) (hi : inI lg) (hpi : ∀ p ∈ pages, inI p) (ht : PTab w) :
    Calls Tryd.prog 14 #[.agg #[.int .i64 4, .int .i64 cl, .int .i64 x.act, .string x.key, .slice A n c, .int .i64 x.lo, .int .i64 x.hi, .int .i64 x.n, .int .i64 m, .slice F f f', .int .i64 lg]] w fun e w' => e = .returned (lineV (actT ⟨4, cl, x, m, pages, lg⟩)) ∧ Below w.heap.size w w' := by
  have HC := hide (fun W => actCheck_any 4 cl m lg x pages A F n c f f' W hn hf hf1 hk)
  rw [show isActB (⟨4, cl, x, m, pages, lg⟩ : ActD) = true by unfold isActB; simp; omega] at HC
  have HN := hide (fun (z : Int) (hz : inI z) W (hb' : Below w.heap.size w W) => anumber_any z W hz.1 hz.2 (ht.below hb'))
  have HJ := hide (crash_len lg pages hi hpi (by omega))
  have HPI := hide hpi
  have HF := hide hf
  have HI := hide hi
  clear hn hf ht hpi hi
  go_enter Tryd.func14, Tryd.ntmps14
  go_wp2_with (first
    | (go_at_call 15; refine (HC.out _).mono ?_; rintro e w1 ⟨rfl, hb1⟩; have q1 := (Blk.via hb1 (Blk.new w _ _)).cell; have hbw1 := below_via ((Below.refl _ w).alloc (Nat.le_refl _) _) hb1 (by simp))
    | (go_at_call 30; refine (HN.out _ HI.out _ hbw1).mono ?_; rintro e w2 ⟨rfl, hb2⟩; have hbw2 := below_via hbw1 hb2 hbw1.size; have q2 := (Blk.via hb2 (Blk.via hb1 (Blk.new w _ _))).cell; have l2 := (Blk.via hb2 (Blk.via hb1 (Blk.new w _ _))).lt))
  go_loopw [5, 54] (CrashRel w lg pages f) (fun _ i _ => f - (intOf i).toNat)
  case atStart =>
    refine ⟨0, Nat.zero_le _, rfl, ?_, hbw2.alloc hbw2.size _⟩
    exact World.ownsRow_lit w2 #[.string ⟨#[99, 114, 97, 115, 104]⟩, .string (tx (Lib.itoa lg))] 2 hbw2.size (by unfold maxLen; omega) rfl
  case round =>
    obtain ⟨k, hk1, rfl, hown, hbw⟩ := hrel
    by_cases hlt : k < f
    · obtain ⟨b, o, z, rfl, hb, hkx, c0⟩ := (hp.below hbw (Nat.le_refl _)).at_ (k := k) hlt
      have HZ := hide hkx
      have hzi := HPI.out z (List.mem_of_getElem? hkx)
      have HZI := hide hzi
      have s1 : (k : Int) < f := by omega
      have s0 : (0 : Int) ≤ k := by omega
      obtain ⟨A1, c1, rfl, hnc1, _, _, _, _⟩ := own_slice hown
      have HOWN := hide hown
      clear hkx hzi hown
      go_wp2_with fail
      refine (HN.out z HZI.out _ hbw).mono ?_
      rintro e w3 ⟨rfl, hb3⟩
      have hbw3 := below_via hbw hb3 hbw.size
      have HO3 := hide (row_via HOWN.out hb3)
      obtain ⟨i0, hi, hz0, hz1, hz2⟩ := info_parts info_stringA
      go_wp2_with (at_builtin; refine wpList_append_any _ rfl _ _ _ rfl w.heap.size 9 i0 _ 1 16 Tryd.underlying51 hi hz0 hz1 hz2 rfl (by omega) (.slice A1 (k + 2) c1) (k + 2) _ rfl (row_alloc HO3.out _) (w3.heap.size + 1) (some ⟨w3.heap.size, 0, none⟩) 1 1 [wordV (num z)] rfl (Reads.of_blk (n := 1) (size := 1) (Blk.new _ _ _) rfl) ?c3 ?c4 ?c5 ?c6 ?_)
      case c3 => intro u hu; rw [List.mem_singleton] at hu; subst hu; rfl
      case c4 => unfold maxLen; omega
      case c5 => omega
      case c6 => have := hbw3.size; simp; omega
      intro v' w4 hown4 hg4 _
      go_wp2
      go_roundw
      case rel =>
        refine ⟨k + 1, by omega, by go_num, ?_, (hbw3.alloc hbw3.size _).grown hg4 (by have := hbw3.size; simp; omega) (fun q hq => (HOWN.out.lt q hq).1)⟩
        rw [crash_snoc lg HZ.out]
        exact hown4
      case measure => simp [intOf]; omega
    · obtain rfl : k = f := by omega
      obtain ⟨A1, c1, rfl, hnc1, _, _, _, _⟩ := own_slice hown
      rw [List.take_of_length_le (by rw [← HF.out]; exact Nat.le_refl _)] at hown
      have HOWN := hide hown
      clear hown
      go_wp2_with fail
      refine (ajoin_own wr w.heap.size A1 (k + 2) c1 (crashW lg pages) HOWN.out (by omega) (by omega) (by have := HJ.out; omega)).mono ?_
      rintro e w3 ⟨rfl, hb3⟩
      go_wp2
      go_ret2
      exact ⟨by rw [crash_join]; exact ret_line (tx_data _), below_via hbw hb3 hbw.size⟩
/-- What act.Line tells. -/
def LinePost (w : World) (a : ActD) (e : Ending) (w' : World) : Prop :=
  Below w.heap.size w w' ∧ ((isActB a = false ∧ e = .returned (.tuple #[.string ⟨#[]⟩, .int .i64 1])) ∨ (isActB a = true ∧ e = .returned (lineV (actT a))))
theorem isActB_act {a : ActD} (h : isActB a = true) : 0 ≤ a.act ∧ a.act ≤ 5 := by
  unfold isActB at h
  simp only [Bool.and_eq_true, decide_eq_true_eq] at h
  exact h.1.1.1
theorem actLine_any (x : ActV) (B : Nat) (w : World) (hB : B ≤ w.heap.size) (hs : OpSm x.d.op) (hi : ActIn x.d) (hok : ActOk w B x) (hpm : x.d.pages.length ≤ 1000000) (ht : PTab w) :
    Calls Tryd.prog 14 #[actV x] w (LinePost w x.d) := by
  obtain ⟨⟨a, cl, op, m, pages, lg⟩, dv, pv⟩ := x
  obtain ⟨hd, A2, c2, hp1, hp2, hp3⟩ := hok
  obtain ⟨A, n, c, hd1, hd2, hd3, hd4, hd5⟩ := hd
  dsimp only at *
  subst hd1 hp1
  have hd' : BytesAt w B (.slice A n c) op.data := ⟨A, n, c, rfl, hd2, hd3, hd4, hd5⟩
  have hk : op.key.size ≤ 9223372036854775807 := by have := hs.1; omega
  unfold actV
  dsimp only
  cases hb : isActB ⟨a, cl, op, m, pages, lg⟩
  · exact (actLine_no a cl m lg op pages A A2 n c pages.length c2 w hd4 rfl (by omega) hk hb).mono fun e w' h => ⟨h.2, .inl ⟨hb, h.1⟩⟩
  · have h05 := isActB_act hb
    dsimp only at h05
    have hb' := hb
    unfold isActB at hb'
    simp only [Bool.and_eq_true, Bool.or_eq_true, Bool.not_eq_true', decide_eq_true_eq, decide_eq_false_iff_not] at hb'
    obtain ⟨⟨⟨_, hcl⟩, hop⟩, hpg⟩ := hb'
    have hpl : pages.length ≤ 9223372036854775807 := by omega
    have mk : ∀ e w', e = .returned (lineV (actT ⟨a, cl, op, m, pages, lg⟩)) ∧ Below w.heap.size w w' → LinePost w ⟨a, cl, op, m, pages, lg⟩ e w' := fun e w' h => ⟨h.2, .inr ⟨hb, h.1⟩⟩
    rcases (show a = 0 ∨ a = 1 ∨ a = 2 ∨ a = 3 ∨ a = 4 ∨ a = 5 by omega) with rfl | rfl | rfl | rfl | rfl | rfl
    · have hc : isCallB op = true := hop.resolve_left (fun h => h rfl)
      have h2 := hcl.resolve_left (fun h => h (by omega))
      exact (actLine_call op cl m lg A A2 n c pages.length c2 B w hB hs hd' ht h2.1 h2.2 hc).mono mk
    · have h2 := hcl.resolve_left (fun h => h (by omega))
      exact (actLine_step cl m lg op pages A A2 n c pages.length c2 w hd4 rfl hpl hk h2 hi.2.1 ht).mono mk
    · exact (actLine_check cl m lg op pages A A2 n c pages.length c2 w hd4 rfl hpl hk).mono mk
    · exact (actLine_fuse cl m lg op pages A A2 n c pages.length c2 w hd4 rfl hpl hk hi.2.2.2.1 ht).mono mk
    · have h60 := hpg.resolve_left (fun h => h rfl)
      exact (actLine_crash cl m lg op pages A A2 n c pages.length c2 w hd4 rfl hpl hk (hp3.more hB) h60 hi.2.2.2.2.1 hi.2.2.2.2.2 ht).mono mk
    · exact (actLine_open cl m lg op pages A A2 n c pages.length c2 w hd4 rfl hpl hk).mono mk
end Go.Proofs.YtgokkbocboonnaaDoor
