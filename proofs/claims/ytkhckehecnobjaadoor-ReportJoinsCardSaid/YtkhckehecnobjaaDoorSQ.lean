/-
  WALK OF THE LAW: moneyerlaw40.ReportJoins.
-/
import Derived.Test.YtkhckehecnobjaaDoorSM
import Derived.Test.YtkhckehecnobjaaDoorApp
namespace Go.Proofs.YtkhckehecnobjaaDoor
open Go.RowKit Go.Lib

def evZ : Array Value := #[.int .i64 0, .int .i64 0, .int .i64 0, .int .i64 0, .string ByteArray.empty, .slice none 0 0, .int .i64 0, .int .i64 0, .int .i64 0, .int .i64 0, .int .i64 0, .slice none 0 0, .int .i64 0, .int .i64 0, .int .i64 0]
theorem info_event : (Tryd.prog.info? 35).map (fun i => (i.zero, i.size, i.bytes)) = some (some (.agg evZ), 15, 160) := by kernel_rfl
theorem below_two {N : Nat} {w W : World} (h : Below N w W) (hN : N ≤ W.heap.size) (o1 o2 : Obj) : Below N w ((W.alloc o1).alloc o2) := (h.alloc hN o1).alloc (by simp; omega) o2
theorem Evs.of_own {w : World} {base c : Nat} {e : TypeId} {A : Option Addr} {n : Nat} {zs : List EvV} (h : w.ownsRow base e 15 (.slice A n c) n (zs.flatMap EvV.cells)) (hn : n = zs.length) (hok : ∀ x ∈ zs, EvOk w w.heap.size x) : Evs w w.heap.size A n zs := ⟨hn, Reads.of_own h, hok⟩
/-- One epoch, two epochs, as the law lays them. -/
theorem eps_one {W : World} {g B n c : Nat} {A : Option Addr} {xs : List EvV} {t : TypeId} (k : Blk W g t #[.slice none 0 0, .slice A n c]) (h : Evs W B A n xs) (hn : n ≤ 1000) (hB : B ≤ g + 1) : Eps W (g + 1) (some ⟨g, 0, none⟩) 1 [⟨.slice none 0 0, .slice A n c, xs⟩] :=
  ⟨rfl, Reads.of_blk (n := 1) (size := 2) k rfl, fun x hx => by
    rw [List.mem_singleton] at hx
    subst hx
    exact ⟨⟨_, _, _, rfl⟩, A, n, c, rfl, by omega, h.more hB⟩⟩
theorem eps_two {W : World} {g B n c m d : Nat} {A D : Option Addr} {xs ys : List EvV} {t : TypeId} (k : Blk W g t #[.slice none 0 0, .slice A n c, .slice none 0 0, .slice D m d]) (h : Evs W B A n xs) (h' : Evs W B D m ys) (hn : n ≤ 1000) (hm : m ≤ 1000) (hB : B ≤ g + 1) : Eps W (g + 1) (some ⟨g, 0, none⟩) 2 [⟨.slice none 0 0, .slice A n c, xs⟩, ⟨.slice none 0 0, .slice D m d, ys⟩] :=
  ⟨rfl, Reads.of_blk (n := 2) (size := 2) k rfl, fun x hx => by
    simp only [List.mem_cons, List.not_mem_nil, or_false] at hx
    rcases hx with rfl | rfl
    · exact ⟨⟨_, _, _, rfl⟩, A, n, c, rfl, by omega, h.more hB⟩
    · exact ⟨⟨_, _, _, rfl⟩, D, m, d, rfl, by omega, h'.more hB⟩⟩
theorem sum_one {W : World} {g B n c : Nat} {A : Option Addr} {xs : List EvV} (k : Blk W g 42 #[.slice none 0 0, .slice A n c]) (h : Evs W B A n xs) (hn : n ≤ 1000) (hB : B ≤ g + 1) :
    Calls Tryd.prog 12 #[.slice (some ⟨g, 0, none⟩) 1 1] W (SumPost W (tally 1 (xs.map EvV.d))) := by
  have h1 := rSum_any (some ⟨g, 0, none⟩) 1 1 _ (g + 1) W k.lt (by omega) (eps_one k h hn hB) (fun x hx => by rw [List.mem_singleton] at hx; subst hx; rw [← h.1]; exact hn)
  have e : evsOf [⟨.slice none 0 0, .slice A n c, xs⟩] = xs.map EvV.d := by simp [evsOf]
  rw [e] at h1
  exact h1
theorem sum_two {W : World} {g B n c m d : Nat} {A D : Option Addr} {xs ys : List EvV} (k : Blk W g 42 #[.slice none 0 0, .slice A n c, .slice none 0 0, .slice D m d]) (h : Evs W B A n xs) (h' : Evs W B D m ys) (hn : n ≤ 1000) (hm : m ≤ 1000) (hB : B ≤ g + 1) :
    Calls Tryd.prog 12 #[.slice (some ⟨g, 0, none⟩) 2 2] W (SumPost W (tally 2 ((xs ++ ys).map EvV.d))) := by
  have h1 := rSum_any (some ⟨g, 0, none⟩) 2 2 _ (g + 1) W k.lt (by omega) (eps_two k h h' hn hm hB) (fun x hx => by
    simp only [List.mem_cons, List.not_mem_nil, or_false] at hx
    rcases hx with rfl | rfl
    · rw [← h.1]; exact hn
    · rw [← h'.1]; exact hm)
  have e : evsOf [⟨.slice none 0 0, .slice A n c, xs⟩, ⟨.slice none 0 0, .slice D m d, ys⟩] = (xs ++ ys).map EvV.d := by simp [evsOf]
  rw [e] at h1
  exact h1
/-- Six numbers of a list of events. -/
structure Six where
  a : Int
  b : Int
  c : Int
  d : Int
  e : Int
  f : Int
def sixOf (l : List EvD) : Six := ⟨l.countP isB, l.countP isE, l.countP isA, l.countP isD, l.countP isO, l.countP isR⟩
theorem sixOf_bd {l : List EvD} (h : l.length ≤ 1000) : (0 ≤ (sixOf l).a ∧ (sixOf l).a ≤ 1000) ∧ (0 ≤ (sixOf l).b ∧ (sixOf l).b ≤ 1000) ∧ (0 ≤ (sixOf l).c ∧ (sixOf l).c ≤ 1000) ∧ (0 ≤ (sixOf l).d ∧ (sixOf l).d ≤ 1000) ∧ (0 ≤ (sixOf l).e ∧ (sixOf l).e ≤ 1000) ∧ (0 ≤ (sixOf l).f ∧ (sixOf l).f ≤ 1000) := by
  have h1 : ∀ p : EvD → Bool, (0 : Int) ≤ (l.countP p : Int) ∧ (l.countP p : Int) ≤ 1000 := fun p => by
    have := List.countP_le_length (p := p) (l := l)
    omega
  exact ⟨h1 _, h1 _, h1 _, h1 _, h1 _, h1 _⟩
def repSix (k : Int) (x : Six) : Value := .agg #[.int .i64 k, .int .i64 x.a, .int .i64 x.b, .int .i64 x.c, .int .i64 x.d, .int .i64 x.e, .int .i64 x.f]
theorem tally_six (k : Int) (l : List EvD) : Value.agg (repCells (tally k l)) = .agg #[.int .i64 k, .int .i64 (sixOf l).a, .int .i64 (sixOf l).b, .int .i64 (sixOf l).c, .int .i64 (sixOf l).d, .int .i64 (sixOf l).e, .int .i64 (sixOf l).f] := rfl
theorem tally_both (k : Int) (l l' : List EvD) : Value.agg (repCells (tally k (l ++ l'))) = .agg #[.int .i64 k, .int .i64 ((sixOf l).a + (sixOf l').a), .int .i64 ((sixOf l).b + (sixOf l').b), .int .i64 ((sixOf l).c + (sixOf l').c), .int .i64 ((sixOf l).d + (sixOf l').d), .int .i64 ((sixOf l).e + (sixOf l').e), .int .i64 ((sixOf l).f + (sixOf l').f)] := by
  simp [repCells, tally, sixOf, List.countP_append]
set_option maxHeartbeats 6400000 in
set_option maxRecDepth 100000 in
theorem ReportJoins_true (A D : Option Addr) (n c m d : Nat) (xs ys : List EvV) (w : World) (hn : n ≤ 9223372036854775807) (hm : m ≤ 9223372036854775807) (h : Evs w w.heap.size A n xs) (h' : Evs w w.heap.size D m ys) (hW : ∀ x ∈ xs, EvWf x.d) (hW' : ∀ x ∈ ys, EvWf x.d) (ht : PTab w) :
    Calls Tryd.prog 4 #[.slice A n c, .slice D m d] w fun e w' => e = .returned (.bool true) ∧ Below w.heap.size w w' := by
  have HM := hide (lawMuch_any A n c xs w.heap.size w (Nat.le_refl _) hn h)
  have HM' := hide (fun W (hb : Below w.heap.size w W) => lawMuch_any D m d ys w.heap.size W hb.size hm (h'.below hb (Nat.le_refl _)))
  have HV := hide (fun W (hb : Below w.heap.size w W) => lawLive_any W (ht.below hb))
  cases hmu : muchL xs
  rotate_left
  · rw [hmu] at HM
    clear hmu hW hW' ht h h'
    go_enter Tryd.func4, Tryd.ntmps4
    go_wp2_with (first | (go_at_call 6; refine HM.out.mono ?_; rintro e w0 ⟨rfl, hb0⟩) | (go_at_call 7; refine (HV.out _ hb0).mono ?_; rintro e w1 ⟨rfl, hb1⟩))
    go_ret
    exact ⟨rfl, below_via hb0 hb1 hb0.size⟩
  rw [hmu] at HM
  cases hmu' : muchL ys
  rotate_left
  · rw [hmu'] at HM'
    clear hmu hmu' hW hW' ht h h'
    go_enter Tryd.func4, Tryd.ntmps4
    go_wp2_with fail
    refine HM.out.mono ?_
    rintro e w0 ⟨rfl, hb0⟩
    go_wp2_with fail
    refine (HM'.out _ hb0).mono ?_
    rintro e w1 ⟨rfl, hb1⟩
    have hb01 := below_via hb0 hb1 hb0.size
    go_wp2_with fail
    refine (HV.out _ hb01).mono ?_
    rintro e w2 ⟨rfl, hb2⟩
    go_wp2
    go_ret
    exact ⟨rfl, below_via hb01 hb2 hb01.size⟩
  rw [hmu'] at HM'
  obtain ⟨hl, hx⟩ := muchL_len hmu
  obtain ⟨hl', hy⟩ := muchL_len hmu'
  have HS : Hid (∀ x ∈ xs, EvSm x.d) := fun x hx' => evSm_of (hW x hx') (hx x hx')
  have HS' : Hid (∀ x ∈ ys, EvSm x.d) := fun x hx' => evSm_of (hW' x hx') (hy x hx')
  have hn60 : n ≤ 60 := by rw [h.1]; exact hl
  have hm60 : m ≤ 60 := by rw [h'.1]; exact hl'
  have HT := hide ht
  have HL := hide h.1
  have HL' := hide h'.1
  obtain ⟨X, hX⟩ : ∃ X : Six, X = sixOf (xs.map EvV.d) := ⟨_, rfl⟩
  obtain ⟨Y, hY⟩ : ∃ Y : Six, Y = sixOf (ys.map EvV.d) := ⟨_, rfl⟩
  have hXb := sixOf_bd (l := xs.map EvV.d) (by rw [List.length_map]; omega)
  have hYb := sixOf_bd (l := ys.map EvV.d) (by rw [List.length_map]; omega)
  rw [← hX] at hXb
  rw [← hY] at hYb
  obtain ⟨s1, HA1, HA2, ha⟩ := letter (linesT (xs.map EvV.d))
  obtain ⟨s2, HB1, HB2, hb⟩ := letter (linesT (ys.map EvV.d))
  have hla : s1.size ≤ 10000000 := by
    rw [ha]
    have := linesT_take (k := n) HS.out (by omega)
    rwa [List.take_of_length_le (l := xs) (i := n) (by have := HL.out; omega)] at this
  have hlb : s2.size ≤ 10000000 := by
    rw [hb]
    have := linesT_take (k := m) HS'.out (by omega)
    rwa [List.take_of_length_le (l := ys) (i := m) (by have := HL'.out; omega)] at this
  have hboth : tx (linesT ((xs ++ ys).map EvV.d)) = s1 ++ s2 := by
    rw [← HA1.out, ← HB1.out, tx_append]
    simp [linesT]
  have HE1 := hide (fun W (hb : Below w.heap.size w W) => HA1.out ▸ rEvents_any A n c xs w.heap.size W hb.size (by omega) (h.below hb (Nat.le_refl _)) HS.out (HT.out.below hb))
  have HE2 := hide (fun W (hb : Below w.heap.size w W) => HB1.out ▸ rEvents_any D m d ys w.heap.size W hb.size (by omega) (h'.below hb (Nat.le_refl _)) HS'.out (HT.out.below hb))
  have HE3 := hide (fun (A3 : Option Addr) (c3 B3 : Nat) W (hB3 : B3 ≤ W.heap.size) (hb : Below w.heap.size w W) (hE : Evs W B3 A3 (n + m) (xs ++ ys)) => hboth ▸ rEvents_any A3 (n + m) c3 (xs ++ ys) B3 W hB3 (by omega) hE (fun x hx => by rcases List.mem_append.1 hx with hx | hx; exact HS.out x hx; exact HS'.out x hx) (HT.out.below hb))
  have HX := hide (fun g W (k : Blk W g 42 #[.slice none 0 0, .slice A n c]) (hb : Below w.heap.size w W) (hg : w.heap.size ≤ g) => (show Calls Tryd.prog 12 #[.slice (some ⟨g, 0, none⟩) 1 1] W fun e w' => e = .returned (.agg #[.int .i64 1, .int .i64 X.a, .int .i64 X.b, .int .i64 X.c, .int .i64 X.d, .int .i64 X.e, .int .i64 X.f]) ∧ Below W.heap.size W w' from by
    rw [hX, ← tally_six]
    exact sum_one k (h.below hb (Nat.le_refl _)) (by omega) (by omega)))
  have HY := hide (fun g W (k : Blk W g 42 #[.slice none 0 0, .slice D m d]) (hb : Below w.heap.size w W) (hg : w.heap.size ≤ g) => (show Calls Tryd.prog 12 #[.slice (some ⟨g, 0, none⟩) 1 1] W fun e w' => e = .returned (.agg #[.int .i64 1, .int .i64 Y.a, .int .i64 Y.b, .int .i64 Y.c, .int .i64 Y.d, .int .i64 Y.e, .int .i64 Y.f]) ∧ Below W.heap.size W w' from by
    rw [hY, ← tally_six]
    exact sum_one k (h'.below hb (Nat.le_refl _)) (by omega) (by omega)))
  have HZ := hide (fun (A3 : Option Addr) (c3 B3 : Nat) g W (k : Blk W g 42 #[.slice none 0 0, .slice A3 (n + m) c3]) (hE : Evs W B3 A3 (n + m) (xs ++ ys)) (hg : B3 ≤ g + 1) => (show Calls Tryd.prog 12 #[.slice (some ⟨g, 0, none⟩) 1 1] W fun e w' => e = .returned (.agg #[.int .i64 1, .int .i64 (X.a + Y.a), .int .i64 (X.b + Y.b), .int .i64 (X.c + Y.c), .int .i64 (X.d + Y.d), .int .i64 (X.e + Y.e), .int .i64 (X.f + Y.f)]) ∧ Below W.heap.size W w' from by
    rw [hX, hY, ← tally_both, ← List.map_append]
    exact sum_one k hE (by omega) (by omega)))
  have HTW := hide (fun g W (k : Blk W g 42 #[.slice none 0 0, .slice A n c, .slice none 0 0, .slice D m d]) (hb : Below w.heap.size w W) (hg : w.heap.size ≤ g) => (show Calls Tryd.prog 12 #[.slice (some ⟨g, 0, none⟩) 2 2] W fun e w' => e = .returned (.agg #[.int .i64 2, .int .i64 (X.a + Y.a), .int .i64 (X.b + Y.b), .int .i64 (X.c + Y.c), .int .i64 (X.d + Y.d), .int .i64 (X.e + Y.e), .int .i64 (X.f + Y.f)]) ∧ Below W.heap.size W w' from by
    rw [hX, hY, ← tally_both, ← List.map_append]
    exact sum_two k (h.below hb (Nat.le_refl _)) (h'.below hb (Nat.le_refl _)) (by omega) (by omega) (by omega)))
  have HEV := hide h
  have HEV' := hide h'
  obtain ⟨⟨x1, x2⟩, ⟨x3, x4⟩, ⟨x5, x6⟩, ⟨x7, x8⟩, ⟨x9, x10⟩, ⟨x11, x12⟩⟩ := hXb
  obtain ⟨⟨y1, y2⟩, ⟨y3, y4⟩, ⟨y5, y6⟩, ⟨y7, y8⟩, ⟨y9, y10⟩, ⟨y11, y12⟩⟩ := hYb
  obtain ⟨i0, hi, hz0, hz1, hz2⟩ := info_parts info_event
  clear hmu hmu' hW hW' ht h h' hX hY ha hb hboth HA1 HB1 HA2 HB2 hl hl' hx hy
  obtain ⟨Xa, Xb, Xc, Xd, Xe, Xf⟩ := X
  obtain ⟨Ya, Yb, Yc, Yd, Ye, Yf⟩ := Y
  dsimp only at *
  go_enter Tryd.func4, Tryd.ntmps4
  go_wp2_with fail
  refine HM.out.mono ?_
  rintro e wa ⟨rfl, hba⟩
  go_wp2_with fail
  refine (HM'.out _ hba).mono ?_
  rintro e wb ⟨rfl, hbb⟩
  have hb0 := below_via hba hbb hba.size
  have hb0z := hb0.size
  clear hba hbb HM HM'
  have r1 := (HEV.out.below hb0 (Nat.le_refl _)).2.1.alloc hb0z (.cells #[] 35)
  have o1 := HEV.out.one (ys := xs) (fun y hy => hy)
  have o2 := HEV'.out.one (ys := ys) (fun y hy => hy)
  go_wp2_with (first
    | (at_builtin; refine wpList_append_any _ rfl (.tmp 18) (.tmp 19) _ rfl wb.heap.size 35 i0 _ 15 160 Tryd.underlying22 hi hz0 hz1 hz2 rfl (by omega) _ 0 [] rfl (World.ownsRow_made wb #[] 0 (Nat.le_refl _) (Nat.zero_le _) rfl) w.heap.size A n c _ rfl r1 o1 (by unfold maxLen; omega) (by omega) (by simp) ?_; intro v1 w1 hown1 hg1 hat1; simp only [Nat.zero_add, List.nil_append] at hown1; have hb1 : Below w.heap.size w w1 := ((hb0.alloc hb0z _).grown hg1 (by simp; omega) (fun q hq => by cases hq; omega)); have hwb1 : wb.heap.size ≤ w1.heap.size := (by have := hg1.size; simp at this; omega); have r2 := (HEV'.out.below hb1 (Nat.le_refl _)).2.1)
    | (at_builtin; refine wpList_append_any _ rfl (.tmp 20) (.tmp 21) _ rfl wb.heap.size 35 i0 _ 15 160 Tryd.underlying22 hi hz0 hz1 hz2 rfl (by omega) v1 n _ rfl hown1 w.heap.size D m d _ rfl r2 o2 (by unfold maxLen; omega) (by omega) hwb1 ?_; intro v2 w2 hown2 hg2 hat2; rw [← List.flatMap_append] at hown2; have hb2 : Below w.heap.size w w2 := (hb1.grown hg2 hb1.size (fun q hq => by have := (World.ownsRow.lt hown1 q hq).1; omega)); obtain ⟨A3, c3, e3, _⟩ := own_slice hown2; subst e3))
  have hE : Evs w2 w2.heap.size A3 (n + m) (xs ++ ys) := Evs.of_own hown2 (by rw [List.length_append, ← HL.out, ← HL'.out]) (fun x hx => by
    rcases List.mem_append.1 hx with hx | hx
    · exact ((HEV.out.below hb2 (Nat.le_refl _)).2.2 x hx).more hb2.size
    · exact ((HEV'.out.below hb2 (Nat.le_refl _)).2.2 x hx).more hb2.size)
  have HEB := hide (fun W (hb : Below w2.heap.size w2 W) => hE.below hb (Nat.le_refl _))
  clear hown1 hg1 hat1 hown2 hg2 hat2 r1 r2 o1 o2 hE hb1 hwb1 hi hz0 hz1 hz2
  have hb2z := hb2.size
  refine (HX.out _ _ (Blk.new _ _ _) (hb2.alloc hb2z _) hb2z).mono ?_
  rintro e w3 ⟨rfl, hb3'⟩
  have hc3 : Below w2.heap.size w2 w3 := below_via ((Below.refl _ _).alloc (Nat.le_refl _) _) hb3' (by simp)
  have hc3z := hc3.size
  have hb3 := below_via hb2 hc3 hb2z
  have hb3z := hb3.size
  clear hb3'
  go_wp2_with fail
  refine (HY.out _ _ (Blk.new2 _ _ _ _) (below_two hb3 hb3z _ _) (by omega)).mono ?_
  rintro e w4 ⟨rfl, hb4'⟩
  have kX := Blk.via hb4' ((Blk.new w3 _ _).alloc _)
  have hc4 : Below w2.heap.size w2 w4 := below_via (below_two hc3 hc3z _ _) hb4' (by simp; omega)
  have hc4z := hc4.size
  have hz34 : w3.heap.size < w4.heap.size := kX.lt
  have hb4 := below_via hb2 hc4 hb2z
  have hb4z := hb4.size
  clear hb4'
  go_wp2_with fail
  refine (HZ.out A3 c3 w2.heap.size _ _ (Blk.new2 _ _ _ _) (HEB.out _ (below_two hc4 hc4z _ _)) (by omega)).mono ?_
  rintro e w5 ⟨rfl, hb5'⟩
  have kY := Blk.via hb5' ((Blk.new w4 _ _).alloc _)
  have kX := Blk.via hb5' ((kX.alloc _).alloc _)
  have hc5 : Below w2.heap.size w2 w5 := below_via (below_two hc4 hc4z _ _) hb5' (by simp; omega)
  have hc5z := hc5.size
  have hz45 : w4.heap.size < w5.heap.size := kY.lt
  have hb5 := below_via hb2 hc5 hb2z
  have hb5z := hb5.size
  clear hb5'
  go_wp2_with fail
  refine (HTW.out _ _ (Blk.new2 _ _ _ _) (below_two hb5 hb5z _ _) (by omega)).mono ?_
  rintro e w6 ⟨rfl, hb6'⟩
  have kZ := Blk.via hb6' ((Blk.new w5 _ _).alloc _)
  have kY := Blk.via hb6' ((kY.alloc _).alloc _)
  have kX := Blk.via hb6' ((kX.alloc _).alloc _)
  have hc6 : Below w2.heap.size w2 w6 := below_via (below_two hc5 hc5z _ _) hb6' (by simp; omega)
  have hc6z := hc6.size
  have hz56 : w5.heap.size < w6.heap.size := kZ.lt
  have hb6 := below_via hb2 hc6 hb2z
  have hb6z := hb6.size
  clear hb6'
  have qX := kX.cell
  have qY := kY.cell
  have qZ := kZ.cell
  have lX := kX.lt
  have lY := kY.lt
  have lZ := kZ.lt
  go_wp2_with fail
  refine (HE3.out A3 c3 w2.heap.size _ (by simp; omega) (below_two hb6 hb6z _ _) (HEB.out _ (below_two hc6 hc6z _ _))).mono ?_
  rintro e w7 ⟨rfl, hb7'⟩
  have kT := Blk.via hb7' ((Blk.new w6 _ _).alloc _)
  have kS := Blk.via hb7' (Blk.new2 w6 _ _ _)
  have hb7 : Below w.heap.size w w7 := below_via (below_two hb6 hb6z _ _) hb7' (by simp; omega)
  have hb7z := hb7.size
  clear hb7' qX qY qZ lX lY lZ kX kY kZ
  go_wp2_with fail
  refine (HE1.out _ hb7).mono ?_
  rintro e w8 ⟨rfl, hb8'⟩
  have hb8 := below_via hb7 hb8' hb7z
  have hb8z := hb8.size
  go_wp2_with fail
  refine (HE2.out _ hb8).mono ?_
  rintro e w9 ⟨rfl, hb9'⟩
  have hb9 := below_via hb8 hb9' hb8z
  have hb9z := hb9.size
  have kT := Blk.via hb9' (Blk.via hb8' kT)
  have kS := Blk.via hb9' (Blk.via hb8' kS)
  have qT := kT.cell
  have qS := kS.cell
  have fS := kS.frozen
  clear hb8' hb9'
  go_wp2_with fail
  have hb10 : Below w.heap.size w (w9.setCell ⟨w6.heap.size + 1, 0, none⟩ (.int .i64 2)) := hb9.setCell (p := ⟨w6.heap.size + 1, 0, none⟩) (by show w.heap.size ≤ w6.heap.size + 1; omega) _
  refine (HV.out _ hb10).mono ?_
  rintro e w11 ⟨rfl, hb11⟩
  go_wp2
  go_ret
  exact ⟨rfl, below_via hb10 hb11 hb10.size⟩
end Go.Proofs.YtkhckehecnobjaaDoor
