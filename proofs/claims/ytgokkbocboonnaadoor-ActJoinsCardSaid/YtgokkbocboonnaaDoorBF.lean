/-
  WALK: the law moneyerlaw31.ActJoins.
-/
import Derived.Test.YtgokkbocboonnaaDoorBE
import Derived.Test.YtgokkbocboonnaaDoorApp
namespace Go.Proofs.YtgokkbocboonnaaDoor
open Go.RowKit Go.Lib

theorem Acts.one {w : World} {B n : Nat} {A : Option Addr} {xs : List ActV} (h : Acts w B A n xs) : ∀ u ∈ xs.flatMap ActV.cells, u.oneCell' = true := by
  intro u hu
  obtain ⟨x, hx, hu⟩ := List.mem_flatMap.1 hu
  obtain ⟨⟨A1, n1, m1, e1, g1⟩, F, f', e2, g2⟩ := h.2.2 x hx
  simp only [ActV.cells, opCells, e1, e2, List.cons_append, List.nil_append, List.mem_cons, List.not_mem_nil, or_false] at hu
  rcases hu with rfl | rfl | rfl | rfl | rfl | rfl | rfl | rfl | rfl | rfl | rfl <;> rfl
theorem Acts.of_own {w : World} {base c : Nat} {e : TypeId} {A : Option Addr} {n : Nat} {zs : List ActV} (h : w.ownsRow base e 11 (.slice A n c) n (zs.flatMap ActV.cells)) (hn : n = zs.length) (hok : ∀ x ∈ zs, ActOk w w.heap.size x) : Acts w w.heap.size A n zs := ⟨hn, Reads.of_own h, hok⟩
set_option maxHeartbeats 6400000 in
theorem ActJoins_big (A : Option Addr) (n c : Nat) (xs : List ActV) (D : Option Addr) (m d : Nat) (ys : List ActV) (cut : Int) (w : World) (hE : Env w) (hn : n ≤ 9223372036854775807) (h : Acts w w.heap.size A n xs) (hp : ∀ x ∈ xs, x.d.pages.length ≤ 9223372036854775807) (hm : m ≤ 9223372036854775807) (h' : Acts w w.heap.size D m ys) (hp' : ∀ x ∈ ys, x.d.pages.length ≤ 9223372036854775807) (hb : muchA xs = true ∨ muchA ys = true) :
    Calls Tryd.prog 6 #[.slice A n c, .slice D m d, .int .i64 cut] w fun e w' => e = .returned (.bool true) ∧ Below w.heap.size w w' := by
  have HM := hide (fun (v : Bool) (hv : muchA xs = v) W (hW : Below w.heap.size w W) => hv ▸ muchA_any A n c xs w.heap.size W hW.size hn (h.below hW (Nat.le_refl _)) hp)
  have HM' := hide (fun (v : Bool) (hv : muchA ys = v) W (hW : Below w.heap.size w W) => hv ▸ muchA_any D m d ys w.heap.size W hW.size hm (h'.below hW (Nat.le_refl _)) hp')
  have HLV := hide (fun W (hW : Below w.heap.size w W) => live_any W (hE.below hW))
  have hb00 := Below.refl w.heap.size w
  cases hv : muchA xs
  · have hv' : muchA ys = true := by rcases hb with h1 | h1; (rw [hv] at h1; cases h1); exact h1
    have HM := hide (HM.out _ hv)
    have HM' := hide (HM'.out _ hv')
    clear hb hv hv' h h' hE hn hp hm hp'
    go_enter Tryd.func6, Tryd.ntmps6
    go_wp2_with fail
    refine (HM.out _ hb00).mono ?_
    rintro e w1 ⟨rfl, hb1⟩
    have hbw1 := below_via hb00 hb1 hb00.size
    go_wp2_with fail
    refine (HM'.out _ hbw1).mono ?_
    rintro e w2 ⟨rfl, hb2⟩
    have hbw2 := below_via hbw1 hb2 hbw1.size
    go_wp2_with (go_at_call 7; refine (HLV.out _ hbw2).mono ?_; rintro e w3 ⟨rfl, hb3⟩)
    go_ret
    exact ⟨rfl, below_via hbw2 hb3 hbw2.size⟩
  · have HM := hide (HM.out _ hv)
    clear hb hv h h' hE hn hp hm hp' HM'
    go_enter Tryd.func6, Tryd.ntmps6
    go_wp2_with fail
    refine (HM.out _ hb00).mono ?_
    rintro e w1 ⟨rfl, hb1⟩
    have hbw1 := below_via hb00 hb1 hb00.size
    go_wp2_with (go_at_call 7; refine (HLV.out _ hbw1).mono ?_; rintro e w3 ⟨rfl, hb3⟩)
    go_ret
    exact ⟨rfl, below_via hbw1 hb3 hbw1.size⟩
set_option maxHeartbeats 6400000 in
theorem ActJoins_no (A : Option Addr) (n c : Nat) (xs : List ActV) (D : Option Addr) (m d : Nat) (ys : List ActV) (cut : Int) (w : World) (hE : Env w) (h : Acts w w.heap.size A n xs) (hM : muchA xs = false) (hi : ∀ x ∈ xs, ActIn x.d) (h' : Acts w w.heap.size D m ys) (hM' : muchA ys = false) (hi' : ∀ x ∈ ys, ActIn x.d) (hB : ((xs.map ActV.d).all isActB && (ys.map ActV.d).all isActB) = false) :
    Calls Tryd.prog 6 #[.slice A n c, .slice D m d, .int .i64 cut] w fun e w' => e = .returned (.bool true) ∧ Below w.heap.size w w' := by
  have hS := small_of hM hi
  have hS' := small_of hM' hi'
  have hl := h.1
  have hl' := h'.1
  have hn : n ≤ 200 := by have := hS.1; omega
  have hm : m ≤ 200 := by have := hS'.1; omega
  have HM := hide (fun W (hW : Below w.heap.size w W) => hM ▸ muchA_any A n c xs w.heap.size W hW.size (by omega) (h.below hW (Nat.le_refl _)) (fun x hx => by have := (hS.2.1 x hx).2.2; omega))
  have HM' := hide (fun W (hW : Below w.heap.size w W) => hM' ▸ muchA_any D m d ys w.heap.size W hW.size (by omega) (h'.below hW (Nat.le_refl _)) (fun x hx => by have := (hS'.2.1 x hx).2.2; omega))
  obtain ⟨s, HT1, HT2, hTs⟩ := letter (prS xs)
  obtain ⟨t, HU1, HU2, hUs⟩ := letter (prS ys)
  have hs3 := prS_len hS
  have ht3 := prS_len hS'
  obtain ⟨E, hE1⟩ : ∃ E, prE xs = E := ⟨_, rfl⟩
  obtain ⟨E', hE2⟩ : ∃ E, prE ys = E := ⟨_, rfl⟩
  have HPr := hide (fun W (hW : Below w.heap.size w W) => HT1.out ▸ hE1 ▸ print_one A n c xs w.heap.size W hW.size (by omega) (h.below hW (Nat.le_refl _)) hS.2.1 (hE.pt.below hW))
  have HPr' := hide (fun W (hW : Below w.heap.size w W) => HU1.out ▸ hE2 ▸ print_one D m d ys w.heap.size W hW.size (by omega) (h'.below hW (Nat.le_refl _)) hS'.2.1 (hE.pt.below hW))
  have HLV := hide (fun W (hW : Below w.heap.size w W) => live_any W (hE.below hW))
  have hb00 := Below.refl w.heap.size w
  cases hv : (xs.map ActV.d).all isActB
  · obtain rfl : E = 1 := by rw [← hE1, prE, if_neg (by rw [hv]; decide)]
    clear hS hS' hl hl' hn hm hs3 ht3 hE1 hE2 hTs hUs hB hv h h' hi hi' hM hM' hE
    go_enter Tryd.func6, Tryd.ntmps6
    go_wp2_with fail
    refine (HM.out _ hb00).mono ?_
    rintro e w1 ⟨rfl, hb1⟩
    have hbw1 := below_via hb00 hb1 hb00.size
    go_wp2_with fail
    refine (HM'.out _ hbw1).mono ?_
    rintro e w2 ⟨rfl, hb2⟩
    have hbw2 := below_via hbw1 hb2 hbw1.size
    go_wp2_with fail
    refine (HPr.out _ hbw2).mono ?_
    rintro e w3 ⟨rfl, hb3⟩
    have hbw3 := below_via hbw2 hb3 hbw2.size
    go_wp2_with fail
    refine (HPr'.out _ hbw3).mono ?_
    rintro e w4 ⟨rfl, hb4⟩
    have hbw4 := below_via hbw3 hb4 hbw3.size
    go_wp2_with (first | (go_at_call 9; refine (code_any _ _).mono ?_; rintro e w' ⟨rfl, hw'⟩; obtain rfl := hw'.symm) | (go_at_call 7; refine (HLV.out _ hbw4).mono ?_; rintro e w5 ⟨rfl, hb5⟩))
    go_ret
    exact ⟨rfl, below_via hbw4 hb5 hbw4.size⟩
  · have hv' : (ys.map ActV.d).all isActB = false := by rw [hv] at hB; simpa using hB
    obtain rfl : E = 0 := by rw [← hE1, prE, if_pos hv]
    obtain rfl : E' = 1 := by rw [← hE2, prE, if_neg (by rw [hv']; decide)]
    clear hS hS' hl hl' hn hm hs3 ht3 hE1 hE2 hTs hUs hB hv hv' h h' hi hi' hM hM' hE
    go_enter Tryd.func6, Tryd.ntmps6
    go_wp2_with fail
    refine (HM.out _ hb00).mono ?_
    rintro e w1 ⟨rfl, hb1⟩
    have hbw1 := below_via hb00 hb1 hb00.size
    go_wp2_with fail
    refine (HM'.out _ hbw1).mono ?_
    rintro e w2 ⟨rfl, hb2⟩
    have hbw2 := below_via hbw1 hb2 hbw1.size
    go_wp2_with fail
    refine (HPr.out _ hbw2).mono ?_
    rintro e w3 ⟨rfl, hb3⟩
    have hbw3 := below_via hbw2 hb3 hbw2.size
    go_wp2_with fail
    refine (HPr'.out _ hbw3).mono ?_
    rintro e w4 ⟨rfl, hb4⟩
    have hbw4 := below_via hbw3 hb4 hbw3.size
    go_wp2_with (first | (go_at_call 9; refine (code_any _ _).mono ?_; rintro e w' ⟨rfl, hw'⟩; obtain rfl := hw'.symm) | (go_at_call 7; refine (HLV.out _ hbw4).mono ?_; rintro e w5 ⟨rfl, hb5⟩))
    go_ret
    exact ⟨rfl, below_via hbw4 hb5 hbw4.size⟩
set_option maxRecDepth 100000 in
set_option maxHeartbeats 12800000 in
theorem ActJoins_yes (A : Option Addr) (n c : Nat) (xs : List ActV) (D : Option Addr) (m d : Nat) (ys : List ActV) (cut : Int) (w : World) (hE : Env w) (h : Acts w w.heap.size A n xs) (hM : muchA xs = false) (hi : ∀ x ∈ xs, ActIn x.d) (h' : Acts w w.heap.size D m ys) (hM' : muchA ys = false) (hi' : ∀ x ∈ ys, ActIn x.d) (hcut : inI cut) (hv : (xs.map ActV.d).all isActB = true) (hv' : (ys.map ActV.d).all isActB = true) :
    Calls Tryd.prog 6 #[.slice A n c, .slice D m d, .int .i64 cut] w fun e w' => e = .returned (.bool true) ∧ Below w.heap.size w w' := by
  have hS := small_of hM hi
  have hS' := small_of hM' hi'
  have hl := h.1
  have hl' := h'.1
  have hn : n ≤ 200 := by have := hS.1; omega
  have hm : m ≤ 200 := by have := hS'.1; omega
  have HM := hide (fun W (hW : Below w.heap.size w W) => hM ▸ muchA_any A n c xs w.heap.size W hW.size (by omega) (h.below hW (Nat.le_refl _)) (fun x hx => by have := (hS.2.1 x hx).2.2; omega))
  have HM' := hide (fun W (hW : Below w.heap.size w W) => hM' ▸ muchA_any D m d ys w.heap.size W hW.size (by omega) (h'.below hW (Nat.le_refl _)) (fun x hx => by have := (hS'.2.1 x hx).2.2; omega))
  obtain ⟨s, HT1, HT2, hTs⟩ := letter (prS xs)
  obtain ⟨t, HU1, HU2, hUs⟩ := letter (prS ys)
  have hs3 := prS_len hS
  have ht3 := prS_len hS'
  obtain ⟨E, hE1⟩ : ∃ E, prE xs = E := ⟨_, rfl⟩
  obtain ⟨E', hE2⟩ : ∃ E, prE ys = E := ⟨_, rfl⟩
  have HPr := hide (fun W (hW : Below w.heap.size w W) => HT1.out ▸ hE1 ▸ print_one A n c xs w.heap.size W hW.size (by omega) (h.below hW (Nat.le_refl _)) hS.2.1 (hE.pt.below hW))
  have HPr' := hide (fun W (hW : Below w.heap.size w W) => HU1.out ▸ hE2 ▸ print_one D m d ys w.heap.size W hW.size (by omega) (h'.below hW (Nat.le_refl _)) hS'.2.1 (hE.pt.below hW))
  have HLV := hide (fun W (hW : Below w.heap.size w W) => live_any W (hE.below hW))
  obtain rfl : E = 0 := by rw [← hE1, prE, if_pos hv]
  obtain rfl : E' = 0 := by rw [← hE2, prE, if_pos hv']
  have hall : ((xs ++ ys).map ActV.d).all isActB = true := by rw [List.map_append, List.all_append, hv, hv']; rfl
  have hin : ∀ a ∈ (xs ++ ys).map ActV.d, isActB a = true ∧ ActIn a := fun a ha => by
    refine ⟨List.all_eq_true.1 hall a ha, ?_⟩
    obtain ⟨x, hx, rfl⟩ := List.mem_map.1 ha
    rcases List.mem_append.1 hx with hx | hx
    · exact hi x hx
    · exact hi' x hx
  have hst : (s ++ t).data.toList = scriptT ((xs ++ ys).map ActV.d) := by
    rw [ByteArray.data_append, Array.toList_append, HT2.out, HU2.out, prS, prS, if_pos hv, if_pos hv', List.map_append, scriptT_append]
  have hsz : (s ++ t).size ≤ 1000000 := by rw [ByteArray.size_append]; omega
  have hs9 : s.size ≤ 1000000 := by omega
  have ht9 : t.size ≤ 1000000 := by omega
  have HP3 := hide (fun (A3 : Option Addr) (c3 B3 : Nat) W (hB3 : B3 ≤ W.heap.size) (hb : Below w.heap.size w W) (hA : Acts W B3 A3 (n + m) (xs ++ ys)) => (show Calls Tryd.prog 18 #[.slice A3 (n + m) c3] W fun e w' => e = .returned (.tuple #[.string (s ++ t), .int .i64 0]) ∧ Below W.heap.size W w' from by
    have := print_one A3 (n + m) c3 (xs ++ ys) B3 W hB3 (by omega) hA (fun x hx => by
      rcases List.mem_append.1 hx with hx | hx
      · exact hS.2.1 x hx
      · exact hS'.2.1 x hx) (hE.pt.below hb)
    rw [prS, prE, if_pos hall, if_pos hall, ← hst] at this
    exact this))
  have HR3 := hide (fun W (hW : Below w.heap.size w W) => (read_any (s ++ t) W hsz (hE.below hW)).mono fun e w' h => (show ∃ A2 c2, e = .returned (.tuple #[.slice A2 (n + m) c2, .int .i64 0]) ∧ Below W.heap.size W w' from by
    obtain ⟨hb', ⟨h1, _⟩ | ⟨A2, c2, done, h1, h2, _⟩⟩ := h
    · rw [hst, readD_print hin] at h1
      cases h1
    · rw [hst, readD_print hin] at h1
      have h3 := congrArg List.length (Option.some.inj h1)
      simp only [List.length_map, List.length_append] at h3
      refine ⟨A2, c2, ?_, hb'⟩
      rw [h2, ← h3, ← hl, ← hl']))
  have HEV := hide h
  have HEV' := hide h'
  have o1 := h.one
  have o2 := h'.one
  have HL := hide (show n + m = (xs ++ ys).length by rw [List.length_append, hl, hl'])
  have HIN := hide hin
  have HST := hide hst
  have HSZ := hide hsz
  have HEE := hide hE
  obtain ⟨i0, hi0, hz0, hz1, hz2⟩ := info_parts info_actR
  have hb00 := Below.refl w.heap.size w
  clear hS hS' hl hl' hs3 ht3 hE1 hE2 hTs hUs hv hv' h h' hi hi' hM hM' hE hall hin hst hsz HT1 HT2 HU1 HU2
  go_enter Tryd.func6, Tryd.ntmps6
  go_wp2_with fail
  refine (HM.out _ hb00).mono ?_
  rintro e w1 ⟨rfl, hb1⟩
  have hbw1 := below_via hb00 hb1 hb00.size
  go_wp2_with fail
  refine (HM'.out _ hbw1).mono ?_
  rintro e w2 ⟨rfl, hb2⟩
  have hbw2 := below_via hbw1 hb2 hbw1.size
  go_wp2_with fail
  refine (HPr.out _ hbw2).mono ?_
  rintro e w3 ⟨rfl, hb3⟩
  have hbw3 := below_via hbw2 hb3 hbw2.size
  go_wp2_with fail
  refine (HPr'.out _ hbw3).mono ?_
  rintro e w4 ⟨rfl, hb4⟩
  have hbw4 := below_via hbw3 hb4 hbw3.size
  have hb4z := hbw4.size
  have r1 := (HEV.out.below hbw4 (Nat.le_refl _)).2.1.alloc hb4z (.cells #[] 30)
  go_wp2_with (first
    | (go_at_call 9; refine (code_any _ _).mono ?_; rintro e w' ⟨rfl, hw'⟩; obtain rfl := hw'.symm)
    | (at_builtin; refine wpList_append_any _ rfl (.tmp 44) (.tmp 45) _ rfl w4.heap.size 30 i0 _ 11 128 Tryd.underlying44 hi0 hz0 hz1 hz2 rfl (by omega) _ 0 [] rfl (World.ownsRow_made w4 #[] 0 (Nat.le_refl _) (Nat.zero_le _) rfl) w.heap.size A n c _ rfl r1 o1 (by unfold maxLen; omega) (by omega) (by simp) ?_; intro v5 w5 hown1 hg1 hat1; simp only [Nat.zero_add, List.nil_append] at hown1; have hb5 : Below w.heap.size w w5 := ((hbw4.alloc hb4z _).grown hg1 (by simp; omega) (fun q hq => by cases hq; omega)); have hwb5 : w4.heap.size ≤ w5.heap.size := (by have := hg1.size; simp at this; omega); have r2 := (HEV'.out.below hb5 (Nat.le_refl _)).2.1)
    | (at_builtin; refine wpList_append_any _ rfl (.tmp 46) (.tmp 47) _ rfl w4.heap.size 30 i0 _ 11 128 Tryd.underlying44 hi0 hz0 hz1 hz2 rfl (by omega) v5 n _ rfl hown1 w.heap.size D m d _ rfl r2 o2 (by unfold maxLen; omega) (by omega) hwb5 ?_; intro v6 w6 hown2 hg2 hat2; rw [← List.flatMap_append] at hown2; have hb6 : Below w.heap.size w w6 := (hb5.grown hg2 hb5.size (fun q hq => by have := (World.ownsRow.lt hown1 q hq).1; omega)); obtain ⟨A3, c3, e3, junk⟩ := own_slice hown2; subst e3; clear junk))
  have hEA : Acts w6 w6.heap.size A3 (n + m) (xs ++ ys) := Acts.of_own hown2 HL.out (fun x hx => by
    rcases List.mem_append.1 hx with hx | hx
    · exact ((HEV.out.below hb6 (Nat.le_refl _)).2.2 x hx).more hb6.size
    · exact ((HEV'.out.below hb6 (Nat.le_refl _)).2.2 x hx).more hb6.size)
  have HEA := hide hEA
  clear hown1 hg1 hat1 hown2 hg2 hat2 r1 r2 o1 o2 hEA hb5 hwb5 hi0 hz0 hz1 hz2
  refine (HP3.out A3 c3 w6.heap.size w6 (Nat.le_refl _) hb6 HEA.out).mono ?_
  rintro e w7 ⟨rfl, hb7⟩
  have hbw7 := below_via hb6 hb7 hb6.size
  go_wp2_with fail
  refine (HR3.out w7 hbw7).mono ?_
  rintro e w8 ⟨A2, c2, rfl, hb8⟩
  have hbw8 := below_via hbw7 hb8 hbw7.size
  by_cases c1 : cut < 1
  · go_wp2_with (first | (go_at_call 9; refine (code_any _ _).mono ?_; rintro e w' ⟨rfl, hw'⟩; obtain rfl := hw'.symm) | (go_at_call 7; refine (HLV.out _ hbw8).mono ?_; rintro e w9 ⟨rfl, hb9⟩))
    go_ret
    exact ⟨rfl, below_via hbw8 hb9 hbw8.size⟩
  · obtain ⟨q, rfl⟩ : ∃ q : Nat, cut = q := ⟨cut.toNat, by omega⟩
    have hsum : (s ++ t).size = s.size + t.size := ByteArray.size_append
    by_cases c2 : s.size + t.size ≤ q
    · have c2' : (s.size : Int) + t.size ≤ q := by omega
      clear c2 hsum
      go_wp2_with (first | (go_at_call 9; refine (code_any _ _).mono ?_; rintro e w' ⟨rfl, hw'⟩; obtain rfl := hw'.symm) | (go_at_call 7; refine (HLV.out _ hbw8).mono ?_; rintro e w9 ⟨rfl, hb9⟩))
      go_ret
      exact ⟨rfl, below_via hbw8 hb9 hbw8.size⟩
    · have c2' : ¬ (s.size : Int) + t.size ≤ q := by omega
      have c3 : (q : Int) < s.size + t.size := by omega
      have c4 : (1 : Int) ≤ q := by omega
      have HQ := hide (show q < (s ++ t).size by omega)
      clear c1 c2
      go_wp2_with (go_at_call 9; refine (code_any _ _).mono ?_; rintro e w' ⟨rfl, hw'⟩; obtain rfl := hw'.symm)
      have HRC := hide (show Calls Tryd.prog 19 #[.string ((s ++ t).extract 0 q)] w8 fun e w' => ∃ v j, e = .returned (.tuple #[v, .int .i64 j]) ∧ Below w8.heap.size w8 w' ∧ ((j = 0 ∧ (s ++ t).data.toList[q - 1]? = some 10) ∨ (j = 12 ∧ (s ++ t).data.toList[q - 1]? ≠ some 10)) from by
        have hd : ((s ++ t).extract 0 q).data.toList = (s ++ t).data.toList.take q := by rw [ByteArray.data_extract]; generalize (s ++ t).data = D; simp
        have hl2 : (s ++ t).data.toList.length = (s ++ t).size := Array.length_toList (xs := (s ++ t).data)
        have hsz : ((s ++ t).extract 0 q).size ≤ 1000000 := by
          have h1 : ((s ++ t).extract 0 q).data.toList.length = ((s ++ t).extract 0 q).size := Array.length_toList (xs := ((s ++ t).extract 0 q).data)
          rw [hd, List.length_take] at h1
          have := HSZ.out
          omega
        have hcutD := readD_cut q HIN.out (by omega) (by rw [← HST.out, hl2]; have := HQ.out; omega)
        rw [← HST.out] at hcutD
        refine (read_any _ w8 hsz (HEE.out.below hbw8)).mono ?_
        rintro e w' ⟨hb', ⟨h1, rfl⟩ | ⟨A9, c9, done, h1, rfl, _⟩⟩
        · refine ⟨_, _, rfl, hb', .inr ⟨rfl, ?_⟩⟩
          rw [hd] at h1
          rw [h1] at hcutD
          simpa using hcutD.symm
        · refine ⟨_, _, rfl, hb', .inl ⟨rfl, ?_⟩⟩
          rw [hd] at h1
          rw [h1] at hcutD
          simpa using hcutD.symm)
      refine HRC.out.mono ?_
      rintro e w9 ⟨v9, j, rfl, hb9, hj⟩
      have hbw9 := below_via hbw8 hb9 hbw8.size
      obtain ⟨y, hy⟩ : ∃ y, (s ++ t).data.toList[q - 1]? = some y := ⟨_, List.getElem?_eq_getElem (by have hl2 : (s ++ t).data.toList.length = (s ++ t).size := Array.length_toList (xs := (s ++ t).data); have := HQ.out; omega)⟩
      rw [hy] at hj
      have HY := hide hy
      clear hy HRC
      have hix : ∀ W, (Instr.index 9 (.string (s ++ t)) (.int .i64 ((q : Int) - 1))).run Tryd.prog W = .ok (.int .u8 (y.toNat : Int)) W := fun W => by
        have h1 := HQ.out
        have h2 := HY.out
        have h3 : q - 1 < (s ++ t).size := by omega
        rw [run_index_string _ _ _ _ _ Tryd.underlying9, dif_pos (by omega)]
        have e1 : ((q : Int) - 1).toNat = q - 1 := by omega
        have e2 : (s ++ t)[((q : Int) - 1).toNat]'(by omega) = y := by
          simp only [e1]
          rw [List.getElem?_eq_getElem (by rw [show (s ++ t).data.toList.length = (s ++ t).size from Array.length_toList (xs := (s ++ t).data)]; exact h3)] at h2
          exact Option.some.inj h2
        rw [e2]
      have HLVt := hide (fun t : In (Below w9.heap.size w9) => HLV.out t.w (below_via hbw9 t.h hbw9.size))
      clear HY
      rcases hj with ⟨rfl, hj⟩ | ⟨rfl, hj⟩
      · obtain rfl : y = 10 := by injection hj
        have hix : ∀ W, (Instr.index 9 (.string (s ++ t)) (.int .i64 ((q : Int) - 1))).run Tryd.prog W = .ok (.int .u8 10) W := hix
        go_wp2
        refine wp_region_in (C := (Below w9.heap.size w9)) (by kernel_rfl) (by kernel_rfl) (Below.refl _ _).drew ?_
        repeat (first | go_big_quiet_step (first | (go_at_call 9; with_reducible exact calls_in_same (code_any _ _)) | (go_at_call 7; with_reducible exact calls_in (Nat.le_refl _) (HLVt.out _))) | quiet_step (first | (go_at_call 9; with_reducible exact calls_in_same (code_any _ _)) | (go_at_call 7; with_reducible exact calls_in (Nat.le_refl _) (HLVt.out _))))
        refine wpQuiet_nil ?_
        intro _ hw'
        obtain ⟨u, hw''⟩ := hw'
        subst hw''
        have hbu := u.h
        generalize u.w = wu at hbu ⊢
        clear u HLVt
        go_wp2
        go_ret
        exact ⟨rfl, below_via hbw9 hbu hbw9.size⟩
      · obtain ⟨Y, hY⟩ : ∃ Y : Int, (y.toNat : Int) = Y := ⟨_, rfl⟩
        have hy10 : ¬ Y = 10 := fun e => hj (by
          have h1 : y.toNat = 10 := by omega
          have h2 : y = 10 := by
            have := congrArg UInt8.ofNat h1
            simpa using this
          rw [h2])
        rw [hY] at hix
        clear hj hY
        go_wp2
        refine wp_region_in (C := (Below w9.heap.size w9)) (by kernel_rfl) (by kernel_rfl) (Below.refl _ _).drew ?_
        repeat (first | go_big_quiet_step (first | (go_at_call 9; with_reducible exact calls_in_same (code_any _ _)) | (go_at_call 7; with_reducible exact calls_in (Nat.le_refl _) (HLVt.out _))) | quiet_step (first | (go_at_call 9; with_reducible exact calls_in_same (code_any _ _)) | (go_at_call 7; with_reducible exact calls_in (Nat.le_refl _) (HLVt.out _))))
        refine wpQuiet_nil ?_
        intro _ hw'
        obtain ⟨u, hw''⟩ := hw'
        subst hw''
        have hbu := u.h
        generalize u.w = wu at hbu ⊢
        clear u HLVt
        go_wp2
        go_ret
        exact ⟨ret_bool (show (!(Y == 10)) = true by simpa using hy10), below_via hbw9 hbu hbw9.size⟩
theorem ActJoins_true (A : Option Addr) (n c : Nat) (xs : List ActV) (D : Option Addr) (m d : Nat) (ys : List ActV) (cut : Int) (w : World) (hE : Env w) (hn : n ≤ 9223372036854775807) (h : Acts w w.heap.size A n xs) (hi : ∀ x ∈ xs, ActIn x.d) (hp : ∀ x ∈ xs, x.d.pages.length ≤ 9223372036854775807)
    (hm : m ≤ 9223372036854775807) (h' : Acts w w.heap.size D m ys) (hi' : ∀ x ∈ ys, ActIn x.d) (hp' : ∀ x ∈ ys, x.d.pages.length ≤ 9223372036854775807) (hcut : inI cut) :
    Calls Tryd.prog 6 #[.slice A n c, .slice D m d, .int .i64 cut] w fun e w' => e = .returned (.bool true) ∧ Below w.heap.size w w' := by
  cases hM : muchA xs
  · cases hM' : muchA ys
    · cases hB : ((xs.map ActV.d).all isActB && (ys.map ActV.d).all isActB)
      · exact ActJoins_no A n c xs D m d ys cut w hE h hM hi h' hM' hi' hB
      · rw [Bool.and_eq_true] at hB
        exact ActJoins_yes A n c xs D m d ys cut w hE h hM hi h' hM' hi' hcut hB.1 hB.2
    · exact ActJoins_big A n c xs D m d ys cut w hE hn h hp hm h' hp' (.inr hM')
  · exact ActJoins_big A n c xs D m d ys cut w hE hn h hp hm h' hp' (.inl hM)
end Go.Proofs.YtgokkbocboonnaaDoor
