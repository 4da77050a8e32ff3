/-
  WALKS OF THE LIBRARY AT THIS PROGRAM: slices.Grow, slices.Concat of bytes; rec.join.
-/
import Derived.Test.YtnanlaefehaifaaGreatRF
import Derived.Test.YtnanlaefehaifaaGreatRG
import Derived.Lib.AppendZerosOnto
namespace Go.Proofs.YtnanlaefehaifaaGreat
open Go.RowKit

/-- append of zeros onto nothing: a new row. -/
theorem wpList_append_zeros_nil {P : Program} {ops : Array Oper} {rest : List Oper} {o : Oper} {a : Act} {w : World} {Q : Exit → Act → World → Prop} (hgd : o.guard = none) (s x : Operand) (tS tN : TypeId)
    (ho : o.op = .call { callee := .builtin .append, args := #[s, x], argTypes := #[tS, tN] }) (elem : TypeId) (bytes : Nat) (z : Value) (hu : P.underlying tS = some (.slice elem)) (hN : P.underlying tN = some (.int .i64)) (i0 : TypeInfo) (hi : P.info? elem = some i0) (hz : i0.zero = some z) (hsz : i0.size = 1) (hby : i0.bytes = bytes) (hzs : z.cells.size = 1)
    (k : Nat) (hk : 0 < k) (hbig : k * bytes ≤ 140737488355328) (h63 : k ≤ 1000000000)
    (hd : a.eval s = .slice none 0 0) (hx : a.eval x = .int .i64 (k : Nat))
    (h : ∀ (G : Nat) (cur : List Value) w', k ≤ G → G ≤ maxLen → Blk w' w.heap.size elem cur.toArray → cur.length = G → Below w.heap.size w w' → wpList P ops Q rest (a.put o.dst (.slice (some ⟨w.heap.size, 0, none⟩) k G)) w') : wpList P ops Q (o :: rest) a w := by
  refine wpList_plain hgd fun K hK => ?_
  have hf : (Builtin.firstCells i0.size 0 (.slice none 0 0)).run P w.drew = .ok #[] w.drew := by simp [Builtin.firstCells]
  have hrun := Lib.run_append_grow_zeros (P := P) w tS tN o.type elem i0 z .i64 .i64 hu hN hi hz none 0 0 [] hf k hk (by omega) (by omega) (by omega) (by rw [hby]; omega) (by rw [hby]; exact growslice_fits (show 0 < 0 + k by omega) (by rw [Nat.zero_add]; exact hbig))
  unfold Oper.wp execOp
  simp only [ho, resolve, invoke, builtin, Sem.run_bind, Sem.run_pure, Result.andThen_ok, List.map_toArray, List.map_cons, List.map_nil, hd, hx, hrun, Nat.zero_add]
  have hG : k ≤ grownCap w k 0 elem := grownCap_ge w _ _ _
  have hGm := grownCap_le_maxLen w k 0 elem (by unfold maxLen; omega)
  generalize grownCap w k 0 elem = G at *
  have hlen : ∀ q, (Builtin.zeroCells z.cells q).size = q := fun q => by
    have : (Builtin.zeroCells z.cells q).toList.length = q := by
      simp [Builtin.zeroCells, hzs]
    simpa using this
  refine hK _ _ (h G ((Builtin.zeroCells z.cells k).toList ++ (Builtin.zeroCells z.cells (G - k)).toList) _ hG hGm ?_ ?_ ?_)
  · have := Blk.new w.drew elem (([] : List Value).toArray ++ Builtin.zeroCells z.cells k ++ Builtin.zeroCells z.cells (G - k))
    have e : (([] : List Value).toArray ++ Builtin.zeroCells z.cells k ++ Builtin.zeroCells z.cells (G - k)) = ((Builtin.zeroCells z.cells k).toList ++ (Builtin.zeroCells z.cells (G - k)).toList).toArray := by
      apply Array.ext'
      simp
    rw [← e]
    exact this
  · have e1 := hlen k
    have e2 := hlen (G - k)
    simp only [List.length_append, Array.length_toList, e1, e2]
    omega
  · exact (Below.refl _ _).drew.alloc (Nat.le_refl _) _
/-- A list of nothing, of the call's own. -/
def Empt (w : World) (e : Ending) (w' : World) : Prop := ∃ A c, e = .returned (.slice A 0 c) ∧ OwnB w' w.heap.size (.slice A 0 c) [] ∧ Below w.heap.size w w'
set_option maxHeartbeats 1600000 in
set_option maxRecDepth 100000 in
theorem grow_nil (n : Nat) (w : World) (hn : n ≤ 100000000) : Calls Tryz.prog 226 #[.slice none 0 0, .int .i64 (n : Nat)] w (Empt w) := by
  obtain ⟨i0, hi, hz0, hz1, hz2⟩ := info_parts info_u8R
  rcases Nat.eq_zero_or_pos n with rfl | hp
  · clear hi hz0 hz1 hz2
    go_enter Tryz.func226, Tryz.ntmps226
    go_wp2
    go_ret
    exact ⟨none, 0, rfl, OwnB.nil _ _, Below.refl _ _⟩
  · go_enter Tryz.func226, Tryz.ntmps226
    go_wp2_with (at_builtin; refine heldG ?_)
    refine unheldG ?_
    at_builtin
    refine wpList_append_zeros_nil rfl _ _ _ _ rfl 5 1 _ Tryz.underlying33 Tryz.underlying3 i0 hi hz0 hz1 hz2 rfl n hp (by omega) (by omega) rfl rfl ?_
    intro G cur w1 hG hGm hk hc hb
    have HK := hide hk
    have HC := hide hc
    have hG63 : G ≤ 9223372036854775807 := (by unfold maxLen at hGm; omega)
    clear hk hc hi hz0 hz1 hz2
    go_wp2
    go_ret
    exact ⟨_, G, rfl, ownB_new HK.out (Nat.le_refl _) rfl (Nat.zero_le _) hGm HC.out rfl, hb⟩
/-- The value v is a slice of slices of bytes. -/
def Parts (w : World) (B : Nat) (A : Option Addr) (n : Nat) (ps : List (Value × List UInt8)) : Prop := n = ps.length ∧ Reads w B 1 A n (ps.map (·.1)) ∧ ∀ p ∈ ps, BytesAt w B p.1 p.2
theorem Parts.below {w w' : World} {B C n : Nat} {A : Option Addr} {ps : List (Value × List UInt8)} (h : Parts w B A n ps) (hb : Below C w w') (hC : B ≤ C) : Parts w' B A n ps := ⟨h.1, h.2.1.below hb hC, fun p hp => (h.2.2 p hp).below hb hC⟩
theorem Parts.at_ {w : World} {B n k : Nat} {A : Option Addr} {ps : List (Value × List UInt8)} (h : Parts w B A n ps) (hk : k < n) : ∃ b o p A1 c1, A = some ⟨b, o, none⟩ ∧ b < B ∧ ps[k]? = some p ∧ p.1 = .slice A1 p.2.length c1 ∧ w.cell? ⟨b, o + k, none⟩ = some (.slice A1 p.2.length c1) ∧ Reads w B 1 A1 p.2.length (p.2.map byteV) := by
  obtain ⟨rfl, hr, hok⟩ := h
  obtain ⟨b, o, e, hb, hc⟩ := hr.plain (by omega) (by omega)
  obtain ⟨A1, n1, c1, h1, _, _, h4, _, h6⟩ := hok _ (List.getElem_mem hk)
  subst h4
  exact ⟨b, o, ps[k], A1, c1, e, hb, List.getElem?_eq_getElem hk, h1, by rw [← h1]; exact hc k _ (by simp [hk]), h6⟩
def allB (ps : List (Value × List UInt8)) : List UInt8 := ps.flatMap (·.2)
theorem allB_take {ps : List (Value × List UInt8)} {k : Nat} {p : Value × List UInt8} (h : ps[k]? = some p) : allB (ps.take (k + 1)) = allB (ps.take k) ++ p.2 := by
  obtain ⟨hk, e⟩ := List.getElem?_eq_some_iff.1 h
  rw [List.take_succ_eq_append_getElem hk, e]
  simp [allB]
theorem allB_le (ps : List (Value × List UInt8)) (k : Nat) : (allB (ps.take k)).length ≤ (allB ps).length := by
  conv => rhs; rw [← List.take_append_drop k ps]
  unfold allB
  rw [List.flatMap_append, List.length_append]
  omega
set_option maxHeartbeats 3200000 in
set_option maxRecDepth 100000 in
theorem concat_any (A : Option Addr) (n c : Nat) (ps : List (Value × List UInt8)) (B : Nat) (w : World) (hB : B ≤ w.heap.size) (hn : n ≤ 1000000) (hm : (allB ps).length ≤ 10000000) (h : Parts w B A n ps) :
    Calls Tryz.prog 179 #[.slice A n c] w (GivesB w (allB ps).length (allB ps)) := by
  obtain ⟨i0, hi, hz0, hz1, hz2⟩ := info_parts info_u8R
  have HG := hide (fun W => grow_nil (allB ps).length W (by omega))
  have HP := hide h
  have HLE := hide (allB_le ps)
  have HL := hide (show allB (ps.take n) = allB ps by rw [h.1, List.take_length])
  clear h
  go_enter Tryz.func179, Tryz.ntmps179
  go_wp2
  go_loopw [3, 11] (fun sv iv wr => wr = w ∧ ∃ k : Nat, k ≤ n ∧ iv = .int .i64 k ∧ sv = .int .i64 ((allB (ps.take k)).length : Nat)) (fun _ iv _ => n - (intOf iv).toNat)
  case atStart => exact ⟨rfl, 0, Nat.zero_le _, rfl, rfl⟩
  case round =>
    obtain ⟨hwr, k, hk, rfl, rfl⟩ := hrel
    obtain rfl := hwr.symm
    by_cases hlt : k < n
    · obtain ⟨b, o, p, A1, c1, rfl, hb, hp, _, hcell, _⟩ := HP.out.at_ hlt
      have HT := hide (allB_take hp)
      have h1 := HLE.out k
      have h2 := HLE.out (k + 1)
      rw [HT.out, List.length_append] at h2
      have HS := hide (show (((allB (ps.take (k + 1))).length : Nat) : Int) = ((allB (ps.take k)).length : Nat) + (p.2.length : Nat) by rw [HT.out, List.length_append]; omega)
      generalize (allB (ps.take k)).length = m at *
      generalize p.2.length = q at *
      clear hp HT
      go_wp2
      go_roundw
      case rel => exact ⟨trivial, k + 1, by omega, by go_num, by rw [HS.out]⟩
      case measure => simp [intOf]; omega
    · obtain rfl : k = n := by omega
      rw [HL.out]
      go_wp2_with fail
      refine (HG.out _).mono ?_
      rintro e w1 ⟨A1, c1, rfl, ho1, hb1⟩
      have hz1' := hb1.size
      go_wp2
      go_loopw [6, 27] (fun sv iv w2 => ∃ j : Nat, j ≤ k ∧ iv = .int .i64 j ∧ OwnB w2 w.heap.size sv (allB (ps.take j)) ∧ Below w.heap.size w w2) (fun _ iv _ => k - (intOf iv).toNat)
      case atStart => exact ⟨0, Nat.zero_le _, rfl, ho1, hb1⟩
      case round =>
        obtain ⟨j, hj, rfl, ho, hbw⟩ := hrel
        by_cases hlt : j < k
        · obtain ⟨b, o, p, A2, c2, rfl, hb, hp, _, hcell, hrd⟩ := (HP.out.below hbw hB).at_ hlt
          have HT := hide (allB_take hp)
          have h1 := HLE.out j
          have h2 := HLE.out (j + 1)
          rw [HT.out, List.length_append] at h2
          obtain ⟨A3, c3, rfl, junk⟩ := own_slice ho
          have HO := hide ho
          have HRD := hide hrd
          have hz3 := hbw.size
          have HS := hide (show (allB (ps.take (j + 1))).length = (allB (ps.take j)).length + p.2.length by rw [HT.out, List.length_append])
          clear junk ho hrd hp
          go_wp2_with (at_builtin; refine heldG ?_)
          refine unheldG ?_
          at_builtin
          refine wpList_append_any _ rfl _ _ _ rfl w.heap.size 5 i0 _ 1 1 Tryz.underlying33 hi hz0 hz1 hz2 rfl (by omega) _ (allB (ps.take j)).length _ rfl HO.out B _ _ _ _ rfl HRD.out (bytes_one _) ?c4 ?c5 ?c6 ?_
          case c4 => unfold maxLen; omega
          case c5 => omega
          case c6 => omega
          intro v4 w4 ho4 hg4 _
          have ho4 : OwnB w4 w.heap.size v4 (allB (ps.take (j + 1))) := by
            unfold OwnB
            rw [HS.out, HT.out, List.map_append]
            exact ho4
          have hbw4 : Below w.heap.size w w4 := hbw.grown hg4 hbw.size (fun q hq => (HO.out.lt q hq).1)
          have HO4 := hide ho4
          clear ho4 hg4
          go_wp2
          go_roundw
          case rel => exact ⟨j + 1, by omega, by go_num, HO4.out, hbw4⟩
          case measure => simp [intOf]; omega
        · obtain rfl : j = k := by omega
          rw [HL.out] at ho
          obtain ⟨A3, c3, rfl, junk⟩ := own_slice ho
          have HO := hide ho
          clear junk ho
          go_wp2
          go_ret
          exact ⟨A3, c3, rfl, rfl, HO.out, HO.out.reads.2, hbw⟩
theorem join_any (A : Option Addr) (n c : Nat) (ps : List (Value × List UInt8)) (B : Nat) (w : World) (hB : B ≤ w.heap.size) (hn : n ≤ 1000000) (hm : (allB ps).length ≤ 10000000) (h : Parts w B A n ps) :
    Calls Tryz.prog 117 #[.slice A n c] w (GivesB w (allB ps).length (allB ps)) := by
  have HC := hide (concat_any A n c ps B w hB hn hm h)
  generalize allB ps = bs at *
  clear h hn hm
  go_enter Tryz.func117, Tryz.ntmps117
  go_wp2_with (refine HC.out.mono ?_; rintro e w1 ⟨A1, c1, rfl, _, ho1, hr1, hb1⟩; have HO1 := hide ho1; have HR1 := hide hr1; clear ho1 hr1)
  go_ret
  exact ⟨A1, c1, rfl, rfl, HO1.out, HR1.out, hb1⟩
end Go.Proofs.YtnanlaefehaifaaGreat
