/-
  WRITING INTO A ROW THAT IS KNOWN WHOLE, elements of any number of cells: copy, append within the capacity, clear. No program.
-/
import Derived.Test.YtnanlaefehaifaaGreatApp
import Derived.Laws.CopyRow
import Derived.Laws.CopyOwn
import Derived.Lib.AppendZerosOnto
import Derived.Lib.Overlaps
import Derived.Deep.RegionLaw
namespace Go.Proofs.YtnanlaefehaifaaGreat
open Go.RowKit

/-- cs laid over cur from place o on. -/
def spl (cur : List Value) (o : Nat) (cs : List Value) : List Value := cur.take o ++ (cs ++ cur.drop (o + cs.length))
theorem spl_length {cur : List Value} {o : Nat} {cs : List Value} (h : o + cs.length ≤ cur.length) : (spl cur o cs).length = cur.length := by unfold spl; simp; omega
theorem touch_setRow (w : World) (g : Nat) (cs : Array Value) : Touch g (g + 1) w (w.setRow g cs) :=
  ⟨rfl, rfl, rfl, by simp [World.setRow], fun k hk => setRow_other w g k cs (by omega)⟩

section
variable {P : Program}
theorem run_store_blk {w : World} {g o : Nat} {t : TypeId} {cur : List Value} (k : Blk w g t cur.toArray) (cs : List Value) (hfit : o + cs.length ≤ cur.length) (h1 : ∀ v ∈ cs, v.oneCell' = true) :
    ∃ w', (storeCells ⟨g, o, none⟩ cs).run P w = .ok () w' ∧ Blk w' g t (spl cur o cs).toArray ∧ Touch g (g + 1) w w' := by
  have h := run_storeCells_at P g o t cs 0 cur.toArray w k (by simpa using hfit) h1
  refine ⟨_, h, ?_, touch_setRow _ _ _⟩
  have := setRow_heap w g cur.toArray (List.take (o + 0) cur.toArray.toList ++ cs ++ List.drop (o + 0 + cs.length) cur.toArray.toList).toArray t _ k
  unfold Blk spl
  simpa using this

/-- copy, into a row that is known whole; nothing goes over where there is nothing. -/
theorem run_copy_blk {w : World} {dT sT ty elem : TypeId} {size : Nat} (hu : P.underlying dT = some (.slice elem)) (hs : (P.info? elem).map (·.size) = some size)
    {g o : Nat} {t : TypeId} {cur : List Value} (k : Blk w g t cur.toArray) (cs : List Value) (dLen dCap sLen sCap : Nat) (ad : Addr) (hn : cs.length = Nat.min sLen dLen * size)
    (hsrc : ∀ j v, cs[j]? = some v → w.cell? (ad.add j) = some v) (hfit : o + cs.length ≤ cur.length) (h1 : ∀ v ∈ cs, v.oneCell' = true) :
    ∃ w', (Builtin.copy_ #[dT, sT] ty #[.slice (some ⟨g, o, none⟩) dLen dCap, .slice (some ad) sLen sCap]).run P w = .ok (goInt (Nat.min sLen dLen)) w' ∧ Blk w' g t (spl cur o cs).toArray ∧ Touch g (g + 1) w w' := by
  have hl := run_loadCells_list (P := P) w ad cs hsrc
  obtain ⟨w', hst, hk, ht⟩ := run_store_blk (P := P) k cs hfit h1
  refine ⟨w', ?_, hk, ht⟩
  cases hq : P.info? elem with
  | none => simp [hq] at hs
  | some i =>
    have hi : i.size = size := by simpa [hq] using hs
    simp [Builtin.copy_, run_underlying hu, Builtin.lenOf, Builtin.firstCells, sizeOf, typeInfo, hq, hi, ← hn, hl, hst]

theorem wp_copy_blk {o : Oper} {a : Act} {w : World} {K : Act → World → Prop} {Q : Exit → Act → World → Prop} (d s : Operand) (dT sT : TypeId)
    (ho : o.op = .call { callee := .builtin .copy, args := #[d, s], argTypes := #[dT, sT] }) (elem : TypeId) (size : Nat) (hu : P.underlying dT = some (.slice elem)) (hs : (P.info? elem).map (·.size) = some size)
    (g off : Nat) (t : TypeId) (cur : List Value) (cs : List Value) (dLen dCap sLen sCap : Nat) (ad : Addr) (hd : a.eval d = .slice (some ⟨g, off, none⟩) dLen dCap) (hx : a.eval s = .slice (some ad) sLen sCap)
    (k : Blk w g t cur.toArray) (hn : cs.length = Nat.min sLen dLen * size)
    (hsrc : ∀ j v, cs[j]? = some v → w.cell? (ad.add j) = some v) (hfit : off + cs.length ≤ cur.length) (h1 : ∀ v ∈ cs, v.oneCell' = true)
    (h : ∀ v' w', Blk w' g t (spl cur off cs).toArray → Touch g (g + 1) w w' → K (a.put o.dst v') w') : o.wp P a w K Q := by
  obtain ⟨w', hrun, hk, ht⟩ := run_copy_blk (P := P) (ty := o.type) (sT := sT) hu hs k cs dLen dCap sLen sCap ad hn hsrc hfit h1
  unfold Oper.wp execOp
  simp only [ho, resolve, invoke, builtin, Sem.run_bind, Sem.run_pure, Result.andThen_ok, List.map_toArray, List.map_cons, List.map_nil, hd, hx, hrun]
  exact h _ w' hk ht
theorem wpList_copy_blk {ops : Array Oper} {rest : List Oper} {o : Oper} {a : Act} {w : World} {Q : Exit → Act → World → Prop} (hgd : o.guard = none) (d s : Operand) (dT sT : TypeId)
    (ho : o.op = .call { callee := .builtin .copy, args := #[d, s], argTypes := #[dT, sT] }) (elem : TypeId) (size : Nat) (hu : P.underlying dT = some (.slice elem)) (hs : (P.info? elem).map (·.size) = some size)
    (g off : Nat) (t : TypeId) (cur : List Value) (cs : List Value) (dLen dCap sLen sCap : Nat) (ad : Addr) (hd : a.eval d = .slice (some ⟨g, off, none⟩) dLen dCap) (hx : a.eval s = .slice (some ad) sLen sCap)
    (k : Blk w g t cur.toArray) (hn : cs.length = Nat.min sLen dLen * size)
    (hsrc : ∀ j v, cs[j]? = some v → w.cell? (ad.add j) = some v) (hfit : off + cs.length ≤ cur.length) (h1 : ∀ v ∈ cs, v.oneCell' = true)
    (h : ∀ v' w', Blk w' g t (spl cur off cs).toArray → Touch g (g + 1) w w' → wpList P ops Q rest (a.put o.dst v') w') : wpList P ops Q (o :: rest) a w :=
  wpList_plain hgd fun _ hK => wp_copy_blk d s dT sT ho elem size hu hs g off t cur cs dLen dCap sLen sCap ad hd hx k hn hsrc hfit h1 fun v' w' a b => hK _ _ (h v' w' a b)
theorem step_copy_blk {ops : Array Oper} {o : Oper} {a : Act} {w : World} {K : Act → World → Prop} {Q : Exit → Act → World → Prop} {E : Prop} (hgd : o.guard = none) (d s : Operand) (dT sT : TypeId)
    (ho : o.op = .call { callee := .builtin .copy, args := #[d, s], argTypes := #[dT, sT] }) (elem : TypeId) (size : Nat) (hu : P.underlying dT = some (.slice elem)) (hs : (P.info? elem).map (·.size) = some size)
    (g off : Nat) (t : TypeId) (cur : List Value) (cs : List Value) (dLen dCap sLen sCap : Nat) (ad : Addr) (hd : a.eval d = .slice (some ⟨g, off, none⟩) dLen dCap) (hx : a.eval s = .slice (some ad) sLen sCap)
    (k : Blk w g t cur.toArray) (hn : cs.length = Nat.min sLen dLen * size)
    (hsrc : ∀ j v, cs[j]? = some v → w.cell? (ad.add j) = some v) (hfit : off + cs.length ≤ cur.length) (h1 : ∀ v ∈ cs, v.oneCell' = true)
    (h : ∀ v' w', Blk w' g t (spl cur off cs).toArray → Touch g (g + 1) w w' → K (a.put o.dst v') w') :
    if Region.wanted o (yielded ops a.tmps) = true then Oper.wp P o a w K Q else E := by
  have hw : Region.wanted o (yielded ops a.tmps) = true := by simp [Region.wanted, hgd]
  rw [if_pos hw]
  exact wp_copy_blk d s dT sT ho elem size hu hs g off t cur cs dLen dCap sLen sCap ad hd hx k hn hsrc hfit h1 h

/-- append within the capacity, onto a row that is known whole; the source may lie in the same row. -/
theorem run_append_blk {w : World} {tS ty elem : TypeId} {size : Nat} (hu : P.underlying tS = some (.slice elem)) (hs : (P.info? elem).map (·.size) = some size)
    {g : Nat} {t : TypeId} {cur : List Value} (k : Blk w g t cur.toArray) (cs : List Value) (n cap : Nat) (A : Option Addr) (m c : Nat) (hr : cs.length = m * size) (ha : 0 < m → ∃ ad, A = some ad ∧ ∀ j v, cs[j]? = some v → w.cell? (ad.add j) = some v)
    (hroom : n + m ≤ cap) (hfit : n * size + cs.length ≤ cur.length) (h1 : ∀ v ∈ cs, v.oneCell' = true) :
    ∃ w', (Builtin.append_ #[tS, tS] ty #[.slice (some ⟨g, 0, none⟩) n cap, .slice A m c]).run P w = .ok (.slice (some ⟨g, 0, none⟩) (n + m) cap) w' ∧ Blk w' g t (spl cur (n * size) cs).toArray ∧ Touch g (g + 1) w w' := by
  obtain ⟨w', hst, hk, ht⟩ := run_store_blk (P := P) (o := n * size) k cs hfit h1
  refine ⟨w', ?_, hk, ht⟩
  cases hq : P.info? elem with
  | none => simp [hq] at hs
  | some i =>
    have hi : i.size = size := by simpa [hq] using hs
    have hadd : (⟨g, 0, none⟩ : Addr).add (n * size) = ⟨g, n * size, none⟩ := by rw [add_plain, Nat.zero_add]
    rcases Nat.eq_zero_or_pos m with h0 | h0
    · subst h0
      have hc : cs = [] := List.eq_nil_of_length_eq_zero (by simpa using hr)
      subst hc
      have hl : ∀ x : Addr, (loadCells x 0).run P w = .ok #[] w := fun x => by simpa using run_loadCells_list (P := P) w x [] (by simp)
      have hr0 : n ≤ cap := hroom
      cases A <;> simp [Builtin.append_, run_underlying hu, Builtin.lenOf, Builtin.firstCells, sizeOf, typeInfo, hq, hi, hl, hr0, hadd, hst]
    · obtain ⟨ad, rfl, hsrc⟩ := ha h0
      have hl := run_loadCells_list (P := P) w ad cs hsrc
      rw [hr] at hl
      simp [Builtin.append_, run_underlying hu, Builtin.lenOf, Builtin.firstCells, sizeOf, typeInfo, hq, hi, hl, hroom, hadd, hst]
theorem step_append_blk {ops : Array Oper} {o : Oper} {a : Act} {w : World} {K : Act → World → Prop} {Q : Exit → Act → World → Prop} {E : Prop} (hgd : o.guard = none) (s x : Operand) (tS : TypeId)
    (ho : o.op = .call { callee := .builtin .append, args := #[s, x], argTypes := #[tS, tS] }) (elem : TypeId) (size : Nat) (hu : P.underlying tS = some (.slice elem)) (hs : (P.info? elem).map (·.size) = some size)
    (g : Nat) (t : TypeId) (cur : List Value) (cs : List Value) (n cap : Nat) (A : Option Addr) (m c : Nat) (hd : a.eval s = .slice (some ⟨g, 0, none⟩) n cap) (hx : a.eval x = .slice A m c)
    (k : Blk w g t cur.toArray) (hr : cs.length = m * size) (ha : 0 < m → ∃ ad, A = some ad ∧ ∀ j v, cs[j]? = some v → w.cell? (ad.add j) = some v)
    (hroom : n + m ≤ cap) (hfit : n * size + cs.length ≤ cur.length) (h1 : ∀ v ∈ cs, v.oneCell' = true)
    (h : ∀ w', Blk w' g t (spl cur (n * size) cs).toArray → Touch g (g + 1) w w' → K (a.put o.dst (.slice (some ⟨g, 0, none⟩) (n + m) cap)) w') :
    if Region.wanted o (yielded ops a.tmps) = true then Oper.wp P o a w K Q else E := by
  have hw : Region.wanted o (yielded ops a.tmps) = true := by simp [Region.wanted, hgd]
  rw [if_pos hw]
  obtain ⟨w', hrun, hk, ht⟩ := run_append_blk (P := P) (ty := o.type) hu hs k cs n cap A m c hr ha hroom hfit h1
  unfold Oper.wp execOp
  simp only [ho, resolve, invoke, builtin, Sem.run_bind, Sem.run_pure, Result.andThen_ok, List.map_toArray, List.map_cons, List.map_nil, hd, hx, hrun]
  exact h w' hk ht

/-- clear, of one element of a row that is known whole. -/
theorem run_clear_blk {w : World} {tS ty elem : TypeId} (zs : List Value) (hu : P.underlying tS = some (.slice elem)) {z : Value} (hv : (zeroValue elem).run P w = .ok z w) (hz : (Builtin.zeroCells z.cells 1).toList = zs)
    {g o : Nat} {t : TypeId} {cur : List Value} (k : Blk w g t cur.toArray) (c : Nat) (hfit : o + zs.length ≤ cur.length) (h1 : ∀ v ∈ zs, v.oneCell' = true) :
    ∃ w', (Builtin.clear_ #[tS] ty #[.slice (some ⟨g, o, none⟩) 1 c]).run P w = .ok (.tuple #[]) w' ∧ Blk w' g t (spl cur o zs).toArray ∧ Touch g (g + 1) w w' := by
  obtain ⟨w', hst, hk, ht⟩ := run_store_blk (P := P) (o := o) k zs hfit h1
  refine ⟨w', ?_, hk, ht⟩
  simp [Builtin.clear_, run_underlying hu, hv, hz, hst]
theorem wpList_clear_blk {ops : Array Oper} {rest : List Oper} {o : Oper} {a : Act} {w : World} {Q : Exit → Act → World → Prop} (hgd : o.guard = none) (s : Operand) (tS : TypeId)
    (ho : o.op = .call { callee := .builtin .clear, args := #[s], argTypes := #[tS] }) (elem : TypeId) (zs : List Value) (hu : P.underlying tS = some (.slice elem)) {z : Value} (hv : ∀ w, (zeroValue elem).run P w = .ok z w) (hz : (Builtin.zeroCells z.cells 1).toList = zs)
    (g off : Nat) (t : TypeId) (cur : List Value) (c : Nat) (hd : a.eval s = .slice (some ⟨g, off, none⟩) 1 c) (k : Blk w g t cur.toArray) (hfit : off + zs.length ≤ cur.length) (h1 : ∀ v ∈ zs, v.oneCell' = true)
    (h : ∀ w', Blk w' g t (spl cur off zs).toArray → Touch g (g + 1) w w' → wpList P ops Q rest (a.put o.dst (.tuple #[])) w') : wpList P ops Q (o :: rest) a w :=
  wpList_plain hgd fun K hK => by
    obtain ⟨w', hrun, hk, ht⟩ := run_clear_blk (P := P) (ty := o.type) zs hu (hv w) hz k c hfit h1
    unfold Oper.wp execOp
    simp only [ho, resolve, invoke, builtin, Sem.run_bind, Sem.run_pure, Result.andThen_ok, List.map_toArray, List.map_cons, List.map_nil, hd, hrun]
    exact hK _ _ (h w' hk ht)
/-- append of zeros onto a cut of a row, no room: a new row whose beginning is the cut. -/
theorem wpList_append_zeros {ops : Array Oper} {rest : List Oper} {o : Oper} {a : Act} {w : World} {Q : Exit → Act → World → Prop} (hgd : o.guard = none) (s x : Operand) (tS tN : TypeId)
    (ho : o.op = .call { callee := .builtin .append, args := #[s, x], argTypes := #[tS, tN] }) (elem : TypeId) (size bytes : Nat) (z : Value) (hu : P.underlying tS = some (.slice elem)) (hN : P.underlying tN = some (.int .i64)) (i0 : TypeInfo) (hi : P.info? elem = some i0) (hz : i0.zero = some z) (hsz : i0.size = size) (hby : i0.bytes = bytes) (hpos : 0 < size) (hzs : z.cells.size = size)
    (ad : Addr) (i cap k : Nat) (olds : List Value) (hl : olds.length = i * size) (hold : ∀ j v, olds[j]? = some v → w.cell? (ad.add j) = some v) (hk : 0 < k) (hg : cap < i + k) (hbig : (i + k) * bytes ≤ 140737488355328) (h63 : i + k ≤ 1000000000)
    (hd : a.eval s = .slice (some ad) i cap) (hx : a.eval x = .int .i64 (k : Nat))
    (h : ∀ (G : Nat) (cur : List Value) w', i + k ≤ G → G ≤ maxLen → Blk w' w.heap.size elem cur.toArray → cur.length = G * size → cur.take (i * size) = olds → Below w.heap.size w w' → wpList P ops Q rest (a.put o.dst (.slice (some ⟨w.heap.size, 0, none⟩) (i + k) G)) w') : wpList P ops Q (o :: rest) a w := by
  refine wpList_plain hgd fun K hK => ?_
  have hf : (Builtin.firstCells i0.size i (.slice (some ad) i cap)).run P w.drew = .ok olds.toArray w.drew := by
    rw [hsz]
    exact run_firstCells_some w.drew size i ad i cap olds hl (fun j v hj => hold j v hj)
  have hrun := Lib.run_append_grow_zeros (P := P) w tS tN o.type elem i0 z .i64 .i64 hu hN hi hz (some ad) i cap olds hf k hk (by omega) hg (by omega) (by rw [hby]; have := Nat.mul_le_mul_right bytes (show k ≤ i + k by omega); omega) (by rw [hby]; exact growslice_fits hg hbig)
  unfold Oper.wp execOp
  simp only [ho, resolve, invoke, builtin, Sem.run_bind, Sem.run_pure, Result.andThen_ok, List.map_toArray, List.map_cons, List.map_nil, hd, hx, hrun]
  have hG : i + k ≤ grownCap w (i + k) cap elem := grownCap_ge w _ _ _
  have hGm := grownCap_le_maxLen w (i + k) cap elem (by unfold maxLen; omega)
  generalize grownCap w (i + k) cap elem = G at *
  have hlen : ∀ q, (Builtin.zeroCells z.cells q).size = q * size := fun q => by
    have : (Builtin.zeroCells z.cells q).toList.length = q * size := by
      simp [Builtin.zeroCells, hzs]
    simpa using this
  refine hK _ _ (h G (olds ++ ((Builtin.zeroCells z.cells k).toList ++ (Builtin.zeroCells z.cells (G - (i + k))).toList)) _ hG hGm ?_ ?_ ?_ ?_)
  · have := Blk.new w.drew elem (olds.toArray ++ Builtin.zeroCells z.cells k ++ Builtin.zeroCells z.cells (G - (i + k)))
    have e : (olds.toArray ++ Builtin.zeroCells z.cells k ++ Builtin.zeroCells z.cells (G - (i + k))) = (olds ++ ((Builtin.zeroCells z.cells k).toList ++ (Builtin.zeroCells z.cells (G - (i + k))).toList)).toArray := by
      apply Array.ext'
      simp
    rw [← e]
    exact this
  · have e1 := hlen k
    have e2 := hlen (G - (i + k))
    simp only [List.length_append, hl, Array.length_toList, e1, e2]
    rw [← Nat.add_mul, ← Nat.add_mul]
    congr 1
    omega
  · rw [List.take_append_of_le_length (by omega), List.take_of_length_le (by omega)]
  · exact (Below.refl _ _).drew.alloc (Nat.le_refl _) _
end

/-- What a row holds behind the two copies of an insertion. -/
theorem ins_room {cur xs new : List Value} {i n : Nat} (hi : i ≤ n) (hx : xs.length = n * 6) (hc : cur.take (n * 6) = xs) (hl : (n + 1) * 6 ≤ cur.length) (hn : new.length = 6) :
    (spl (spl cur ((i + 1) * 6) (xs.drop (i * 6))) (i * 6) new).take ((n + 1) * 6) = xs.take (i * 6) ++ new ++ xs.drop (i * 6) := by
  have h1 : (xs.drop (i * 6)).length = n * 6 - i * 6 := by rw [List.length_drop, hx]
  have h2 : cur.take (i * 6) = xs.take (i * 6) := by rw [← hc, List.take_take]; congr 1; omega
  unfold spl
  have e1 : (List.take ((i + 1) * 6) cur ++ (List.drop (i * 6) xs ++ List.drop ((i + 1) * 6 + (List.drop (i * 6) xs).length) cur)).take (i * 6) = xs.take (i * 6) := by
    rw [List.take_append_of_le_length (by rw [List.length_take]; omega), List.take_take, ← h2]
    congr 1
    omega
  have e2 : (List.take ((i + 1) * 6) cur ++ (List.drop (i * 6) xs ++ List.drop ((i + 1) * 6 + (List.drop (i * 6) xs).length) cur)).drop (i * 6 + new.length) = List.drop (i * 6) xs ++ List.drop ((i + 1) * 6 + (List.drop (i * 6) xs).length) cur := by
    have : i * 6 + new.length = (List.take ((i + 1) * 6) cur).length := by rw [List.length_take]; omega
    rw [this, List.drop_left]
  rw [e1, e2, ← List.append_assoc, ← List.append_assoc]
  have h3 : (n + 1) * 6 = (List.take (i * 6) xs ++ new ++ List.drop (i * 6) xs).length := by simp only [List.length_append, List.length_take, List.length_drop, hx, hn]; omega
  rw [h3, List.take_left]
theorem ins_grow {cur xs new : List Value} {i n : Nat} (hi : i ≤ n) (hx : xs.length = n * 6) (hc : cur.take (i * 6) = xs.take (i * 6)) (hl : (n + 1) * 6 ≤ cur.length) (hn : new.length = 6) :
    (spl (spl cur (i * 6) new) ((i + 1) * 6) (xs.drop (i * 6))).take ((n + 1) * 6) = xs.take (i * 6) ++ new ++ xs.drop (i * 6) := by
  have h1 : (xs.drop (i * 6)).length = n * 6 - i * 6 := by rw [List.length_drop, hx]
  unfold spl
  have h0 : (List.take (i * 6) cur).length = i * 6 := by rw [List.length_take]; omega
  have e1 : (List.take (i * 6) cur ++ (new ++ List.drop (i * 6 + new.length) cur)).take ((i + 1) * 6) = xs.take (i * 6) ++ new := by
    rw [← List.append_assoc]
    have : (i + 1) * 6 = (List.take (i * 6) cur ++ new).length := by rw [List.length_append, h0, hn]; omega
    rw [this, List.take_left, hc]
  rw [e1, ← List.append_assoc]
  have h3 : (n + 1) * 6 = (List.take (i * 6) xs ++ new ++ List.drop (i * 6) xs).length := by simp only [List.length_append, List.length_take, List.length_drop, hx, hn]; omega
  rw [h3, List.take_left]
/-- .. and behind a deletion. -/
theorem del_row {cur xs zs : List Value} {i n : Nat} (hi : i < n) (hx : xs.length = n * 6) (hc : cur.take (n * 6) = xs) (hl : n * 6 ≤ cur.length) :
    (spl (spl cur (i * 6) (xs.drop ((i + 1) * 6))) ((n - 1) * 6) zs).take ((n - 1) * 6) = xs.take (i * 6) ++ xs.drop ((i + 1) * 6) := by
  have h1 : (xs.drop ((i + 1) * 6)).length = n * 6 - (i + 1) * 6 := by rw [List.length_drop, hx]
  have h2 : cur.take (i * 6) = xs.take (i * 6) := by rw [← hc, List.take_take]; congr 1; omega
  have h0 : (List.take (i * 6) cur).length = i * 6 := by rw [List.length_take]; omega
  unfold spl
  have hlen : (n - 1) * 6 = (List.take (i * 6) xs ++ List.drop ((i + 1) * 6) xs).length := by simp only [List.length_append, List.length_take, List.length_drop, hx]; omega
  have e1 : (List.take (i * 6) cur ++ (List.drop ((i + 1) * 6) xs ++ List.drop (i * 6 + (List.drop ((i + 1) * 6) xs).length) cur)).take ((n - 1) * 6) = List.take (i * 6) xs ++ List.drop ((i + 1) * 6) xs := by
    rw [← List.append_assoc, h2, hlen, List.take_left]
  rw [e1, List.take_append_of_le_length (by omega), List.take_of_length_le (by omega)]
end Go.Proofs.YtnanlaefehaifaaGreat
