/-
  Texts of this claim, joined: DD, DE, DF, DG.
-/
import Derived.WalkMore
import Derived.Test.YtnanlaefehaifaaGreatAu13
set_option maxHeartbeats 6400000
set_option maxRecDepth 100000
namespace Go.Proofs.YtnanlaefehaifaaGreat
open Go.RowKit Go.Maps
theorem wpList_clear_blkM {P : Program} {ops : Array Oper} {rest : List Oper} {o : Oper} {a : Act} {w : World} {Q : Exit → Act → World → Prop} (hgd : o.guard = none) (s : Operand) (tS : TypeId)
    (ho : o.op = .call { callee := .builtin .clear, args := #[s], argTypes := #[tS] }) (elem : TypeId) (zs : List Value) (hu : P.underlying tS = some (.slice elem)) {z : Value} (hv : ∀ w, (zeroValue elem).run P w = .ok z w) (n : Nat) (hn0 : 0 < n) (hz : (Builtin.zeroCells z.cells n).toList = zs)
    (g off : Nat) (t : TypeId) (cur : List Value) (c : Nat) (hd : a.eval s = .slice (some ⟨g, off, none⟩) n c) (k : Blk w g t cur.toArray) (hfit : off + zs.length ≤ cur.length) (h1 : ∀ v ∈ zs, v.oneCell' = true)
    (h : ∀ w', Blk w' g t (spl cur off zs).toArray → Touch g (g + 1) w w' → wpList P ops Q rest (a.put o.dst (.tuple #[])) w') : wpList P ops Q (o :: rest) a w :=
  wpList_plain hgd fun K hK => by
    obtain ⟨w', hst, hk, ht⟩ := run_store_blk (P := P) (o := off) k zs hfit h1
    have hrun : (Builtin.clear_ #[tS] o.type #[.slice (some ⟨g, off, none⟩) n c]).run P w = .ok (.tuple #[]) w' := by
      obtain ⟨m, rfl⟩ : ∃ m, n = m + 1 := ⟨n - 1, by omega⟩
      simp [Builtin.clear_, run_underlying hu, hv w, hz, hst]
    unfold Oper.wp execOp
    simp only [ho, resolve, invoke, builtin, Sem.run_bind, Sem.run_pure, Result.andThen_ok, List.map_toArray, List.map_cons, List.map_nil, hd, hrun]
    exact hK _ _ (h w' hk ht)
def wo (l : List Nat) (x : Nat) : List Nat := l.filter (fun a => a != x)
theorem wo_take {l : List Nat} {x j a : Nat} (h : l[j]? = some a) : wo (l.take (j + 1)) x = if a = x then wo (l.take j) x else wo (l.take j) x ++ [a] := by
  obtain ⟨h1, h2⟩ := List.getElem?_eq_some_iff.1 h
  unfold wo
  rw [List.take_succ_eq_append_getElem h1, h2, List.filter_append]
  by_cases ha : a = x
  · subst ha; simp
  · rw [if_neg ha]; simp [ha]
theorem wo_le (l : List Nat) (x : Nat) : (wo l x).length ≤ l.length := List.length_filter_le _ _
theorem delA_any (a x : Nat) (gy : Nat) (w : World) (k : Blk w gy 246 #[ptrV x]) (ha : LiveF w a) (hx : LiveF w x) :
    Calls Tryz.prog 215 #[ptrV a, ptrV gy] w fun e w' => e = .returned (.bool (a == x)) ∧ w' = w := by
  have q0 := k.cell 0
  have l0 := k.lt
  have heq := run_eqP ha hx
  clear ha hx
  unfold ptrV at *
  simp only [List.getElem?_toArray, List.getElem?_cons_zero] at q0
  by_cases hxy : a = x
  · subst hxy
    rw [show (a == a) = true by simp] at heq
    go_enter Tryz.func215, Tryz.ntmps215
    go_wp2
    go_ret
    exact ⟨by simp, rfl⟩
  · have hb : (a == x) = false := beq_eq_false_iff_ne.2 hxy
    rw [hb] at heq
    go_enter Tryz.func215, Tryz.ntmps215
    go_wp2
    go_ret
    exact ⟨by rw [hb]; rfl, rfl⟩
theorem indexO_any (A : Option Addr) (n c : Nat) (l : List Nat) (x gy i0 : Nat) (hi0 : posA l x = some i0) (w : World) (hn : n = l.length) (hm : n ≤ 100000) (hr : Reads w w.heap.size 1 A n (l.map ptrV)) (k : Blk w gy 246 #[ptrV x]) (hA : ∀ a ∈ l, LiveF w a) :
    Calls Tryz.prog 245 #[.slice A n c, .func (.func 215) #[] #[ptrV gy]] w fun e w' => e = .returned (.int .i64 (i0 : Nat)) ∧ w' = w := by
  have HR := hide hr
  have HN := hide hn
  have HI := hide (posA_some hi0)
  have HC := hide (fun (a : Nat) (ham : a ∈ l) (b : Bool) (h : (a == x) = b) => h ▸ delA_any a x gy w k (hA a ham) (hA x (List.mem_of_getElem? (posA_some hi0).1)))
  have hin : i0 < n := by
    have := (List.getElem?_eq_some_iff.1 (posA_some hi0).1).1
    omega
  clear hr hn hi0 k hA
  unfold ptrV at HC ⊢
  go_enter Tryz.func245, Tryz.ntmps245
  go_wp2
  go_loopw [8] (fun i wr => ∃ k : Nat, k ≤ i0 ∧ i = .int .i64 k ∧ wr = w) (fun i _ => n - (intOf i).toNat)
  case atStart => exact ⟨0, Nat.zero_le _, rfl, rfl⟩
  case round =>
    obtain ⟨k, hk, rfl, rfl⟩ := hrel
    obtain ⟨b, o, a, rfl, ha, c0⟩ := HR.out.ptr HN.out (k := k) (by omega)
    unfold ptrV at c0
    have HA := hide ha
    have s1 : (k : Int) < n := by omega
    have s0 : (0 : Int) ≤ k := by omega
    clear ha
    by_cases hki : k = i0
    · subst hki
      have HC' := hide (HC.out a (List.mem_of_getElem? HA.out) true (by
        have := HI.out.1
        rw [HA.out] at this
        injection this with this
        simpa using this))
      go_wp2_with (go_at_call 215; (with_reducible refine HC'.out.mono ?_); rintro e w' ⟨rfl, rfl⟩)
      go_ret
      exact ⟨rfl, rfl⟩
    · have HC' := hide (HC.out a (List.mem_of_getElem? HA.out) false (by
        have := HI.out.2 k (by omega)
        rw [HA.out] at this
        simp only [beq_eq_false_iff_ne]
        intro e
        exact this (by rw [e])))
      go_wp2_with (go_at_call 215; (with_reducible refine HC'.out.mono ?_); rintro e w' ⟨rfl, rfl⟩)
      go_roundw
      case rel => exact ⟨k + 1, by omega, by go_num, by trivial⟩
      case measure => simp [intOf]; omega
structure CurA (cur : List Value) (kept l : List Nat) (j : Nat) : Prop where
  left : ∀ (q : Nat) a, kept[q]? = some a → cur[q]? = some (ptrV a)
  right : ∀ (q : Nat) a, j ≤ q → l[q]? = some a → cur[q]? = some (ptrV a)
theorem CurA.pass {cur : List Value} {kept l : List Nat} {j : Nat} (h : CurA cur kept l j) : CurA cur kept l (j + 1) := ⟨h.left, fun q e hq => h.right q e (by omega)⟩
theorem CurA.put {cur : List Value} {kept l : List Nat} {j a : Nat} (h : CurA cur kept l j) (hj : kept.length < j) (hl : kept.length < cur.length) : CurA (cur.set kept.length (ptrV a)) (kept ++ [a]) l (j + 1) := by
  refine ⟨fun q x hx => ?_, fun q x hq hx => ?_⟩
  · rcases Nat.lt_or_ge q kept.length with hlt | hge
    · rw [List.getElem?_append_left hlt] at hx
      rw [List.getElem?_set_ne (by omega)]
      exact h.left q x hx
    · have hq : q = kept.length := by
        have := (List.getElem?_eq_some_iff.1 hx).1
        rw [List.length_append, List.length_singleton] at this
        omega
      subst hq
      rw [List.getElem?_append_right (Nat.le_refl _), Nat.sub_self] at hx
      injection hx with hx
      subst hx
      rw [List.getElem?_set_self (by omega)]
  · rw [List.getElem?_set_ne (by omega)]
    exact h.right q x (by omega) hx
theorem CurA.start {cur : List Value} {l : List Nat} {x i0 : Nat} (hc : cur.take l.length = l.map ptrV) (h : posA l x = some i0) : CurA cur (wo (l.take (i0 + 1)) x) l (i0 + 1) ∧ (wo (l.take (i0 + 1)) x).length = i0 := by
  have hat : ∀ (q : Nat) a, l[q]? = some a → cur[q]? = some (ptrV a) := by
    intro q a ha
    have hq := (List.getElem?_eq_some_iff.1 ha).1
    have h1 : (cur.take l.length)[q]? = (l.map ptrV)[q]? := by rw [hc]
    rw [List.getElem?_take_of_lt (by omega), List.getElem?_map, ha] at h1
    exact h1
  obtain ⟨h1, h2⟩ := posA_some h
  have hw : wo (l.take (i0 + 1)) x = l.take i0 := by
    rw [wo_take h1, if_pos rfl]
    refine List.filter_eq_self.2 (fun a ha => ?_)
    obtain ⟨q, hq⟩ := List.mem_iff_getElem?.1 ha
    have hlt := (List.getElem?_eq_some_iff.1 hq).1
    rw [List.length_take] at hlt
    rw [List.getElem?_take_of_lt (by omega)] at hq
    have := h2 q (by omega)
    rw [hq] at this
    simp only [bne_iff_ne, ne_eq]
    intro e
    exact this (by rw [e])
  rw [hw]
  refine ⟨⟨fun q a ha => ?_, fun q a _ ha => hat q a ha⟩, ?_⟩
  · have hlt := (List.getElem?_eq_some_iff.1 ha).1
    rw [List.length_take] at hlt
    rw [List.getElem?_take_of_lt (by omega)] at ha
    exact hat q a ha
  · have := (List.getElem?_eq_some_iff.1 h1).1
    rw [List.length_take]
    omega
theorem CurA.take {cur : List Value} {kept l : List Nat} {j : Nat} (h : CurA cur kept l j) (hl : kept.length ≤ cur.length) : cur.take kept.length = kept.map ptrV := by
  apply List.ext_getElem?
  intro q
  by_cases hq : q < kept.length
  · rw [List.getElem?_take_of_lt hq, List.getElem?_map, List.getElem?_eq_getElem hq]
    exact h.left q _ (List.getElem?_eq_getElem hq)
  · rw [List.getElem?_eq_none (by rw [List.length_take]; omega), List.getElem?_eq_none (by rw [List.length_map]; omega)]
theorem grown_setA {w W : World} {g : Nat} (h : w.grownBy W (some g)) (i : Nat) (u : Value) : w.grownBy (W.setCell ⟨g, i, none⟩ u) (some g) :=
  ⟨h.os, h.tape, h.output, by simpa [World.setCell] using h.size, fun k hk hne => (Below.heap_setCell W ⟨g, i, none⟩ u k (fun e => hne (by rw [show k = g from e.symm ▸ rfl]))).trans (h.block k hk hne)⟩
theorem World.grownBy.refl' (w : World) (r : Option Nat) : w.grownBy w r := ⟨rfl, rfl, rfl, Nat.le_refl _, fun _ _ _ => rfl⟩
def DelRelA (l : List Nat) (x : Nat) (g cap : Nat) (w : World) (iv jv : Value) (wr : World) : Prop :=
  ∃ (cur : List Value) (j : Nat), iv = .int .i64 ((wo (l.take j) x).length : Nat) ∧ jv = .int .i64 j ∧ (wo (l.take j) x).length < j ∧ j ≤ l.length ∧ Blk wr g 246 cur.toArray ∧ cur.length = cap ∧ Hid (CurA cur (wo (l.take j) x) l j) ∧ w.grownBy wr (some g)
theorem deleteO_any (b g n c : Nat) (l : List Nat) (x gy i0 : Nat) (w : World) (hn : n ≤ 100000) (hi0 : posA l x = some i0) (hnl : n = l.length) (hown : RowF b w (.slice (some ⟨g, 0, none⟩) n c) l) (k : Blk w gy 246 #[ptrV x]) (hgy : gy ≠ g) (hA : ∀ a ∈ l, LiveF w a) :
    Calls Tryz.prog 214 #[.slice (some ⟨g, 0, none⟩) n c, .func (.func 215) #[] #[ptrV gy]] w (CutF b w (.slice (some ⟨g, 0, none⟩) n c) (wo l x)) := by
  have HI := hide (indexO_any (some ⟨g, 0, none⟩) n c l x gy i0 hi0 w hnl hn (by
    obtain ⟨A, c', h1, _, _, h2⟩ := hown.slice
    injection h1 with h1 _ _
    subst h1
    rw [hnl]
    exact h2) k hA)
  have HL := hide hnl
  have HK := hide k
  have HAL := hide hA
  have hxm := List.mem_of_getElem? (posA_some hi0).1
  have hin : i0 < n := by
    have := (List.getElem?_eq_some_iff.1 (posA_some hi0).1).1
    omega
  have hwo : (wo l x).length < n := by
    rw [hnl]
    refine Nat.lt_of_le_of_ne (wo_le l x) (fun e => ?_)
    have := List.length_filter_eq_length_iff.1 e x (List.mem_of_getElem? (posA_some hi0).1)
    simp at this
  have h2 := hown.2
  rcases h2 with ⟨h0, _⟩ | ⟨g', cap, cur, h0, hbg, hh, hnc, hcm, hs, ht⟩
  · cases h0
  · injection h0 with h3 h4 h5
    injection h3 with h3
    injection h3 with h3
    subst h3 h5
    have hc : c ≤ 9223372036854775807 := by unfold maxLen at hcm; omega
    obtain ⟨hco, hcl⟩ := CurA.start (cur := cur.toList) (x := x) (l := l) (by simpa using ht) hi0
    have HCO := hide hco
    have HCL := hide hcl
    have HSZ := hide (show cur.toList.length = c by simpa using hs)
    have HH := hide (show Blk w g 246 cur.toList.toArray by unfold Blk; simpa using hh)
    clear hown hh ht hs hco hcl hi0 k h4 hnl hA
    unfold ptrV at HI ⊢
    go_enter Tryz.func214, Tryz.ntmps214
    go_wp2_with fail
    refine HI.out.mono ?_
    rintro e w1 ⟨rfl, hw1⟩
    obtain rfl := hw1.symm
    have s1 : ((i0 : Int) == -1) = false := by rw [beq_eq_false_iff_ne]; omega
    go_wp2
    go_loopw [5, 6] (DelRelA l x g c w) (fun _ j _ => n - (intOf j).toNat)
    case atStart => exact ⟨cur.toList, i0 + 1, by rw [HCL.out], by go_num, by rw [HCL.out]; omega, by have := HL.out; omega, HH.out, HSZ.out, HCO, World.grownBy.refl' _ _⟩
    case round =>
      obtain ⟨cur2, j, rfl, rfl, hij, hjl, kb, hcl2, HCO2, hg⟩ := hrel
      have HKw := hide (HK.out.grown hg (fun e => hgy (by injection e)))
      have HG := hide hg
      have HKB := hide kb
      have hgl := kb.lt
      have f1 := kb.frozen
      by_cases hlt : j < n
      · have hle : j < l.length := by have := HL.out; omega
        obtain ⟨a, he⟩ : ∃ e, l[j]? = some e := ⟨_, List.getElem?_eq_getElem hle⟩
        have d0 := HCO2.out.right j _ (Nat.le_refl _) he
        have hwt := wo_take (x := x) he
        have HLV := hide (fun b (hb : b ∈ l) => show LiveF wr b from by obtain ⟨cs, kc⟩ := HAL.out b hb; exact ⟨cs, kc.grown HG.out (fun e => kc.ne_ HH.out (by decide) (by injection e))⟩)
        have HC := hide (fun (bb : Bool) (hb : (a == x) = bb) => hb ▸ delA_any a x gy wr HKw.out (HLV.out a (List.mem_of_getElem? he)) (HLV.out x hxm))
        have c0 : wr.cell? ⟨g, j, none⟩ = some (ptrV a) := by rw [kb.cell]; simpa using d0
        unfold ptrV at c0 HC
        have HWT := hide hwt
        have HCL2 := hide hcl2
        have s2 : (j : Int) < n := by omega
        have s0 : (0 : Int) ≤ j := by omega
        clear kb hg he d0 hwt hcl2
        by_cases hpy : a = x
        · have HC' := hide (HC.out true (by simpa using hpy))
          have HWT' := hide (show wo (l.take (j + 1)) x = wo (l.take j) x by rw [HWT.out, if_pos hpy])
          clear hpy HWT HC
          generalize hm : (wo (l.take j) x).length = m at hij
          have HM := hide hm
          clear hm
          go_wp2_with (go_at_call 215; (with_reducible refine HC'.out.mono ?_); rintro e w' ⟨rfl, rfl⟩)
          go_roundw
          case rel => exact ⟨cur2, j + 1, by rw [HWT'.out, HM.out], by go_num, by rw [HWT'.out, HM.out]; omega, hle, HKB.out, HCL2.out, hide (by rw [HWT'.out]; exact HCO2.out.pass), HG.out⟩
          case measure => simp [intOf]; omega
        · have HC' := hide (HC.out false (by simpa using hpy))
          have HWT' := hide (show wo (l.take (j + 1)) x = wo (l.take j) x ++ [a] by rw [HWT.out, if_neg hpy])
          have hx0 : ∃ u, cur2[(wo (l.take j) x).length]? = some u := ⟨_, List.getElem?_eq_getElem (by have := HCL2.out; omega)⟩
          obtain ⟨u0, hu0⟩ := hx0
          have HPUT := hide (HCO2.out.put (a := a) hij (by have := HCL2.out; omega))
          clear hpy HWT HC
          generalize hm : (wo (l.take j) x).length = m at *
          have HM := hide hm
          have e0 : wr.cell? ⟨g, m, none⟩ = some u0 := by rw [HKB.out.cell]; simpa using hu0
          have s3 : (m : Int) < n := by omega
          have s4 : (0 : Int) ≤ m := by omega
          clear hm hu0
          go_wp2_with (go_at_call 215; (with_reducible refine HC'.out.mono ?_); rintro e w' ⟨rfl, rfl⟩)
          go_roundw
          case rel =>
            refine ⟨cur2.set m (ptrV a), j + 1, by rw [HWT'.out, List.length_append, HM.out]; go_num, by go_num, by rw [HWT'.out, List.length_append, HM.out]; simp; omega, hle, ?_, by rw [List.length_set]; exact HCL2.out, hide (by rw [HWT'.out]; exact HPUT.out), grown_setA HG.out _ _⟩
            have h1 := HKB.out.set_ m (ptrV a)
            simpa [ptrV] using h1
          case measure => simp [intOf]; omega
      · obtain rfl : j = n := by have := HL.out; omega
        have hwt : wo (l.take j) x = wo l x := by rw [HL.out, List.take_of_length_le (Nat.le_refl _)]
        rw [hwt] at hij
        have HWT := hide hwt
        have HCO3 := hide (show CurA cur2 (wo l x) l j by rw [← hwt]; exact HCO2.out)
        have hic : (wo l x).length < c := by omega
        have HCL2 := hide hcl2
        rw [hwt]
        clear kb hg hwt hcl2
        generalize hm : (wo l x).length = m at hij hic hwo ⊢
        have HM := hide hm
        clear hm
        have s2 : ¬ c = m := by omega
        have s3 : (m : Int) ≤ j := by omega
        have s4 : (0 : Int) ≤ m := by omega
        have s5 : (m : Int) ≤ c := by omega
        go_wp2_with (refine wpList_clear_blkM rfl (.tmp 38) 207 rfl 246 _ Tryz.underlying207 zero_frp (j - m) (by omega) (zero_cellsP (j - m)) g m 246 cur2 (c - m) rfl HKB.out (by rw [List.length_replicate, HCL2.out]; omega) (fun v hv => by rw [List.eq_of_mem_replicate hv]; rfl) ?_; intro w2 hk2 ht2)
        go_ret
        refine ⟨_, rfl, ?_, grown_trans' HG.out (grown_of_touch' ht2), rfl⟩
        unfold RowF
        rw [HM.out]
        refine ⟨by rw [List.length_map, HM.out]; omega, .inr ⟨g, c, _, rfl, hbg, hk2, by omega, hcm, ?_, ?_⟩⟩
        · simp only [List.size_toArray]
          rw [spl_length (by rw [List.length_replicate, HCL2.out]; omega), HCL2.out]
          omega
        · rw [Nat.mul_one]
          have h1 := HCO3.out.take (by rw [HM.out, HCL2.out]; omega)
          rw [HM.out] at h1
          rw [← h1]
          unfold spl
          rw [List.take_append_of_le_length (by rw [List.length_take, HCL2.out]; omega), List.take_take, Nat.min_self]
end Go.Proofs.YtnanlaefehaifaaGreat
namespace Go.Proofs.YtnanlaefehaifaaGreat
open Go.RowKit Go.Maps
structure FrD where
  no : Nat
  ad : Nat
  bs : List UInt8
  dirty : Bool
  pins : Nat
def frC (x : FrD) : Array Value := (.int .i64 x.no :: (x.bs.map byteV ++ [.bool x.dirty, .int .i64 x.pins])).toArray
theorem frC_no (x : FrD) : (frC x)[0]? = some (.int .i64 x.no) := rfl
theorem frC_dirty (x : FrD) (h : x.bs.length = 512) : (frC x)[513]? = some (.bool x.dirty) := by
  unfold frC
  rw [List.getElem?_toArray, List.getElem?_cons_succ, List.getElem?_append_right (by simp [h])]
  simp [h]
theorem frC_pins (x : FrD) (h : x.bs.length = 512) : (frC x)[514]? = some (.int .i64 x.pins) := by
  unfold frC
  rw [List.getElem?_toArray, List.getElem?_cons_succ, List.getElem?_append_right (by simp [h])]
  simp [h]
structure PoolF (W : World) (p d l : Nat) (f : Int) (fs : List FrD) : Prop where
  kp : ∃ v, Blk W p 209 (poolC d l f v) ∧ RowF p W v (fs.map FrD.ad)
  fb : ∀ x ∈ fs, Blk W x.ad 250 (frC x) ∧ x.bs.length = 512
theorem PoolF.live {W : World} {p d l : Nat} {f : Int} {fs : List FrD} (h : PoolF W p d l f fs) : ∀ a ∈ fs.map FrD.ad, LiveF W a := by
  intro a ha
  obtain ⟨x, hx, rfl⟩ := List.mem_map.1 ha
  exact ⟨_, (h.fb x hx).1⟩
theorem RowF.keep {b : Nat} {W W' : World} {v : Value} {l : List Nat} (h : RowF b W v l) (hk : ∀ q, v.ownBlock = some q → W'.heap[q]? = W.heap[q]?) : RowF b W' v l := row_keep h hk
theorem RowF.ne {b : Nat} {W : World} {v : Value} {l : List Nat} (h : RowF b W v l) {g : Nat} {t : TypeId} {cs : Array Value} (k : Blk W g t cs) (hne : t ≠ 246) : v.ownBlock ≠ some g := fun e => row_ne h k hne e.symm
theorem PoolF.keep {W W' : World} {p d l : Nat} {f : Int} {fs : List FrD} (h : PoolF W p d l f fs) {S : Nat → Prop} (ht : Turn S W W') (hp : ¬ S p) (hf : ∀ x ∈ fs, ¬ S x.ad) (hr : ∀ q, FrT p W q → ¬ S q) : PoolF W' p d l f fs := by
  obtain ⟨v, kp, hrow⟩ := h.kp
  exact ⟨⟨v, ht.blk kp hp, hrow.keep fun q hq => ht.block q (World.ownsRow.lt hrow q hq).2 (hr q (hrow.frT hq))⟩, fun x hx => ⟨ht.blk (h.fb x hx).1 (hf x hx), (h.fb x hx).2⟩⟩
theorem PoolF.via {W W' : World} {p d l : Nat} {f : Int} {fs : List FrD} (h : PoolF W p d l f fs) (hb : Below W.heap.size W W') : PoolF W' p d l f fs :=
  h.keep (S := fun _ => False) (Turn.of_below hb) id (fun _ _ => id) (fun _ _ => id)
theorem find_any (p d l : Nat) (f : Int) (fs : List FrD) (no : Nat) (w : World) (h : PoolF w p d l f fs) (hm : fs.length ≤ 100000) :
    Calls Tryz.prog 157 #[ptrV p, .int .i64 (no : Nat)] w fun e w' => e = .returned (.pointer ((fs.find? (fun x => x.no == no)).map fun x => ⟨x.ad, 0, none⟩)) ∧ w' = w := by
  obtain ⟨v, kp, hrow⟩ := h.kp
  obtain ⟨A, c, rfl, hc1, hc2, hr⟩ := hrow.slice
  have HFB := hide h.fb
  have HR := hide hr
  have z3 : w.cell? ⟨p, 3, none⟩ = some (.slice A (fs.map FrD.ad).length c) := by have := kp.cell 3; unfold poolC at this; exact this
  have zl := kp.lt
  rw [List.length_map] at z3 HR
  have HN := hide hm
  obtain ⟨n, hn⟩ : ∃ n, n = fs.length := ⟨_, rfl⟩
  rw [← hn] at z3 HR HN
  have HNN := hide hn
  clear h kp hrow hr hm hn hc1 hc2
  unfold ptrV
  go_enter Tryz.func157, Tryz.ntmps157
  go_wp2
  go_loopw [12] (fun i wr => ∃ k : Nat, k ≤ n ∧ i = .int .i64 k ∧ wr = w ∧ Hid (∀ j y, j < k → fs[j]? = some y → ¬ (y.no == no) = true)) (fun i _ => n - (intOf i).toNat)
  case atStart => exact ⟨0, Nat.zero_le _, rfl, rfl, hide (fun j _ hj => absurd hj (by omega))⟩
  case round =>
    obtain ⟨k, hk, rfl, rfl, HP⟩ := hrel
    have hnb := HN.out
    by_cases hlt : k < n
    · obtain ⟨b, o, a, rfl, ha, c0⟩ := HR.out.ptr (by rw [List.length_map]; exact HNN.out) (k := k) hlt
      obtain ⟨y, hy⟩ : ∃ y, fs[k]? = some y := ⟨_, List.getElem?_eq_getElem (by have := HNN.out; omega)⟩
      obtain rfl : a = y.ad := by rw [List.getElem?_map, hy] at ha; injection ha with ha; exact ha.symm
      have kf := (HFB.out y (List.mem_of_getElem? hy)).1
      have y0 : wr.cell? ⟨y.ad, 0, none⟩ = some (.int .i64 y.no) := (kf.cell 0).trans (frC_no y)
      have yl := kf.lt
      unfold ptrV at c0
      have HY := hide hy
      have s1 : (k : Int) < n := by omega
      have s0 : (0 : Int) ≤ k := by omega
      clear ha hy kf
      by_cases hno : y.no = no
      · have HF := hide (show fs.find? (fun x => x.no == no) = some y by
          rw [List.find?_eq_some_iff_getElem]
          obtain ⟨h1, h2⟩ := List.getElem?_eq_some_iff.1 HY.out
          refine ⟨by simp [hno], k, h1, h2, fun j hj => ?_⟩
          have := HP.out j _ hj (List.getElem?_eq_getElem (by omega))
          simpa using this)
        have e1 : (y.no : Int) = no := by rw [hno]
        go_wp2
        go_ret
        exact ⟨by rw [HF.out]; rfl, rfl⟩
      · have e1 : ¬ (y.no : Int) = no := fun e => hno (by exact Int.ofNat.inj e)
        have HNO := hide hno
        clear hno
        go_wp2
        go_roundw
        case rel =>
          refine ⟨k + 1, by omega, by go_num, by trivial, hide fun j z hj hz => ?_⟩
          rcases Nat.lt_or_ge j k with h | h
          · exact HP.out j z h hz
          · obtain rfl : j = k := by omega
            rw [HY.out] at hz
            injection hz with hz
            subst hz
            simpa using HNO.out
        case measure => simp [intOf]; omega
    · have hkn : ¬ ((k : Int) < n) := by omega
      have HF := hide (show fs.find? (fun x => x.no == no) = none by
        rw [List.find?_eq_none]
        intro y hy
        obtain ⟨j, hj⟩ := List.mem_iff_getElem?.1 hy
        exact HP.out j y (by have := (List.getElem?_eq_some_iff.1 hj).1; have := HNN.out; omega) hj)
      go_wp2
      go_ret
      exact ⟨by rw [HF.out]; rfl, rfl⟩
def useD (fs : List FrD) (x : FrD) : List FrD := (match posA (fs.map FrD.ad) x.ad with | some i => fs.take i ++ fs.drop (i + 1) | none => fs) ++ [x]
theorem info_frp : (Tryz.prog.info? 246).map (fun i => (i.zero, i.size, i.bytes)) = some (some (.pointer none), 1, 8) := by kernel_rfl
theorem PoolF.stored {W : World} {p d l : Nat} {f : Int} {fs : List FrD} {x : FrD} {v v' : Value} (kp : Blk W p 209 (poolC d l f v)) (hrow : RowF p W v' (fs.map FrD.ad ++ [x.ad])) (hf : ∀ y ∈ fs, Blk W y.ad 250 (frC y) ∧ y.bs.length = 512) (hx : Blk W x.ad 250 (frC x) ∧ x.bs.length = 512) :
    PoolF (W.setCell ⟨p, 3, none⟩ v') p d l f (fs ++ [x]) := by
  have hot : ∀ q, q ≠ p → (W.setCell ⟨p, 3, none⟩ v').heap[q]? = W.heap[q]? := fun q hq => Below.heap_setCell W ⟨p, 3, none⟩ v' q hq
  refine ⟨⟨v', ?_, ?_⟩, fun y hy => ?_⟩
  · have := kp.set_ 3 v'
    exact this
  · rw [List.map_append, List.map_singleton]
    exact hrow.keep fun q hq => hot q (fun e => hrow.ne kp (by decide) (by rw [hq, e]))
  · rcases List.mem_append.1 hy with h | h
    · exact ⟨(hot _ ((hf y h).1.ne_ kp (by decide))).trans (hf y h).1, (hf y h).2⟩
    · rw [List.mem_singleton] at h
      subst h
      exact ⟨(hot _ (hx.1.ne_ kp (by decide))).trans hx.1, hx.2⟩
theorem RowF.stT {w w1 w2 : World} {p : Nat} {v : Value} {l : List Nat} (h : RowF p w v l) (hb : Below w.heap.size w w1) (hg : w1.grownBy w2 v.ownBlock) : StT p p w w2 :=
  ⟨hg.os.trans hb.os, hg.tape.trans hb.tape, hg.output.trans hb.output, Nat.le_trans hb.size hg.size, fun k hk hn =>
    (hg.block k (Nat.lt_of_lt_of_le hk hb.size) (fun e => hn (.inr (.inr (h.frT e.symm))))).trans (hb.block k hk)⟩
theorem StT.set {d p : Nat} {A B : World} (h : StT d p A B) (q i : Nat) (hq : q = d ∨ q = p) (u : Value) : StT d p A (B.setCell ⟨q, i, none⟩ u) :=
  Turn.set h (p := ⟨q, i, none⟩) (.inl (by rcases hq with e | e; exact .inl e; exact .inr (.inl e))) u
theorem StT.mono {d p : Nat} {A B : World} (h : StT p p A B) : StT d p A B := Turn.mono h (fun k _ hs => by
  rcases hs with e | e | e
  · exact .inr (.inl e)
  · exact .inr (.inl e)
  · exact .inr (.inr e))
def UseP (w : World) (p d l : Nat) (f : Int) (fs : List FrD) (w' : World) : Prop := PoolF w' p d l f fs ∧ StT p p w w'
theorem use_any (p d l : Nat) (f : Int) (fs : List FrD) (x : FrD) (w : World) (h : PoolF w p d l f fs) (hm : fs.length ≤ 10000) (hx : Blk w x.ad 250 (frC x)) (hl : x.bs.length = 512) :
    Calls Tryz.prog 158 #[ptrV p, ptrV x.ad] w fun e w' => (∃ v, e = .returned v) ∧ UseP w p d l f (useD fs x) w' := by
  obtain ⟨v, kp, hrow⟩ := h.kp
  obtain ⟨A, c, rfl, hc1, hc2, hr⟩ := hrow.slice
  obtain ⟨i0, hi, hz0, hz1, hz2⟩ := info_parts info_frp
  have hIX := indexF_any A _ c (fs.map FrD.ad) x.ad w rfl (by rw [List.length_map]; omega) hr h.live ⟨_, hx⟩
  have HR := hide hrow
  have HK := hide kp
  have HF := hide h.fb
  have HX := hide (And.intro hx hl)
  have HS := hide (StT.refl p p w)
  have z3 : w.cell? ⟨p, 3, none⟩ = some (.slice A (fs.map FrD.ad).length c) := by have := kp.cell 3; unfold poolC at this; exact this
  have zf := kp.frozen 3
  have zl := kp.lt
  have HIX := hide hIX
  have hlen : (fs.map FrD.ad).length ≤ 10000 := by rw [List.length_map]; exact hm
  clear h kp hrow hr hx hIX hc1 hm
  cases hp : posA (fs.map FrD.ad) x.ad with
  | none =>
    have HU := hide (show useD fs x = fs ++ [x] by unfold useD; rw [hp])
    have HII := hide (show indexI (fs.map FrD.ad) x.ad = -1 by unfold indexI; rw [hp])
    rw [HII.out] at HIX
    clear hp
    obtain ⟨n, hn⟩ : ∃ n, n = (fs.map FrD.ad).length := ⟨_, rfl⟩
    rw [← hn] at hlen z3 HIX HK HR
    have HN := hide hn.symm
    clear hn
    unfold ptrV at HIX ⊢
    go_enter Tryz.func158, Tryz.ntmps158
    go_wp2_with (first
      | (refine HIX.out.mono ?_; rintro e w' ⟨rfl, hw'⟩; obtain rfl := hw'.symm)
      | (at_builtin; refine heldG ?_))
    refine unheldG ?_
    at_builtin
    refine wpList_append_any _ rfl _ _ _ rfl p 246 i0 _ 1 8 Tryz.underlying207 hi hz0 hz1 hz2 rfl (by omega) (.slice A n c) n ((fs.map FrD.ad).map ptrV) rfl (by have h1 := HR.out; unfold RowF at h1; rw [HN.out] at h1; exact own_via h1 ((Below.refl _ _).alloc (Nat.le_refl _) _)) (w.heap.size + 1) (some ⟨w.heap.size, 0, none⟩) 1 1 [ptrV x.ad] rfl (Reads.of_blk (n := 1) (size := 1) (Blk.new _ _ _) rfl) (fun u hu => by rw [List.mem_singleton] at hu; subst hu; rfl) (by unfold maxLen; omega) (by omega) (by have := HK.out.lt; simp; omega) ?_
    intro v' w4 hown4 hg4 hloc4
    clear hloc4
    obtain ⟨A4, c4, rfl, hc41, hc42, junk4⟩ := own_slice hown4
    clear junk4
    have hb : Below w.heap.size w (World.alloc w (.cells #[.pointer (some ⟨x.ad, 0, none⟩)] 246)) := (Below.refl _ _).alloc (Nat.le_refl _) _
    have hst4 : StT p p w w4 := HS.out.trans (RowF.stT HR.out hb (by exact hg4))
    have hkl := HK.out.lt
    have hne : some p ≠ (Value.slice A n c).ownBlock := fun e => HR.out.ne HK.out (by decide) e.symm
    have kp4 : Blk w4 p 209 (poolC d l f (.slice A n c)) := (hg4.block p (Nat.lt_of_lt_of_le hkl hb.size) hne).trans (Blk.via hb HK.out)
    have hfb4 : ∀ y : FrD, Blk w y.ad 250 (frC y) → Blk w4 y.ad 250 (frC y) := fun y hy =>
      (hg4.block y.ad (Nat.lt_of_lt_of_le hy.lt hb.size) (fun e => HR.out.ne hy (by decide) e.symm)).trans (Blk.via hb hy)
    have q3 := kp4.frozen 3
    have q0 := kp4.cell 3
    unfold poolC at q0
    simp only [List.getElem?_toArray, List.getElem?_cons_zero, List.getElem?_cons_succ] at q0
    have ql := kp4.lt
    have HUSE := hide (show UseP w p d l f (useD fs x) (w4.setCell ⟨p, 3, none⟩ (.slice A4 (n + 1) c4)) by
      rw [HU.out]
      refine ⟨PoolF.stored kp4 ?_ (fun y hy => ⟨hfb4 y (HF.out y hy).1, (HF.out y hy).2⟩) ⟨hfb4 x HX.out.1, HX.out.2⟩, hst4.set p 3 (.inl rfl) _⟩
      have h2 := hown4
      unfold RowF
      have e1 : (fs.map FrD.ad ++ [x.ad]).length = n + 1 := by rw [List.length_append, HN.out]; rfl
      have e2 : (fs.map FrD.ad ++ [x.ad]).map ptrV = (fs.map FrD.ad).map ptrV ++ [ptrV x.ad] := by rw [List.map_append]; rfl
      rw [e1, e2]
      exact h2)
    clear hown4 hg4 kp4 hfb4 hb hst4 hne
    go_wp2
    go_end0
    exact ⟨⟨_, rfl⟩, HUSE.out⟩
  | some i =>
    obtain ⟨hpi, hpj⟩ := posA_some hp
    have hil := (List.getElem?_eq_some_iff.1 hpi).1
    have HU := hide (show useD fs x = (fs.take i ++ fs.drop (i + 1)) ++ [x] by unfold useD; rw [hp])
    have HII := hide (show indexI (fs.map FrD.ad) x.ad = (i : Int) by unfold indexI; rw [hp])
    rw [HII.out] at HIX
    have hads : (fs.map FrD.ad).take i ++ (fs.map FrD.ad).drop (i + 1) = (fs.take i ++ fs.drop (i + 1)).map FrD.ad := by rw [List.map_append, List.map_take, List.map_drop]
    have hdl := deleteF_any p _ i (fs.map FrD.ad) w (by omega) hil HR.out
    rw [hads] at hdl
    have HDL := hide hdl
    clear hdl hads
    clear hp hpi hpj
    obtain ⟨n, hn⟩ : ∃ n, n = (fs.map FrD.ad).length := ⟨_, rfl⟩
    rw [← hn] at hlen z3 HIX HK HR HDL hil
    have HN0 := hide hn.symm
    clear hn
    have hi0 : (0 : Int) ≤ i := by omega
    unfold ptrV at HIX ⊢
    go_enter Tryz.func158, Tryz.ntmps158
    go_wp2_with (first
      | (refine HIX.out.mono ?_; rintro e w' ⟨rfl, hw'⟩; obtain rfl := hw'.symm)
      | (fail))
    refine HDL.out.mono ?_
    rintro e w2 ⟨v2, rfl, hr2, hg2, hv2⟩
    obtain ⟨A2, c2, rfl, hc21, hc22, hrd2⟩ := hr2.slice
    have hst2 : StT p p w w2 := RowF.stT HR.out (Below.refl _ _) hg2
    have k2 : Blk w2 p 209 (poolC d l f (.slice A n c)) := (hg2.block p zl (fun e => HR.out.ne HK.out (by decide) e.symm)).trans HK.out
    have hfb2 : ∀ y : FrD, Blk w y.ad 250 (frC y) → Blk w2 y.ad 250 (frC y) := fun y hy =>
      (hg2.block y.ad hy.lt (fun e => HR.out.ne hy (by decide) e.symm)).trans hy
    have y0 := k2.cell 3
    have y1 := k2.frozen 3
    have y2 := k2.lt
    unfold poolC at y0
    simp only [List.getElem?_toArray, List.getElem?_cons_zero, List.getElem?_cons_succ] at y0
    obtain ⟨n2, hn2⟩ : ∃ n2, n2 = ((fs.take i ++ fs.drop (i + 1)).map FrD.ad).length := ⟨_, rfl⟩
    have hn2l : n2 ≤ 10000 := by
      rw [hn2, List.length_map, List.length_append, List.length_take, List.length_drop]
      have h1 := HN0.out
      rw [List.length_map] at h1
      omega
    rw [← hn2] at hr2 ⊢
    have HN := hide hn2.symm
    have hot : ∀ q, q ≠ p → (w2.setCell ⟨p, 3, none⟩ (.slice A2 n2 c2)).heap[q]? = w2.heap[q]? := fun q hq => Below.heap_setCell w2 ⟨p, 3, none⟩ _ q hq
    have HK0 := HK
    have HF0 := HF
    have HX0 := HX
    have HR0 := HR
    clear HR HK HF HX HS
    have HR := hide (show RowF p (w2.setCell ⟨p, 3, none⟩ (.slice A2 n2 c2)) (.slice A2 n2 c2) ((fs.take i ++ fs.drop (i + 1)).map FrD.ad) from hr2.keep fun q hq => hot q (fun e => hr2.ne k2 (by decide) (by rw [hq, e])))
    have HK := hide (show Blk (w2.setCell ⟨p, 3, none⟩ (.slice A2 n2 c2)) p 209 (poolC d l f (.slice A2 n2 c2)) from k2.set_ 3 _)
    have HF := hide (show ∀ y ∈ fs.take i ++ fs.drop (i + 1), Blk (w2.setCell ⟨p, 3, none⟩ (.slice A2 n2 c2)) y.ad 250 (frC y) ∧ y.bs.length = 512 from fun y hy => by
      have hm : y ∈ fs := by
        rcases List.mem_append.1 hy with h | h
        · exact List.mem_of_mem_take h
        · exact List.mem_of_mem_drop h
      exact ⟨(hot _ ((hfb2 y (HF0.out y hm).1).ne_ k2 (by decide))).trans (hfb2 y (HF0.out y hm).1), (HF0.out y hm).2⟩)
    have HX := hide (show Blk (w2.setCell ⟨p, 3, none⟩ (.slice A2 n2 c2)) x.ad 250 (frC x) ∧ x.bs.length = 512 from ⟨(hot _ ((hfb2 x HX0.out.1).ne_ k2 (by decide))).trans (hfb2 x HX0.out.1), HX0.out.2⟩)
    have HS := hide (hst2.set p 3 (.inl rfl) (.slice A2 n2 c2))
    clear hr2 hg2 hv2 hst2 k2 hfb2 HR0 HK0 HF0 HX0 hot hn2 hrd2 hc21 hc22
    go_upto_region 3 with (fail)
    generalize w2.setCell ⟨p, 3, none⟩ (.slice A2 n2 c2) = W3 at *
    have z33 := HK.out.cell 3
    have z34 := HK.out.lt
    unfold poolC at z33
    simp only [List.getElem?_toArray, List.getElem?_cons_zero, List.getElem?_cons_succ] at z33
    go_wp2_with (at_builtin; refine heldG ?_)
    refine unheldG ?_
    at_builtin
    refine wpList_append_any _ rfl _ _ _ rfl p 246 i0 _ 1 8 Tryz.underlying207 hi hz0 hz1 hz2 rfl (by omega) (.slice A2 n2 c2) n2 (((fs.take i ++ fs.drop (i + 1)).map FrD.ad).map ptrV) rfl (by have h1 := HR.out; unfold RowF at h1; rw [HN.out] at h1; exact own_via h1 ((Below.refl _ _).alloc (Nat.le_refl _) _)) (W3.heap.size + 1) (some ⟨W3.heap.size, 0, none⟩) 1 1 [ptrV x.ad] rfl (Reads.of_blk (n := 1) (size := 1) (Blk.new _ _ _) rfl) (fun u hu => by rw [List.mem_singleton] at hu; subst hu; rfl) (by unfold maxLen; omega) (by omega) (by have := HK.out.lt; simp; omega) ?_
    intro v' w4 hown4 hg4 hloc4
    clear hloc4
    obtain ⟨A4, c4, rfl, hc41, hc42, junk4⟩ := own_slice hown4
    clear junk4
    have hb : Below W3.heap.size W3 (World.alloc W3 (.cells #[.pointer (some ⟨x.ad, 0, none⟩)] 246)) := (Below.refl _ _).alloc (Nat.le_refl _) _
    have hst4 : StT p p w w4 := HS.out.trans (RowF.stT HR.out hb (by exact hg4))
    have hkl := HK.out.lt
    have hne : some p ≠ (Value.slice A2 n2 c2).ownBlock := fun e => HR.out.ne HK.out (by decide) e.symm
    have kp4 : Blk w4 p 209 (poolC d l f (.slice A2 n2 c2)) := (hg4.block p (Nat.lt_of_lt_of_le hkl hb.size) hne).trans (Blk.via hb HK.out)
    have hfb4 : ∀ y : FrD, Blk W3 y.ad 250 (frC y) → Blk w4 y.ad 250 (frC y) := fun y hy =>
      (hg4.block y.ad (Nat.lt_of_lt_of_le hy.lt hb.size) (fun e => HR.out.ne hy (by decide) e.symm)).trans (Blk.via hb hy)
    have q3 := kp4.frozen 3
    have q0 := kp4.cell 3
    unfold poolC at q0
    simp only [List.getElem?_toArray, List.getElem?_cons_zero, List.getElem?_cons_succ] at q0
    have ql := kp4.lt
    have HUSE := hide (show UseP w p d l f (useD fs x) (w4.setCell ⟨p, 3, none⟩ (.slice A4 (n2 + 1) c4)) by
      rw [HU.out]
      refine ⟨PoolF.stored kp4 ?_ (fun y hy => ⟨hfb4 y (HF.out y hy).1, (HF.out y hy).2⟩) ⟨hfb4 x HX.out.1, HX.out.2⟩, hst4.set p 3 (.inl rfl) _⟩
      have h2 := hown4
      unfold RowF
      have e1 : ((fs.take i ++ fs.drop (i + 1)).map FrD.ad ++ [x.ad]).length = n2 + 1 := by rw [List.length_append, HN.out]; rfl
      have e2 : ((fs.take i ++ fs.drop (i + 1)).map FrD.ad ++ [x.ad]).map ptrV = ((fs.take i ++ fs.drop (i + 1)).map FrD.ad).map ptrV ++ [ptrV x.ad] := by rw [List.map_append]; rfl
      rw [e1, e2]
      exact h2)
    clear hown4 hg4 kp4 hfb4 hb hst4 hne
    go_wp2
    go_end0
    exact ⟨⟨_, rfl⟩, HUSE.out⟩
end Go.Proofs.YtnanlaefehaifaaGreat
namespace Go.Proofs.YtnanlaefehaifaaGreat
open Go.RowKit Go.Maps
theorem zeros_frame : Tryz.zeroCells250.size = 515 := by kernel_rfl
theorem frame_zero (no : Int) : Tryz.zeroCells250.setIfInBounds 0 (.int .i64 no) = (.int .i64 no :: ((List.replicate 512 0).map byteV ++ [.bool false, .int .i64 0])).toArray := by rfl
theorem setL_mid (a : Value) (l l' r : List Value) (hl : l'.length = l.length) : setL (a :: (l ++ r)).toArray 1 l' = (a :: (l' ++ r)).toArray := by
  obtain ⟨h1, h2, h3⟩ := setL_spec l' (a :: (l ++ r)).toArray 1 (by simp; omega)
  refine Array.ext (by rw [h1]; simp; omega) (fun i h4 h5 => ?_)
  have e : (setL (a :: (l ++ r)).toArray 1 l')[i]? = ((a :: (l' ++ r)).toArray)[i]? := by
    rcases Nat.lt_or_ge i 1 with hi | hi
    · rw [h2 i (.inl hi)]
      obtain rfl : i = 0 := by omega
      rfl
    · obtain ⟨k, rfl⟩ : ∃ k, i = 1 + k := ⟨i - 1, by omega⟩
      rcases Nat.lt_or_ge k l'.length with hk | hk
      · rw [h3 k (l'[k]'hk) (List.getElem?_eq_getElem hk)]
        rw [List.getElem?_toArray, show 1 + k = k + 1 by omega, List.getElem?_cons_succ, List.getElem?_append_left hk, List.getElem?_eq_getElem hk]
      · rw [h2 (1 + k) (.inr (by omega))]
        rw [List.getElem?_toArray, List.getElem?_toArray, show 1 + k = k + 1 by omega, List.getElem?_cons_succ, List.getElem?_cons_succ, List.getElem?_append_right (by omega), List.getElem?_append_right (by omega), hl]
  rw [Array.getElem?_eq_getElem h4, Array.getElem?_eq_getElem h5] at e
  exact Option.some.inj e
theorem frame_zeroV : (Tryz.prog.info? 250).map (·.zero) = some (some (.agg Tryz.zeroCells250)) := by kernel_rfl
theorem frame_places : ∃ fields, Tryz.prog.underlying 250 = some (.struct fields) ∧ fields.toList.mapM (fun f => (Tryz.prog.info? f.type).map fun i => (f.offset, i.size)) = some [(0, 1), (1, 512), (513, 1), (514, 1)] := ⟨_, Tryz.underlying250, by kernel_rfl⟩
theorem run_build_frame (no ad : Nat) (bs : List UInt8) (hl : bs.length = 512) (W : World) : (Instr.build 250 #[(0, .int .i64 no), (1, .agg (bs.map byteV).toArray)]).run Tryz.prog W = .ok (.agg (frC ⟨no, ad, bs, false, 0⟩)) W := by
  have h : Instr.fill (#[(0, 1), (1, 512), (513, 1), (514, 1)][·]?) Tryz.zeroCells250 [(0, .int .i64 no), (1, .agg (bs.map byteV).toArray)] = some (frC ⟨no, ad, bs, false, 0⟩) := by
    rw [fill_cons _ _ 0 0 1 _ _ rfl rfl (by rw [zeros_frame]; decide)]
    rw [fill_cons _ _ 1 1 512 _ _ rfl (by show (bs.map byteV).toArray.size = 512; simp [hl]) (by show 1 + 512 ≤ (Tryz.zeroCells250.setIfInBounds 0 _).size; rw [Array.size_setIfInBounds, zeros_frame]; decide)]
    show some (setL (Tryz.zeroCells250.setIfInBounds 0 (.int .i64 no)) 1 (bs.map byteV)) = _
    rw [frame_zero, setL_mid _ _ _ _ (by simp [hl])]
    rfl
  refine run_build W _ _ _ ?_
  obtain ⟨it, hit, hz⟩ := Option.map_eq_some_iff.1 frame_zeroV
  obtain ⟨fields, hu, hp⟩ := frame_places
  unfold Program.built
  rw [hit, hu]
  simp only [hz]
  rw [hp]
  exact h
theorem drewN_below (w : World) (n : Nat) : Below w.heap.size w (w.drewN n) := ⟨rfl, rfl, rfl, Nat.le_refl _, fun _ _ => rfl⟩
def CleanF (fs : List FrD) : Prop := ∀ y ∈ fs, y.dirty = false ∧ y.pins = 0
def freeD (f : Int) (fs : List FrD) : List FrD := if (fs.length : Int) < f then fs else match fs with | [] => [] | x :: r => (x :: r).filter (fun y => y.ad != x.ad)
theorem freeD_mem {f : Int} {fs : List FrD} {y : FrD} (h : y ∈ freeD f fs) : y ∈ fs := by
  unfold freeD at h
  split at h
  · exact h
  · cases fs with
    | nil => exact h
    | cons x r => exact (List.mem_filter.1 h).1
theorem freeD_lt {f : Int} {fs : List FrD} (h1 : 1 ≤ f) (h : (fs.length : Int) ≤ f) : ((freeD f fs).length : Int) < f := by
  unfold freeD
  split
  · assumption
  · cases fs with
    | nil => simp; omega
    | cons x r =>
      show (((x :: r).filter (fun y => y.ad != x.ad)).length : Int) < f
      have h2 : (r.filter (fun y => y.ad != x.ad)).length ≤ r.length := List.length_filter_le _ _
      rw [List.filter_cons_of_neg (by simp)]
      simp only [List.length_cons] at h
      omega
theorem wo_map (fs : List FrD) (x : FrD) : (fs.filter (fun y => y.ad != x.ad)).map FrD.ad = wo (fs.map FrD.ad) x.ad := by
  unfold wo
  rw [List.filter_map]
  rfl
theorem free_any (p d l : Nat) (f : Int) (fs : List FrD) (w : World) (h : PoolF w p d l f fs) (hm : fs.length ≤ 10000) (hf : 1 ≤ f) (hcl : CleanF fs) :
    Calls Tryz.prog 159 #[ptrV p] w fun e w' => e = .returned (.int .i64 0) ∧ UseP w p d l f (freeD f fs) w' := by
  obtain ⟨v, kp, hrow⟩ := h.kp
  obtain ⟨A, c, rfl, hc1, hc2, hr⟩ := hrow.slice
  have hlen : (fs.map FrD.ad).length = fs.length := List.length_map _
  rw [hlen] at kp hrow hc1 hr
  have z3 : w.cell? ⟨p, 3, none⟩ = some (.slice A fs.length c) := by have := kp.cell 3; unfold poolC at this; exact this
  have z2 : w.cell? ⟨p, 2, none⟩ = some (.int .i64 f) := by have := kp.cell 2; unfold poolC at this; exact this
  have zf := kp.frozen 3
  have zl := kp.lt
  by_cases hlt : (fs.length : Int) < f
  · have HU := hide (show UseP w p d l f (freeD f fs) w from ⟨by unfold freeD; rw [if_pos hlt]; exact h, StT.refl _ _ _⟩)
    clear h kp hrow hr hc1
    unfold ptrV
    go_enter Tryz.func159, Tryz.ntmps159
    go_wp2
    go_step3
    go_wp2
    go_quiet (fail)
    go_wp2
    simp only [Exit.noGoto]
    go_ret
    exact ⟨rfl, HU.out.1.via (drewN_below _ _), HU.out.2.trans (StT.of_below (drewN_below _ _))⟩
  · have hge : decide ((fs.length : Int) < f) = false := decide_eq_false hlt
    cases fs with
    | nil => simp at hlt; omega
    | cons x r =>
      have hxa := h.fb x (List.mem_cons_self ..)
      have hxc := hcl x (List.mem_cons_self ..)
      have hfr := h.fb
      have HU := hide (show freeD f (x :: r) = (x :: r).filter (fun y => y.ad != x.ad) by unfold freeD; rw [if_neg hlt])
      obtain ⟨n, hn⟩ : ∃ n, n = (x :: r).length := ⟨_, rfl⟩
      have hn1 : 0 < n := by rw [hn]; simp
      obtain ⟨b, o, a, rfl, ha, c0⟩ := hr.ptr (k := 0) (by rw [hlen]) (by simp)
      obtain rfl : a = x.ad := by injection ha with ha; exact ha.symm
      obtain rfl : o = 0 := by
        rcases hrow.2 with ⟨h0, _⟩ | ⟨g', cap, cur, h0, _⟩
        · cases h0
        · injection h0 with h0 _ _
          injection h0 with h0
          injection h0 with _ h0 _
      unfold ptrV at c0
      rw [Nat.add_zero] at c0
      have HR := hide hrow
      have HK := hide kp
      have HF := hide hfr
      rw [← hn] at z3 hge hlt
      have HN := hide hn
      have x514 : w.cell? ⟨x.ad, 514, none⟩ = some (.int .i64 0) := by
        have := (hxa.1.cell 514).trans (frC_pins x hxa.2)
        rw [hxc.2] at this
        exact this
      have x513 : w.cell? ⟨x.ad, 513, none⟩ = some (.bool false) := by
        have := (hxa.1.cell 513).trans (frC_dirty x hxa.2)
        rw [hxc.1] at this
        exact this
      have xl := hxa.1.lt
      have hbl : b < w.heap.size := by
        obtain ⟨o', h1, _⟩ := cells_of_cell c0
        exact (Array.getElem?_eq_some_iff.1 h1).1
      have s1 : (0 : Int) < n := by omega
      have hpos : posA ((x :: r).map FrD.ad) x.ad = some 0 := by simp [posA]
      have HPOS := hide hpos
      have hnm : n ≤ 10000 := by rw [hn]; exact hm
      clear h hrow hr hfr hxa hxc ha hn hcl hlen hm hpos
      unfold ptrV
      go_enter Tryz.func159, Tryz.ntmps159
      go_wp2
      go_step3
      go_wp2
      go_quiet (fail)
      go_wp2
      go_step3
      refine gen1 (R := fun W => Exit.then _ _ _ _ W) (fun W1 kT hb1 hz1 => ?_)
      have hb1' : Below w.heap.size w W1 := (drewN_below w nq).trans hb1
      have HKT := hide (show Blk W1 w.heap.size 246 #[.pointer none] from kT)
      have HB1 := hide hb1'
      have z3' := (hb1'.cell (p := ⟨p, 3, none⟩) zl).trans z3
      have c0' : W1.cell? ⟨b, 0, none⟩ = some (.pointer (some ⟨x.ad, 0, none⟩)) := (hb1'.cell (p := ⟨b, 0, none⟩) hbl).trans c0
      have x514' := (hb1'.cell (p := ⟨x.ad, 514, none⟩) xl).trans x514
      have x513' := (hb1'.cell (p := ⟨x.ad, 513, none⟩) xl).trans x513
      have t0 : W1.cell? ⟨w.heap.size, 0, none⟩ = some (.pointer none) := HKT.out.cell 0
      have tf := HKT.out.frozen 0
      have tl := HKT.out.lt
      have hz : w.heap.size + 1 ≤ W1.heap.size := hz1
      clear kT hb1 hb1' hz1 z3 z2 c0 x514 x513
      go_wp2
      go_loopw [22] (fun i wr => i = .int .i64 0 ∧ wr = W1) (fun _ _ => 0)
      case atStart => exact ⟨rfl, rfl⟩
      case round =>
        obtain ⟨rfl, rfl⟩ := hrel
        go_upto_region 16 with (fail)
        refine nameW (w := World.setCell _ _ _) (R := fun W => Code.wp _ _ _ _ W) (fun W2 hW2 => ?_)
        have kt2 : Blk W2 w.heap.size 246 #[ptrV x.ad] := hW2 ▸ HKT.out.set_ 0 _
        have hb2 : Below w.heap.size w W2 := hW2 ▸ HB1.out.setCell (p := ⟨w.heap.size, 0, none⟩) (Nat.le_refl _) _
        have HK2 := hide (Blk.via hb2 HK.out)
        have hr2 : RowF p W2 (.slice (some ⟨b, 0, none⟩) n c) ((x :: r).map FrD.ad) := by
          rw [HN.out]
          exact own_via HR.out hb2
        have HF2 := hide (fun y hy => (show Blk W2 y.ad 250 (frC y) ∧ y.bs.length = 512 from ⟨Blk.via hb2 (HF.out y hy).1, (HF.out y hy).2⟩))
        have HR2 := hide hr2
        have HB2 := hide hb2
        have HDL := hide (deleteO_any p b n c ((x :: r).map FrD.ad) x.ad w.heap.size 0 W2 (by omega) HPOS.out (by rw [HN.out, List.length_map]) (by rw [HN.out]; exact (by rw [HN.out] at hr2; exact hr2)) kt2 (by omega) (fun a ha => by
          obtain ⟨y, hy, rfl⟩ := List.mem_map.1 ha
          exact ⟨_, (HF2.out y hy).1⟩))
        have z32 := HK2.out.cell 3
        have z33 := HK2.out.frozen 3
        have z34 := HK2.out.lt
        unfold poolC at z32
        simp only [List.getElem?_toArray, List.getElem?_cons_zero, List.getElem?_cons_succ] at z32
        rw [← HN.out] at z32
        clear hW2 kt2 hb2 hr2 kp t0 tf z3' c0' x514' x513'
        unfold ptrV at HDL
        have hmf : ∀ (fn : Fn) (first cap : Array Value) (w : World), (Instr.makeFunc fn first cap).run Tryz.prog w = .ok (.func fn first cap) w := fun _ _ _ _ => rfl
        go_wp2_with fail
        refine HDL.out.mono ?_
        rintro e w3 ⟨v3, rfl, hr3, hg3, hv3⟩
        obtain ⟨A3, c3, rfl, hc31, hc32, hrd3⟩ := hr3.slice
        have hrow2 : RowF p W2 (.slice (some ⟨b, 0, none⟩) n c) ((x :: r).map FrD.ad) := by rw [HN.out]; rw [HN.out] at HR2; exact HR2.out
        have k3 : Blk w3 p 209 (poolC d l f (.slice (some ⟨b, 0, none⟩) (x :: r).length c)) := (hg3.block p z34 (fun e => hrow2.ne HK2.out (by decide) e.symm)).trans HK2.out
        have hfb3 : ∀ y ∈ x :: r, Blk w3 y.ad 250 (frC y) := fun y hy =>
          (hg3.block y.ad (HF2.out y hy).1.lt (fun e => hrow2.ne (HF2.out y hy).1 (by decide) e.symm)).trans (HF2.out y hy).1
        have hst3 : StT p p W2 w3 := RowF.stT hrow2 (Below.refl _ _) hg3
        have hst : StT p p w w3 := (StT.of_below HB2.out).trans hst3
        have hot : ∀ q, q ≠ p → ∀ v, (w3.setCell ⟨p, 3, none⟩ v).heap[q]? = w3.heap[q]? := fun q hq v => Below.heap_setCell w3 ⟨p, 3, none⟩ v q hq
        have HU3 := hide (show ∀ v, v = .slice A3 (wo ((x :: r).map FrD.ad) x.ad).length c3 → UseP w p d l f (freeD f (x :: r)) (w3.setCell ⟨p, 3, none⟩ v) by
          rintro v rfl
          refine ⟨⟨⟨_, k3.set_ 3 _, ?_⟩, fun y hy => ?_⟩, hst.set p 3 (.inl rfl) _⟩
          · rw [HU.out, wo_map]
            exact hr3.keep fun q hq => hot q (fun e => hr3.ne k3 (by decide) (by rw [hq, e])) _
          · have hm := freeD_mem hy
            exact ⟨(hot _ ((hfb3 y hm).ne_ k3 (by decide)) _).trans (hfb3 y hm), (HF2.out y hm).2⟩)
        have q0 := k3.cell 3
        have q1 := k3.frozen 3
        have q2 := k3.lt
        unfold poolC at q0
        simp only [List.getElem?_toArray, List.getElem?_cons_zero, List.getElem?_cons_succ] at q0
        clear hr3 hg3 hv3 hrd3 hrow2 k3 hfb3 hst3 hst hot hc31
        generalize (wo ((x :: r).map FrD.ad) x.ad).length = n3 at *
        go_wp2
        simp only [Exit.noGoto]
        go_ret
        exact ⟨rfl, HU3.out _ rfl⟩
end Go.Proofs.YtnanlaefehaifaaGreat
namespace Go.Proofs.YtnanlaefehaifaaGreat
open Go.RowKit Go.Maps
theorem frC_range {W : World} {x : FrD} (k : Blk W x.ad 250 (frC x)) : W.rangeAt x.ad 1 (x.bs.map byteV) := by
  intro i v hv
  rw [k.cell]
  unfold frC
  rw [List.getElem?_toArray, show 1 + i = i + 1 by omega, List.getElem?_cons_succ, List.getElem?_append_left (List.getElem?_eq_some_iff.1 hv).1]
  exact hv
structure PoolC (W : World) (p d l : Nat) (f : Int) (n : Nat) (pg : Nat → List UInt8) (fs : List FrD) : Prop where
  pf : PoolF W p d l f fs
  ln : (fs.length : Int) ≤ f
  cl : ∀ y ∈ fs, y.bs = pg y.no ∧ y.dirty = false ∧ y.pins = 0 ∧ y.no < n ∧ rightP y.bs y.no = true
theorem useD_mem {fs : List FrD} {x y : FrD} (h : y ∈ useD fs x) : y ∈ fs ∨ y = x := by
  unfold useD at h
  rcases List.mem_append.1 h with h | h
  · left
    split at h
    · rcases List.mem_append.1 h with h | h
      · exact List.mem_of_mem_take h
      · exact List.mem_of_mem_drop h
    · exact h
  · rw [List.mem_singleton] at h
    exact .inr h
theorem useD_len {fs : List FrD} {x : FrD} : (useD fs x).length ≤ fs.length + 1 := by
  unfold useD
  rw [List.length_append, List.length_singleton]
  split
  · rw [List.length_append, List.length_take, List.length_drop]
    omega
  · omega
theorem useD_same {fs : List FrD} {x : FrD} (h : x ∈ fs) : (useD fs x).length = fs.length := by
  unfold useD
  rw [List.length_append, List.length_singleton]
  obtain ⟨i, hi⟩ := posA_mem (List.mem_map_of_mem (f := FrD.ad) h)
  have hl := (List.getElem?_eq_some_iff.1 (posA_some hi).1).1
  rw [List.length_map] at hl
  rw [hi]
  show (fs.take i ++ fs.drop (i + 1)).length + 1 = fs.length
  rw [List.length_append, List.length_take, List.length_drop]
  omega
def getV (bs : List UInt8) (no : Nat) : Value := if rightP bs no = true then .tuple #[pgV bs, .int .i64 0] else .tuple #[pgV zPg, .int .i64 14]
theorem DevS.st {W W' : World} {p d g m n : Nat} {fs : Bool} {fuse : Int} {lv : Value} {stale head sure : Int} {safe : List (List UInt8)} {k : Nat} {mf : Int → Option Value} {wr : Nat → List (List UInt8)} {cs : Array Value} (h : DevS W d g m n fs fuse lv stale head sure safe k mf wr) (kp : Blk W p 209 cs) (ht : StT p p W W') : DevS W' d g m n fs fuse lv stale head sure safe k mf wr := by
  obtain ⟨o, kd⟩ := h.kd
  refine h.keep ht (fun q hq hs => ?_)
  have fr : ∀ {q : Nat} {t : TypeId} {c : Array Value}, Blk W q t c → t ≠ 246 → t ≠ 209 → ¬ StB p p W q := by
    rintro q t c kq h1 h2 (e | e | ⟨_, cs', e⟩)
    · exact kq.ne_ kp h2 e
    · exact kq.ne_ kp h2 e
    · exact kq.ne_ e h1 rfl
  rcases hq with e | e | e | ⟨i, e⟩
  · subst e; exact fr kd (by decide) (by decide) hs
  · subst e; exact fr h.kg (by decide) (by decide) hs
  · subst e
    rcases hs with e | e | ⟨_, cs', e⟩
    · exact h.hm.ne kp e.symm
    · exact h.hm.ne kp e.symm
    · exact h.hm.ne e rfl
  · obtain ⟨cur, hc⟩ := row_obj (h.fw i) e
    exact fr (show Blk W q 63 cur from hc) (by decide) (by decide) hs
theorem PoolF.dev {W W' : World} {p d l : Nat} {f : Int} {fs : List FrD} {cs : Array Value} (h : PoolF W p d l f fs) (kd : Blk W d 107 cs) (ht : Turn (fun q => q = d) W W') : PoolF W' p d l f fs := by
  obtain ⟨v, kp, hrow⟩ := h.kp
  refine h.keep ht (kp.ne_ kd (by decide)) (fun x hx => (h.fb x hx).1.ne_ kd (by decide)) ?_
  rintro q ⟨_, cs', e⟩ rfl
  exact kd.ne_ e (by decide) rfl
theorem PoolF.setPg {W W' : World} {p d l r : Nat} {f : Int} {fs : List FrD} {cs : Array Value} (h : PoolF W p d l f fs) (k : Blk W r 63 cs) (ht : Turn (fun q => q = r) W W') : PoolF W' p d l f fs := by
  obtain ⟨v, kp, hrow⟩ := h.kp
  refine h.keep ht (kp.ne_ k (by decide)) (fun x hx => (h.fb x hx).1.ne_ k (by decide)) ?_
  rintro q ⟨_, cs', e⟩ rfl
  exact k.ne_ e (by decide) rfl
theorem Turn.setRow' (w : World) (g : Nat) (cs : Array Value) : Turn (fun q => q = g) w (w.setRow g cs) :=
  have t := touch_setRow w g cs
  ⟨t.os, t.tape, t.output, Nat.le_of_eq t.size.symm, fun k _ hn => t.block k (by rcases Nat.lt_trichotomy k g with h | h | h; exact .inl h; exact absurd h hn; exact .inr h)⟩
theorem StT.new {d p r : Nat} {A B C : World} (h : StT d p A B) (k : Turn (fun q => q = r) B C) (hr : A.heap.size ≤ r) : StT d p A C :=
  Turn.then_new h k hr
theorem StT.of_dev {d p : Nat} {W W' : World} (ht : Turn (fun q => q = d) W W') : StT d p W W' := Turn.mono ht (fun _ _ e => .inl e)
def GotP (w : World) (p d g m n l : Nat) (f : Int) (fuse : Int) (lv : Value) (stale head sure : Int) (safe : List (List UInt8)) (k : Nat) (mf : Int → Option Value) (wr : Nat → List (List UInt8)) (w' : World) : Prop :=
  DevS w' d g m n false fuse lv stale head sure safe k mf wr ∧ (∃ fs', PoolC w' p d l f n (pgOf safe wr) fs') ∧ StT d p w w'
theorem poolGet_any (p d g m n l : Nat) (f fuse : Int) (lv : Value) (stale head sure : Int) (safe : List (List UInt8)) (k : Nat) (mf : Int → Option Value) (wr : Nat → List (List UInt8)) (fs : List FrD) (no : Nat) (w : World)
    (hD : DevS w d g m n false fuse lv stale head sure safe k mf wr) (hP : PoolC w p d l f n (pgOf safe wr) fs) (hno : no < n) (hn : n ≤ 1024) (hw : (wr no).length ≤ 1000000) (hf1 : 1 ≤ f) (hf2 : f ≤ 64) :
    Calls Tryz.prog 102 #[ptrV p, .int .i64 (no : Nat)] w fun e w' => e = .returned (getV (pgOf safe wr no) no) ∧ GotP w p d g m n l f fuse lv stale head sure safe k mf wr w' := by
  obtain ⟨bs, hbs⟩ : ∃ bs, bs = pgOf safe wr no := ⟨_, rfl⟩
  have hl : bs.length = 512 := by rw [hbs]; exact pgOf_length hD hno
  have HBS := hide hbs
  have HL := hide hl
  have HX := hide (show (Tryz.prog.info? 63).map (·.size) = some (bs.map byteV).toArray.size by rw [List.size_toArray, List.length_map, hl]; exact info_pg)
  have HXL := hide (show (Tryz.prog.info? 63).map (·.size) = some (bs.map byteV).length by rw [List.length_map, hl]; exact info_pg)
  have HXZ := hide (show Tryz.zeroCells63.size = (bs.map byteV).toArray.size by rw [zeros_page, List.size_toArray, List.length_map, hl])
  have HX1 := hide (row_one bs)
  have hzl : zPg.length = 512 := zPg_length
  have HPI := hide (show (Tryz.prog.info? 63).map (·.size) = some ((zPg.map byteV).toArray).size by rw [pg_size zPg hzl]; exact info_pg)
  have HPZ := hide (show Tryz.zeroCells63.size = ((zPg.map byteV).toArray).size by rw [pg_size zPg hzl]; exact zeros_page)
  have HP1 := hide (row_one zPg)
  have HD := hide hD
  have HP := hide hP
  have hfl : fs.length ≤ 64 := by have := hP.ln; omega
  have hfi : fs.length ≤ 10000 := by omega
  obtain ⟨v0, hkp0, _⟩ := hP.pf.kp
  have hpl := hkp0.lt
  have hdl : d < w.heap.size := by obtain ⟨o, kd⟩ := hD.kd; exact kd.lt
  have HKP0 := hide hkp0
  rw [← hbs]
  clear hD hP hl hzl hbs hkp0
  rw [zPg_zero] at HPI HPZ HP1
  unfold ptrV
  go_enter Tryz.func102, Tryz.ntmps102
  go_upto_region 3 with (fail)
  refine gen1 (R := fun W => Code.wp _ _ _ _ W) (fun W1 kT hb1 hz1 => ?_)
  have HKT := hide kT
  have HB1 := hide hb1
  have HP1' := hide (HP.out.pf.via hb1)
  have HD1 := hide (HD.out.via hb1)
  clear kT hb1
  have HFD := hide (find_any p d l f fs no W1 HP1'.out (by omega))
  unfold ptrV at HFD
  cases hfd : fs.find? (fun x => x.no == no) with
  | some x =>
    have hxm := List.mem_of_find?_eq_some hfd
    have hxn : x.no = no := by have := List.find?_some hfd; simpa using this
    rw [hfd] at HFD
    have HXM := hide hxm
    obtain ⟨c1, c2, c3, c4, c5⟩ := HP.out.cl x hxm
    have HXB := hide (show x.bs = bs by rw [c1, hxn, HBS.out])
    have HRT := hide (show rightP bs no = true by rw [← HXB.out, ← hxn]; exact c5)
    have HUS := hide (use_any p d l f fs x W1 HP1'.out hfi (HP1'.out.fb x hxm).1 (HP1'.out.fb x hxm).2)
    unfold ptrV at HUS
    have HGV := hide (show getV bs no = .tuple #[pgV bs, .int .i64 0] by unfold getV; rw [if_pos HRT.out])
    clear hfd hxm hxn c1 c2 c3 c4 c5
    simp only [Option.map_some] at HFD
    go_wp2_with fail
    refine HFD.out.mono ?_
    rintro e w' ⟨rfl, hw'⟩
    obtain rfl := hw'.symm
    go_wp2_with fail
    refine HUS.out.mono ?_
    rintro e w2 ⟨⟨vv, rfl⟩, hu, hst⟩
    have hxu : x ∈ useD fs x := by unfold useD; exact List.mem_append_right _ (List.mem_singleton_self x)
    have kx2 := (hu.fb x hxu).1
    have kt2 : Blk w2 w.heap.size 63 Tryz.zeroCells63 := StT.blk hst HKT.out (by omega) (by omega) (by decide)
    have hrg : w2.rangeAt x.ad 1 (bs.map byteV) := by rw [← HXB.out]; exact frC_range kx2
    have xl2 := kx2.lt
    have HR2 := hide hrg
    have HT2 := hide kt2
    have hpool : ∀ W', Turn (fun q => q = w.heap.size) w2 W' → GotP w p d g m n l f fuse lv stale head sure safe k mf wr W' := by
      intro W' ht
      refine ⟨?_, ⟨useD fs x, hu.setPg kt2 ht, by rw [useD_same HXM.out]; exact HP.out.ln, ?_⟩, ?_⟩
      · refine (DevS.st HD1.out (Blk.via HB1.out HKP0.out) hst).keep ht (fun q hq e => ?_)
        have := DevS.lt HD.out q hq
        omega
      · intro y hy
        rcases useD_mem hy with h | h
        · exact HP.out.cl y h
        · rw [h]; exact HP.out.cl x HXM.out
      · exact ((StT.of_below HB1.out).trans (StT.mono hst)).new ht (Nat.le_refl _)
    have HPL := hide hpool
    clear hu hst kx2 kt2 hrg hpool hxu
    go_wp2_with (first
      | (refine wpList_load_mid rfl 63 (.tmp 23) rfl x.ad 1 rfl (bs.map byteV) _ HR2.out Tryz.underlying63 rfl HXL.out ?_)
      | (refine wpList_store_row rfl 63 (.tmp 4) (.tmp 24) rfl w.heap.size (bs.map byteV).toArray rfl rfl 63 _ HT2.out HX.out HXZ.out HX1.out ?_))
    refine bodyPost_ret (results_row_1 Tryz.results102 _ _ w.heap.size (bs.map byteV).toArray rfl (run_loadVar_row _ _ _ _ (bs.map byteV).toArray (0, 0) _ (setRow_heap w2 w.heap.size _ _ _ _ HT2.out) Tryz.underlying63 rfl HX.out)) rfl ⟨by rw [HGV.out]; rfl, HPL.out _ ?_⟩
    exact Turn.setRow' _ _ _
  | none =>
    rw [hfd] at HFD
    clear hfd
    simp only [Option.map_none] at HFD
    have HFR := hide (free_any p d l f fs W1 HP1'.out hfi hf1 (fun y hy => ⟨(HP.out.cl y hy).2.1, (HP.out.cl y hy).2.2.1⟩))
    unfold ptrV at HFR
    go_wp2_with fail
    refine HFD.out.mono ?_
    rintro e w' ⟨rfl, hw'⟩
    obtain rfl := hw'.symm
    go_wp2_with fail
    refine HFR.out.mono ?_
    rintro e w2 ⟨rfl, hu, hst⟩
    have kt2 : Blk w2 w.heap.size 63 Tryz.zeroCells63 := StT.blk hst HKT.out (by omega) (by omega) (by decide)
    have hd2 := DevS.st HD1.out (Blk.via HB1.out HKP0.out) hst
    obtain ⟨v2, kp2, hrow2⟩ := hu.kp
    have p0 := kp2.cell 0
    have pl := kp2.lt
    unfold poolC at p0
    simp only [List.getElem?_toArray, List.getElem?_cons_zero] at p0
    have HRD := hide (devRead_any w2 d g m n false fuse lv stale head sure safe k mf wr no hd2 hno hn hw (fun h => by cases h))
    rw [HBS.out.symm] at HRD
    have HU2 := hide hu
    have HT2 := hide kt2
    have HST2 := hide ((StT.of_below HB1.out).trans (StT.mono (d := d) hst))
    have hz2 := HT2.out.lt
    have HD2 := hide hd2
    clear hu hst kt2 hd2 kp2 hrow2
    unfold pgV at HRD
    go_wp2_with fail
    refine HRD.out.mono ?_
    rintro e w3 ⟨rfl, hrd, ht3⟩
    have HD3 := hide (show DevS w3 d g m n false fuse lv stale head sure safe k mf wr from hrd)
    have hd3 := HD3.out.kd
    obtain ⟨o2, kd2⟩ := HD2.out.kd
    have HP3 := hide (HU2.out.dev kd2 ht3)
    clear hrd
    go_wp2_with (first
      | (refine wpList_store_row rfl 63 (.tmp 8) (.tmp 38) rfl w3.heap.size (bs.map byteV).toArray rfl rfl 63 _ (Blk.new w3 _ _) HX.out HXZ.out HX1.out ?_)
      | (refine wpList_load_row rfl 63 (.tmp 8) rfl w3.heap.size rfl 63 (bs.map byteV).toArray (0, 0) _ (setRow_heap _ w3.heap.size _ _ _ _ (Blk.new w3 _ _)) Tryz.underlying63 rfl HX.out ?_))
    refine nameW (R := fun W => Calls Tryz.prog _ _ W _) (fun W4 hW4 => ?_)
    have kq4 : Blk W4 w3.heap.size 63 (bs.map byteV).toArray := hW4 ▸ setRow_heap _ w3.heap.size _ _ _ _ (Blk.new w3 _ _)
    have hb4 : Below w3.heap.size w3 W4 := hW4 ▸ (touch_setRow _ w3.heap.size (bs.map byteV).toArray).below ((Below.refl w3.heap.size w3).alloc (Nat.le_refl _) _) (Nat.le_refl _)
    clear hW4
    refine (pCheck_any bs HL.out no W4).mono ?_
    rintro e W5 ⟨rfl, hb5⟩
    have hb35 : Below w3.heap.size w3 W5 := hb4.trans (hb5.mono hb4.size)
    have HD5 := hide (HD3.out.via hb35)
    have HP5 := hide (HP3.out.via hb35)
    have HQ5 := hide (Blk.via hb5 kq4)
    have hz3 := ht3.size
    have HT5 := hide (Blk.via hb35 (ht3.blk HT2.out (by omega)))
    have HST5 := hide ((HST2.out.trans (StT.of_dev ht3)).trans (StT.of_below hb35))
    have hz5 := hb35.size
    have hq5l := HQ5.out.lt
    clear hb35 hb5 hb4 kq4 ht3 kd2
    cases hrp : rightP bs no with
    | false =>
      have HGV := hide (show getV bs no = .tuple #[pgV zPg, .int .i64 14] by unfold getV; rw [hrp]; rfl)
      have HRE := hide (show rightE bs no = 14 by unfold rightE; rw [hrp]; rfl)
      rw [HRE.out]
      clear hrp
      have HPL := hide (show ∀ W', Turn (fun q => q = w.heap.size) W5 W' → GotP w p d g m n l f fuse lv stale head sure safe k mf wr W' by
        intro W' ht
        refine ⟨?_, ⟨freeD f fs, HP5.out.setPg HT5.out ht, Int.le_of_lt (freeD_lt hf1 HP.out.ln), fun y hy => HP.out.cl y (freeD_mem hy)⟩, HST5.out.new ht (Nat.le_refl _)⟩
        refine HD5.out.keep ht (fun q hq e => ?_)
        have := DevS.lt HD.out q hq
        omega)
      go_wp2_with (refine wpList_store_row rfl 63 (.tmp 4) (.tmp 48) rfl w.heap.size Tryz.zeroCells63 rfl rfl 63 _ HT5.out HPI.out rfl HP1.out ?_)
      refine bodyPost_ret (results_row_1 Tryz.results102 _ _ w.heap.size Tryz.zeroCells63 rfl (run_loadVar_row _ _ _ _ Tryz.zeroCells63 (0, 0) _ (setRow_heap _ w.heap.size _ _ _ _ HT5.out) Tryz.underlying63 rfl HPI.out)) rfl ⟨?_, HPL.out _ (Turn.setRow' _ _ _)⟩
      rw [HGV.out, pgV, zPg_zero]
      rfl
    | true =>
      have HGV := hide (show getV bs no = .tuple #[pgV bs, .int .i64 0] by unfold getV; rw [hrp]; rfl)
      have HRE := hide (show rightE bs no = 0 by unfold rightE; rw [hrp]; rfl)
      rw [HRE.out]
      have HRP := hide hrp
      clear hrp
      have HBF := hide (fun W => run_build_frame no W5.heap.size bs HL.out W)
      go_wp2_with (first
        | (refine wpList_load_row rfl 63 (.tmp 8) rfl w3.heap.size rfl 63 (bs.map byteV).toArray (0, 0) _ HQ5.out Tryz.underlying63 rfl HX.out ?_)
        | (refine wpList_build_of rfl 250 _ rfl #[(0, .int .i64 no), (1, .agg (bs.map byteV).toArray)] (by simp only [List.map_toArray, List.map_cons, List.map_nil]; rfl) (.agg (frC ⟨no, W5.heap.size, bs, false, 0⟩)) (HBF.out _) ?_))
      have hb6 : Below W5.heap.size W5 (W5.alloc (.cells (frC ⟨no, W5.heap.size, bs, false, 0⟩) 250)) := (Below.refl _ _).alloc (Nat.le_refl _) _
      have hfd : (freeD f fs).length ≤ 10000 := by have := freeD_lt hf1 HP.out.ln; omega
      have HUN := hide (use_any p d l f (freeD f fs) ⟨no, W5.heap.size, bs, false, 0⟩ _ (HP5.out.via hb6) hfd (Blk.new W5 250 (frC ⟨no, W5.heap.size, bs, false, 0⟩)) HL.out)
      unfold ptrV at HUN
      refine HUN.out.mono ?_
      rintro e W7 ⟨⟨vv, rfl⟩, hu7, hst7⟩
      have kp6 : ∃ cs, Blk (W5.alloc (.cells (frC ⟨no, W5.heap.size, bs, false, 0⟩) 250)) p 209 cs := by
        obtain ⟨v, k, _⟩ := (HP5.out.via hb6).kp
        exact ⟨_, k⟩
      obtain ⟨csp, kp6⟩ := kp6
      have HD7 := hide (DevS.st (HD5.out.via hb6) kp6 hst7)
      have HT7 := hide (StT.blk hst7 (Blk.via hb6 HT5.out) (by omega) (by omega) (by decide))
      have HQ7 := hide (StT.blk hst7 (Blk.via hb6 HQ5.out) (by omega) (by omega) (by decide))
      have HPL := hide (show ∀ W', Turn (fun q => q = w.heap.size) W7 W' → GotP w p d g m n l f fuse lv stale head sure safe k mf wr W' by
        intro W' ht
        refine ⟨?_, ⟨_, hu7.setPg HT7.out ht, ?_, fun y hy => ?_⟩, ((HST5.out.trans (StT.of_below hb6)).trans (StT.mono hst7)).new ht (Nat.le_refl _)⟩
        · refine HD7.out.keep ht (fun q hq e => ?_)
          have := DevS.lt HD.out q hq
          omega
        · have h1 := @useD_len (freeD f fs) ⟨no, W5.heap.size, bs, false, 0⟩
          have h2 := freeD_lt hf1 HP.out.ln
          omega
        · rcases useD_mem hy with h | h
          · exact HP.out.cl y (freeD_mem h)
          · subst h
            exact ⟨HBS.out, rfl, rfl, hno, HRP.out⟩)
      clear hu7 hst7 kp6 hb6 hfd
      go_wp2_with (first
        | (refine wpList_load_row rfl 63 (.tmp 8) rfl w3.heap.size rfl 63 (bs.map byteV).toArray (0, 0) _ HQ7.out Tryz.underlying63 rfl HX.out ?_)
        | (refine wpList_store_row rfl 63 (.tmp 4) (.tmp 55) rfl w.heap.size (bs.map byteV).toArray rfl rfl 63 _ HT7.out HX.out HXZ.out HX1.out ?_))
      refine bodyPost_ret (results_row_1 Tryz.results102 _ _ w.heap.size (bs.map byteV).toArray rfl (run_loadVar_row _ _ _ _ (bs.map byteV).toArray (0, 0) _ (setRow_heap _ w.heap.size _ _ _ _ HT7.out) Tryz.underlying63 rfl HX.out)) rfl ⟨by rw [HGV.out]; rfl, HPL.out _ (Turn.setRow' _ _ _)⟩
end Go.Proofs.YtnanlaefehaifaaGreat
