/-
  model.step, whatever the operation.
-/
import Derived.Test.YteidmdnhkgcnoaaGreatPLB
import Derived.Test.YteidmdnhkgcnoaaGreatPF
namespace Go.Proofs.YteidmdnhkgcnoaaGreat
open Go.RowKit

set_option maxHeartbeats 800000 in
theorem step_bad (x : OpD) (A2 : Option Addr) (n2 c2 : Nat) (v : Value) (ys : List PairV) (base B : Nat) (w : World) (hst : StS w base v ys) (hd : BytesAt w B (.slice A2 n2 c2) x.data) (hk : x.key.size ≤ 9223372036854775807) (hgood : goodOp x = false) :
    Calls Tryz.prog 64 #[v, .agg #[.int .i64 x.act, .string x.key, .slice A2 n2 c2, .int .i64 x.lo, .int .i64 x.hi, .int .i64 x.n]] w (StepP w base v ys x) := by
  have hn2 : n2 = x.data.length := by
    obtain ⟨A', n', c', e, _, _, hl, _⟩ := hd
    injection e with _ e _
    rw [e]; exact hl
  have hoe : opE x = 1 := by unfold opE; rw [hgood]; rfl
  have HCHK := hide (fun W => hoe ▸ modelCheck_any x A2 n2 c2 W hn2 hk)
  have hs : stepD (ys.map PairV.d) x = (ys.map PairV.d, 1, cell0) := by unfold stepD; rw [if_pos hgood]
  have HS := hide hs
  clear hn2 hd hoe hs hgood
  go_enter Tryz.func64, Tryz.ntmps64
  go_wp2_with fail
  refine gen2 (R := fun W => Calls Tryz.prog 82 _ W _) ?_
  intro W k0 k1 hb hz
  (with_reducible refine (HCHK.out _).mono ?_)
  rintro e w1 ⟨rfl, hb1⟩
  have hb01 := below_via hb hb1 (by omega)
  have k1' := Blk.via hb1 k1
  have st1 := hst.via hb01
  have q1 := k1'.cell
  have q2 := k1'.frozen
  go_wp2
  refine bodyPost_ret (v := .tuple #[v, .agg #[.int .i64 1, .int .i64 0, .slice none 0 0, .int .i64 0, .int .i64 0, .int .i64 0]]) (by simp [results, Tryz.results64, go_sem, q1]) rfl ?_
  exact stepP_of (rc := cell0) (ys' := ys) HS.out st1 rfl (OwnB.nil _ _) (grown_below hb01 _) (.inl rfl) k1' (by omega) (by (repeat first | (with_reducible refine Touch.oneP ?_ _) | (with_reducible refine Touch.drew ?_)); exact Touch.refl _)

theorem idx_read (g1 g2 : Nat) (W : World) : (Instr.index 127 (.agg #[.func (.func 103) #[] #[], .func (.func 104) #[] #[], .func (.func 105) #[] #[], .func (.func 106) #[] #[], .func (.func 118) #[] #[.pointer (some ⟨g1, 0, none⟩)], .func (.func 118) #[] #[.pointer (some ⟨g2, 0, none⟩)]]) (.int .i64 0)).run Tryz.prog W = .ok (.agg #[.func (.func 103) #[] #[]]) W := by kernel_rfl
theorem idx_write (g1 g2 : Nat) (W : World) : (Instr.index 127 (.agg #[.func (.func 103) #[] #[], .func (.func 104) #[] #[], .func (.func 105) #[] #[], .func (.func 106) #[] #[], .func (.func 118) #[] #[.pointer (some ⟨g1, 0, none⟩)], .func (.func 118) #[] #[.pointer (some ⟨g2, 0, none⟩)]]) (.int .i64 1)).run Tryz.prog W = .ok (.agg #[.func (.func 104) #[] #[]]) W := by kernel_rfl
theorem idx_create (g1 g2 : Nat) (W : World) : (Instr.index 127 (.agg #[.func (.func 103) #[] #[], .func (.func 104) #[] #[], .func (.func 105) #[] #[], .func (.func 106) #[] #[], .func (.func 118) #[] #[.pointer (some ⟨g1, 0, none⟩)], .func (.func 118) #[] #[.pointer (some ⟨g2, 0, none⟩)]]) (.int .i64 2)).run Tryz.prog W = .ok (.agg #[.func (.func 105) #[] #[]]) W := by kernel_rfl
theorem idx_drop (g1 g2 : Nat) (W : World) : (Instr.index 127 (.agg #[.func (.func 103) #[] #[], .func (.func 104) #[] #[], .func (.func 105) #[] #[], .func (.func 106) #[] #[], .func (.func 118) #[] #[.pointer (some ⟨g1, 0, none⟩)], .func (.func 118) #[] #[.pointer (some ⟨g2, 0, none⟩)]]) (.int .i64 3)).run Tryz.prog W = .ok (.agg #[.func (.func 106) #[] #[]]) W := by kernel_rfl
theorem idx_mv4 (g1 g2 : Nat) (W : World) : (Instr.index 127 (.agg #[.func (.func 103) #[] #[], .func (.func 104) #[] #[], .func (.func 105) #[] #[], .func (.func 106) #[] #[], .func (.func 118) #[] #[.pointer (some ⟨g1, 0, none⟩)], .func (.func 118) #[] #[.pointer (some ⟨g2, 0, none⟩)]]) (.int .i64 4)).run Tryz.prog W = .ok (.agg #[.func (.func 118) #[] #[.pointer (some ⟨g1, 0, none⟩)]]) W := by kernel_rfl
theorem idx_mv5 (g1 g2 : Nat) (W : World) : (Instr.index 127 (.agg #[.func (.func 103) #[] #[], .func (.func 104) #[] #[], .func (.func 105) #[] #[], .func (.func 106) #[] #[], .func (.func 118) #[] #[.pointer (some ⟨g1, 0, none⟩)], .func (.func 118) #[] #[.pointer (some ⟨g2, 0, none⟩)]]) (.int .i64 5)).run Tryz.prog W = .ok (.agg #[.func (.func 118) #[] #[.pointer (some ⟨g2, 0, none⟩)]]) W := by kernel_rfl
theorem pure_none {A : Option Addr} {n c : Nat} {k lo hi va : Int} {hb : Bool} {tb : List UInt8} (h : PureOk none A n c k lo hi va hb tb) : A = none ∧ n = 0 ∧ c = 0 ∧ k = 0 ∧ lo = 0 ∧ hi = 0 ∧ va = 0 ∧ hb = false ∧ tb = [] := h
theorem pure_some {cd : CellD} {A : Option Addr} {n c : Nat} {k lo hi va : Int} {hb : Bool} {tb : List UInt8} (h : PureOk (some cd) A n c k lo hi va hb tb) : k = cd.kind ∧ lo = cd.lo ∧ hi = cd.hi ∧ va = cd.val ∧ hb = true ∧ tb = cd.data := h

set_option maxRecDepth 100000 in
set_option maxHeartbeats 1600000 in
theorem step_good (x : OpD) (A2 : Option Addr) (n2 c2 : Nat) (v : Value) (ys : List PairV) (base B : Nat) (w : World) (hB : B ≤ w.heap.size) (hbase : base ≤ w.heap.size) (hn : ys.length ≤ 10000) (hst : StS w base v ys) (hd : BytesAt w B (.slice A2 n2 c2) x.data) (hR : RightS (ys.map PairV.d)) (hW : WfS (ys.map PairV.d)) (hx : OpWf x) (hdl : x.data.length ≤ 1000000) (hgood : goodOp x = true) :
    Calls Tryz.prog 64 #[v, .agg #[.int .i64 x.act, .string x.key, .slice A2 n2 c2, .int .i64 x.lo, .int .i64 x.hi, .int .i64 x.n]] w (StepP w base v ys x) := by
  have hk := hx.2.2.2
  obtain ⟨_, ha0, ha5⟩ := goodOp_key hgood
  have hcd : ∀ c, hasD (ys.map PairV.d) x.key = some c → c.data.length ≤ 1000000 ∧ CellWf c := fun c h => ⟨by rcases rightC_kind (hR.has h) with ⟨_, h⟩ | ⟨_, h⟩; omega; rw [h]; simp, hW.has h⟩
  rcases (show x.act = 0 ∨ x.act = 1 ∨ x.act = 2 ∨ x.act = 3 ∨ x.act = 4 ∨ x.act = 5 by omega) with h | h | h | h | h | h
  · refine stepA 103 x A2 n2 c2 v ys base B w hB hbase hn hst hd hR hk hgood (enters_of Tryz.func103 (by kernel_rfl) rfl) (fun g1 g2 W => by rw [h]; exact idx_read g1 g2 W) ?_
    intro A1 n1 c1 k0 lo0 hi0 va0 hb0 tb0 hpu W hb ho
    cases ht : hasD (ys.map PairV.d) x.key with
    | none =>
      rw [ht] at hpu
      obtain ⟨rfl, rfl, rfl, rfl, rfl, rfl, rfl, rfl, rfl⟩ := pure_none hpu
      exact (read_none x A2 n2 c2 base W _ (by unfold ruleD; simp [h])).mono fun _ _ h => RulePU.of h
    | some c =>
      rw [ht] at hpu
      obtain ⟨rfl, rfl, rfl, rfl, rfl, rfl⟩ := pure_some hpu
      have hcl := hcd c ht
      exact (read_some c A1 n1 c1 x A2 n2 c2 base W _ (Nat.le_trans hbase hb.size) hcl.1 ho (by unfold ruleD; simp [h])).mono fun _ _ h => RulePU.of h
  · refine stepA 104 x A2 n2 c2 v ys base B w hB hbase hn hst hd hR hk hgood (enters_of Tryz.func104 (by kernel_rfl) rfl) (fun g1 g2 W => by rw [h]; exact idx_write g1 g2 W) ?_
    intro A1 n1 c1 k0 lo0 hi0 va0 hb0 tb0 hpu W hb ho
    cases ht : hasD (ys.map PairV.d) x.key with
    | none =>
      rw [ht] at hpu
      obtain ⟨rfl, rfl, rfl, rfl, rfl, rfl, rfl, rfl, rfl⟩ := pure_none hpu
      exact (write_none x A2 n2 c2 base W _ B (Nat.le_trans hB hb.size) (Nat.le_trans hbase hb.size) hdl (hd.below hb hB) (by unfold ruleD; simp [h])).mono fun _ _ h => RulePU.of h
    | some c =>
      rw [ht] at hpu
      obtain ⟨rfl, rfl, rfl, rfl, rfl, rfl⟩ := pure_some hpu
      have hcl := hcd c ht
      cases hk2 : (c.kind == 2)
      · exact (write_some c A1 n1 c1 x A2 n2 c2 base W _ hk2 B (Nat.le_trans hB hb.size) (Nat.le_trans hbase hb.size) hdl (hd.below hb hB) (by unfold ruleD; simp [h, hk2])).mono fun _ _ h => RulePU.of h
      · exact (write_no c A1 n1 c1 x A2 n2 c2 base W _ hk2 (by unfold ruleD; simp [h, hk2])).mono fun _ _ h => RulePU.of h
  · refine stepA 105 x A2 n2 c2 v ys base B w hB hbase hn hst hd hR hk hgood (enters_of Tryz.func105 (by kernel_rfl) rfl) (fun g1 g2 W => by rw [h]; exact idx_create g1 g2 W) ?_
    intro A1 n1 c1 k0 lo0 hi0 va0 hb0 tb0 hpu W hb ho
    cases ht : hasD (ys.map PairV.d) x.key with
    | none =>
      rw [ht] at hpu
      obtain ⟨rfl, rfl, rfl, rfl, rfl, rfl, rfl, rfl, rfl⟩ := pure_none hpu
      exact (create_none x A2 n2 c2 base W _ (by unfold ruleD; simp [h])).mono fun _ _ h => RulePU.of h
    | some c =>
      rw [ht] at hpu
      obtain ⟨rfl, rfl, rfl, rfl, rfl, rfl⟩ := pure_some hpu
      have hcl := hcd c ht
      exact (create_some c A1 n1 c1 x A2 n2 c2 base W _ (by unfold ruleD; simp [h])).mono fun _ _ h => RulePU.of h
  · refine stepA 106 x A2 n2 c2 v ys base B w hB hbase hn hst hd hR hk hgood (enters_of Tryz.func106 (by kernel_rfl) rfl) (fun g1 g2 W => by rw [h]; exact idx_drop g1 g2 W) ?_
    intro A1 n1 c1 k0 lo0 hi0 va0 hb0 tb0 hpu W hb ho
    cases ht : hasD (ys.map PairV.d) x.key with
    | none =>
      rw [ht] at hpu
      obtain ⟨rfl, rfl, rfl, rfl, rfl, rfl, rfl, rfl, rfl⟩ := pure_none hpu
      exact (drop_none x A2 n2 c2 base W _ (by unfold ruleD; simp [h])).mono fun _ _ h => RulePU.of h
    | some c =>
      rw [ht] at hpu
      obtain ⟨rfl, rfl, rfl, rfl, rfl, rfl⟩ := pure_some hpu
      have hcl := hcd c ht
      exact (drop_some c A1 n1 c1 x A2 n2 c2 base W _ (by unfold ruleD; simp [h])).mono fun _ _ h => RulePU.of h
  · refine stepB 118 (fun g1 _ => g1) x A2 n2 c2 v ys base B w hB hbase hn hst hd hR hk hgood (enters_of Tryz.func118 (by kernel_rfl) rfl) (fun g1 g2 W => by rw [h]; exact idx_mv4 g1 g2 W) ?_
    intro A1 n1 c1 k0 lo0 hi0 va0 hb0 tb0 hpu g1 g2 W hb hcc ho
    cases ht : hasD (ys.map PairV.d) x.key with
    | none =>
      rw [ht] at hpu
      obtain ⟨rfl, rfl, rfl, rfl, rfl, rfl, rfl, rfl, rfl⟩ := pure_none hpu
      exact (mv_none x A2 n2 c2 base g1 W _ (by unfold ruleD; simp [h])).mono fun _ _ h => RulePU.of h
    | some c =>
      rw [ht] at hpu
      obtain ⟨rfl, rfl, rfl, rfl, rfl, rfl⟩ := pure_some hpu
      have hcl := hcd c ht
      have hrd : ruleD (some c) x = if c.kind ≠ 2 then (none, 6, cell0) else if c.val + x.n < c.lo ∨ c.hi < c.val + x.n then (none, 8, cell0) else (some ⟨2, [], c.lo, c.hi, c.val + x.n⟩, 0, cell0) := by unfold ruleD; simp [h]
      rw [hrd]
      cases hk2 : (c.kind != 2)
      · have hkk : c.kind = 2 := by simpa using hk2
        rw [if_neg (by omega)]
        by_cases hbd : c.val + x.n < c.lo ∨ c.hi < c.val + x.n
        · rw [if_pos hbd]
          by_cases hz : -9223372036854775808 ≤ c.val + x.n ∧ c.val + x.n ≤ 9223372036854775807
          · exact (mvA_err c A1 n1 c1 x A2 n2 c2 base g1 W _ hk2 hcl.2 hx.2.2.1 hcc.l1 hcc.c1 hz hbd rfl).mono fun _ _ h => RulePU.of h
          · exact (mvA_no c A1 n1 c1 x A2 n2 c2 base g1 W _ hk2 hcl.2 hx.2.2.1 hcc.l1 hcc.c1 hz rfl).mono fun _ _ h => RulePU.of h
        · rw [if_neg hbd]
          have h1 := hcl.2.1
          have h2 := hcl.2.2.1
          unfold inI at h1 h2
          exact (mvA_ok c A1 n1 c1 x A2 n2 c2 base g1 W _ hk2 hcl.2 hx.2.2.1 hcc.l1 hcc.c1 (by omega) (by omega) (by omega) rfl).mono fun _ _ h => RulePU.of h
      · have hkk : c.kind ≠ 2 := by simpa using hk2
        rw [if_pos hkk]
        exact (mv_kind c A1 n1 c1 x A2 n2 c2 base g1 W _ hk2 rfl).mono fun _ _ h => RulePU.of h
  · refine stepB 118 (fun _ g2 => g2) x A2 n2 c2 v ys base B w hB hbase hn hst hd hR hk hgood (enters_of Tryz.func118 (by kernel_rfl) rfl) (fun g1 g2 W => by rw [h]; exact idx_mv5 g1 g2 W) ?_
    intro A1 n1 c1 k0 lo0 hi0 va0 hb0 tb0 hpu g1 g2 W hb hcc ho
    cases ht : hasD (ys.map PairV.d) x.key with
    | none =>
      rw [ht] at hpu
      obtain ⟨rfl, rfl, rfl, rfl, rfl, rfl, rfl, rfl, rfl⟩ := pure_none hpu
      exact (mv_none x A2 n2 c2 base g2 W _ (by unfold ruleD; simp [h])).mono fun _ _ h => RulePU.of h
    | some c =>
      rw [ht] at hpu
      obtain ⟨rfl, rfl, rfl, rfl, rfl, rfl⟩ := pure_some hpu
      have hcl := hcd c ht
      have hrd : ruleD (some c) x = if c.kind ≠ 2 then (none, 6, cell0) else if c.val - x.n < c.lo ∨ c.hi < c.val - x.n then (none, 8, cell0) else (some ⟨2, [], c.lo, c.hi, c.val - x.n⟩, 0, cell0) := by unfold ruleD; simp [h]
      rw [hrd]
      cases hk2 : (c.kind != 2)
      · have hkk : c.kind = 2 := by simpa using hk2
        rw [if_neg (by omega)]
        by_cases hbd : c.val - x.n < c.lo ∨ c.hi < c.val - x.n
        · rw [if_pos hbd]
          by_cases hz : -9223372036854775808 ≤ c.val - x.n ∧ c.val - x.n ≤ 9223372036854775807
          · exact (mvS_err c A1 n1 c1 x A2 n2 c2 base g2 W _ hk2 hcl.2 hx.2.2.1 hcc.l2 hcc.c2 hz hbd rfl).mono fun _ _ h => RulePU.of h
          · exact (mvS_no c A1 n1 c1 x A2 n2 c2 base g2 W _ hk2 hcl.2 hx.2.2.1 hcc.l2 hcc.c2 hz rfl).mono fun _ _ h => RulePU.of h
        · rw [if_neg hbd]
          have h1 := hcl.2.1
          have h2 := hcl.2.2.1
          unfold inI at h1 h2
          exact (mvS_ok c A1 n1 c1 x A2 n2 c2 base g2 W _ hk2 hcl.2 hx.2.2.1 hcc.l2 hcc.c2 (by omega) (by omega) (by omega) rfl).mono fun _ _ h => RulePU.of h
      · have hkk : c.kind ≠ 2 := by simpa using hk2
        rw [if_pos hkk]
        exact (mv_kind c A1 n1 c1 x A2 n2 c2 base g2 W _ hk2 rfl).mono fun _ _ h => RulePU.of h

/-- model.step, whatever the operation. -/
theorem pStep_any (x : OpD) (A2 : Option Addr) (n2 c2 : Nat) (v : Value) (ys : List PairV) (base B : Nat) (w : World) (hB : B ≤ w.heap.size) (hbase : base ≤ w.heap.size) (hn : ys.length ≤ 10000) (hst : StS w base v ys) (hd : BytesAt w B (.slice A2 n2 c2) x.data) (hR : RightS (ys.map PairV.d)) (hW : WfS (ys.map PairV.d)) (hx : OpWf x) (hdl : x.data.length ≤ 1000000) :
    Calls Tryz.prog 64 #[v, .agg #[.int .i64 x.act, .string x.key, .slice A2 n2 c2, .int .i64 x.lo, .int .i64 x.hi, .int .i64 x.n]] w (StepP w base v ys x) := by
  cases hg : goodOp x
  · exact step_bad x A2 n2 c2 v ys base B w hst hd hx.2.2.2 hg
  · exact step_good x A2 n2 c2 v ys base B w hB hbase hn hst hd hR hW hx hdl hg
end Go.Proofs.YteidmdnhkgcnoaaGreat
