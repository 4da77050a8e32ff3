/-
  WALK OF THE PROGRAM: model.Run.
-/
import Derived.Test.YteidmdnhkgcnoaaGreatPM
import Derived.Test.YteidmdnhkgcnoaaGreatPJ
import Derived.Test.YteidmdnhkgcnoaaGreatWG
namespace Go.Proofs.YteidmdnhkgcnoaaGreat
open Go.RowKit

/-- An operation with the value of its slice. -/
structure OpV where
  d : OpD
  dv : Value
def OpV.cells (x : OpV) : List Value := opCells x.d x.dv
theorem OpV.cells_length (x : OpV) : x.cells.length = 6 := rfl
def Opers (w : World) (B : Nat) (A : Option Addr) (n : Nat) (xs : List OpV) : Prop :=
  n = xs.length ∧ Reads w B 6 A n (xs.flatMap OpV.cells) ∧ ∀ x ∈ xs, BytesAt w B x.dv x.d.data
section
variable {w w' : World} {B B' C n : Nat} {A : Option Addr} {xs : List OpV}
theorem Opers.below (h : Opers w B A n xs) (hb : Below C w w') (hC : B ≤ C) : Opers w' B A n xs := ⟨h.1, h.2.1.below hb hC, fun x hx => (h.2.2 x hx).below hb hC⟩
theorem Opers.more (h : Opers w B A n xs) (hB : B ≤ B') : Opers w B' A n xs := ⟨h.1, h.2.1.more hB, fun x hx => (h.2.2 x hx).more hB⟩
theorem Opers.at_ {k : Nat} (h : Opers w B A n xs) (hk : k < n) : ∃ b o x, A = some ⟨b, o, none⟩ ∧ b < B ∧ xs[k]? = some x ∧ BytesAt w B x.dv x.d.data ∧ ∀ j u, x.cells[j]? = some u → w.cell? ⟨b, o + k * 6 + j, none⟩ = some u := by
  obtain ⟨rfl, hr, hok⟩ := h
  obtain ⟨b, o, e, hb, hc⟩ := hr.plain (by omega) (by omega)
  refine ⟨b, o, xs[k], e, hb, List.getElem?_eq_getElem hk, hok _ (List.getElem_mem _), fun j u hu => ?_⟩
  have hj : j < 6 := by
    have := (List.getElem?_eq_some_iff.1 hu).1
    rwa [OpV.cells_length] at this
  rw [Nat.add_assoc]
  refine hc _ u ?_
  rw [flat_at _ 6 OpV.cells_length _ _ _ hj, List.getElem?_eq_getElem hk]
  exact hu
end
/-- An answer with the value of its slice. -/
structure AnsV where
  er : Int
  cd : CellD
  av : Value
def AnsV.cells (x : AnsV) : List Value := .int .i64 x.er :: cellCells x.cd x.av
theorem AnsV.cells_length (x : AnsV) : x.cells.length = 6 := rfl
def ops_of (xs : List OpV) : List OpD := xs.map OpV.d
/-- What Run has told so far. -/
structure ToldSt (s : List PairD) (xs : List OpV) (m gT base k : Nat) (done : List AnsV) (W : World) : Prop where
  len : done.length = k
  val : ∀ i a x, done[i]? = some a → xs[i]? = some x → (a.er, a.cd) = toldD s (ops_of (xs.take i)) x.d
  blk : ∃ cs : Array Value, Blk W gT 36 cs ∧ cs.size = m * 6 ∧ ∀ (q : Nat) (u : Value), (done.flatMap AnsV.cells)[q]? = some u → cs[q]? = some u
  ok : ∀ a ∈ done, OwnB W base a.av a.cd.data
theorem ToldSt.via {s : List PairD} {xs : List OpV} {m gT base k : Nat} {done : List AnsV} {W W' : World} (h : ToldSt s xs m gT base k done W) (hb : Below W.heap.size W W') : ToldSt s xs m gT base k done W' := by
  obtain ⟨cs, h1, h2, h3⟩ := h.blk
  exact ⟨h.len, h.val, ⟨cs, Blk.via hb h1, h2, h3⟩, fun a ha => (h.ok a ha).via hb⟩
theorem ToldSt.grown {s : List PairD} {xs : List OpV} {m gT base k n : Nat} {done : List AnsV} {W W' : World} {v : Value} {zs : List Value} (h : ToldSt s xs m gT base k done W) (hg : W.grownBy W' v.ownBlock) (hown : W.ownsRow base 55 6 v n zs) : ToldSt s xs m gT base k done W' := by
  obtain ⟨cs, h1, h2, h3⟩ := h.blk
  exact ⟨h.len, h.val, ⟨cs, h1.grown hg (own_ne hown h1 (by decide)), h2, h3⟩, fun a ha => (h.ok a ha).grown hg hown⟩
theorem told_snoc {s : List PairD} {xs : List OpV} {k : Nat} {done : List AnsV} {a : AnsV} {x : OpV} (hl : done.length = k) (hv : ∀ i a x, done[i]? = some a → xs[i]? = some x → (a.er, a.cd) = toldD s (ops_of (xs.take i)) x.d) (hx : xs[k]? = some x) (ha : (a.er, a.cd) = toldD s (ops_of (xs.take k)) x.d) :
    ∀ (i : Nat) b y, (done ++ [a])[i]? = some b → xs[i]? = some y → (b.er, b.cd) = toldD s (ops_of (xs.take i)) y.d := by
  intro i b y hi hy
  by_cases hik : i < k
  · rw [List.getElem?_append_left (by rw [hl]; exact hik)] at hi
    exact hv i b y hi hy
  · have hil := (List.getElem?_eq_some_iff.1 hi).1
    rw [List.length_append, List.length_singleton, hl] at hil
    have hie : i = k := by omega
    rw [hie] at hi hy ⊢
    rw [List.getElem?_append_right (by rw [hl]; omega), hl, Nat.sub_self] at hi
    have hab : a = b := by simpa using hi
    have hxy : x = y := by rw [hx] at hy; exact Option.some.inj hy
    rw [← hab, ← hxy]
    exact ha
theorem ToldSt.step {s : List PairD} {xs : List OpV} {m gT base k : Nat} {done : List AnsV} {W : World} {a : AnsV} {x : OpV} (h : ToldSt s xs m gT base k done W) (hk : k < m) (hx : xs[k]? = some x) (ha : (a.er, a.cd) = toldD s (ops_of (xs.take k)) x.d) (ho : OwnB W base a.av a.cd.data) :
    ToldSt s xs m gT base (k + 1) (done ++ [a]) (putL W gT (k * 6) a.cells) ∧ Touch gT (gT + 1) W (putL W gT (k * 6) a.cells) := by
  obtain ⟨cs, hb, hcs, hcl⟩ := h.blk
  have hlt : k * 6 + 6 ≤ cs.size := by rw [hcs]; have := Nat.mul_le_mul_right 6 (show k + 1 ≤ m from hk); omega
  have k2 := putL_blk a.cells (k * 6) hb
  obtain ⟨hs2, hq2, hj2⟩ := setL_spec a.cells cs (k * 6) (by rw [AnsV.cells_length]; exact hlt)
  have htch := putL_touch gT a.cells W W (k * 6) (Touch.refl _)
  refine ⟨⟨by simp [h.len], fun i b y hi hy => ?_, ⟨_, k2, by omega, fun q u hu => ?_⟩, fun z hz => ?_⟩, htch⟩
  · exact told_snoc h.len h.val hx ha i b y hi hy
  · rw [List.flatMap_append] at hu
    have hfl : (done.flatMap AnsV.cells).length = k * 6 := by rw [flat_length _ 6 AnsV.cells_length, h.len]
    by_cases hqi : q < k * 6
    · rw [List.getElem?_append_left (by omega)] at hu
      rw [hq2 q (.inl hqi)]
      exact hcl q u hu
    · rw [List.getElem?_append_right (by omega), hfl] at hu
      have := hj2 (q - k * 6) u (by simpa using hu)
      rwa [show k * 6 + (q - k * 6) = q by omega] at this
  · rcases List.mem_append.1 hz with hz | hz
    · exact (h.ok z hz).apart htch hb (by decide)
    · rw [List.mem_singleton] at hz
      rw [hz]
      exact ho.apart htch hb (by decide)

def ansZ : Array Value := #[.int .i64 0, .int .i64 0, .slice none 0 0, .int .i64 0, .int .i64 0, .int .i64 0]
theorem info_ans : (Tryz.prog.info? 36).map (fun i => (i.zero, i.size, i.bytes)) = some (some (.agg ansZ), 6, 64) := by kernel_rfl
def RunPost (w : World) (s : List PairD) (xs : List OpV) (m : Nat) (e : Ending) (w' : World) : Prop :=
  ∃ v ys g done, e = .returned (.tuple #[v, .slice (some ⟨g, 0, none⟩) m m]) ∧ StS w' w.heap.size v ys ∧ ys.map PairV.d = runD s (ops_of xs) ∧ ToldSt s xs m g w.heap.size m done w' ∧ Below w.heap.size w w'
theorem ops_snoc {xs : List OpV} {k : Nat} {x : OpV} (h : xs[k]? = some x) : ops_of (xs.take (k + 1)) = ops_of (xs.take k) ++ [x.d] := by
  obtain ⟨hk, e⟩ := List.getElem?_eq_some_iff.1 h
  unfold ops_of
  rw [List.take_succ_eq_append_getElem hk, List.map_append, e]
  rfl
/-- Behind the store of an answer. -/
theorem genTold {s : List PairD} {xs : List OpV} {m gT base k : Nat} {done : List AnsV} {W : World} {a : AnsV} {x : OpV} {R : World → Prop} (h : ToldSt s xs m gT base k done W) (hk : k < m) (hx : xs[k]? = some x) (ha : (a.er, a.cd) = toldD s (ops_of (xs.take k)) x.d) (ho : OwnB W base a.av a.cd.data) (hR : ∀ W', ToldSt s xs m gT base (k + 1) (done ++ [a]) W' → Touch gT (gT + 1) W W' → R W') : R (putL W gT (k * 6) a.cells) :=
  hR _ (h.step hk hx ha ho).1 (h.step hk hx ha ho).2

set_option maxHeartbeats 3200000 in
set_option maxRecDepth 100000 in
theorem run_any (A : Option Addr) (n c : Nat) (xs : List PairV) (L : Option Addr) (m lc : Nat) (os : List OpV) (B : Nat) (w : World) (hB : B ≤ w.heap.size) (hn : n ≤ 1000) (hm : m ≤ 1000) (h : Pairs w B A n xs) (hl : ∀ x ∈ xs, x.d.cell.data.length ≤ 1000000) (hO : Opers w B L m os) (hR : RightS (xs.map PairV.d)) (hW : WfS (xs.map PairV.d)) (hX : ∀ o ∈ os, OpWf o.d ∧ o.d.data.length ≤ 1000000) :
    Calls Tryz.prog 55 #[.slice A n c, .slice L m lc] w (RunPost w (xs.map PairV.d) os m) := by
  have HL := hide hO.1
  have HX := hide h.1
  have HR := hide hR
  have HW := hide hW
  have HXX := hide hX
  have HCS := hide (copyState_any A n c xs B w hB (by omega) h hl)
  obtain ⟨i0, hi, hz0, hz1, hz2⟩ := info_parts info_ans
  have hmk := fun W => run_make_rowN (P := Tryz.prog) 90 36 i0 (.agg ansZ) Tryz.underlying90 hi hz0 .i64 .i64 m m (Nat.le_refl _) (by rw [hz2]; omega) (by omega) W
  rw [hz1] at hmk
  clear hi hz0 hz1 hz2 hl hR hW hX
  go_enter Tryz.func55, Tryz.ntmps55
  go_wp2_with fail
  (with_reducible refine HCS.out.mono ?_)
  rintro e w1 ⟨v0, ys0, rfl, st0, hyd0, hb1⟩
  have HYD0 := hide hyd0
  clear hyd0 HCS
  go_wp2
  go_loopw [6, 17] (fun v i wr => ∃ (k : Nat) (ys : List PairV) (done : List AnsV), k ≤ m ∧ i = .int .i64 k ∧ StS wr w.heap.size v ys ∧ ys.map PairV.d = runD (xs.map PairV.d) (ops_of (os.take k)) ∧ ToldSt (xs.map PairV.d) os m w1.heap.size w.heap.size k done wr ∧ Below w.heap.size w wr) (fun _ i _ => m - (intOf i).toNat)
  case atStart =>
    have hba : Below w1.heap.size w1 (w1.alloc (.cells (madeCells (Value.cells (.agg ansZ)) (m * 6)) 36)) := (Below.refl _ _).alloc (Nat.le_refl _) _
    exact ⟨0, ys0, [], Nat.zero_le _, rfl, st0.via hba, HYD0.out, ⟨rfl, (fun i a x hi => by simp at hi), ⟨_, Blk.new _ _ _, size_madeCells _ _, (fun q u hu => by simp at hu)⟩, (fun a ha => by cases ha)⟩, below_via hb1 hba hb1.size⟩
  case round =>
    obtain ⟨k, ys, done, hk, rfl, hst, hyd, htl, hbw⟩ := hrel
    have HYD := hide hyd
    have HTL := hide htl
    have HST := hide hst
    have hwz := hbw.size
    have hyl : ys.length ≤ 2000 := by
      have h1 := runD_length (ops_of (os.take k)) (xs.map PairV.d)
      have h2 := congrArg List.length hyd
      have h3 : (ops_of (os.take k)).length ≤ m := by unfold ops_of; simp; omega
      have h4 := HX.out
      simp at h1 h2
      omega
    clear hyd htl hst
    by_cases hlt : k < m
    · have hOw := hO.below hbw hB
      obtain ⟨b, o, x, rfl, hb, hkx, hok, hc⟩ := hOw.at_ hlt
      have d0 : wr.cell? ⟨b, o + k * 6, none⟩ = some (.int .i64 x.d.act) := hc 0 _ rfl
      have d1 := hc 1 _ rfl
      have d2 := hc 2 _ rfl
      have d3 := hc 3 _ rfl
      have d4 := hc 4 _ rfl
      have d5 := hc 5 _ rfl
      have hxx := HXX.out x (List.mem_of_getElem? hkx)
      have hrs : RightS (ys.map PairV.d) := HYD.out ▸ HR.out.run _
      have hws : WfS (ys.map PairV.d) := HYD.out ▸ HW.out.run (fun z hz => by
        unfold ops_of at hz
        obtain ⟨q, hq, rfl⟩ := List.mem_map.1 hz
        exact (HXX.out q (List.mem_of_mem_take hq)).1)
      have HKX := hide hkx
      clear hkx hc hOw
      obtain ⟨od, dv⟩ := x
      obtain ⟨A2, n2, c2, rfl, hok'⟩ := hok
      have hdv : BytesAt wr B (.slice A2 n2 c2) od.data := ⟨A2, n2, c2, rfl, hok'⟩
      clear hok'
      dsimp only at *
      have s4 : (k : Int) < m := by omega
      have s5 : (0 : Int) ≤ k := by omega
      have HSP := hide (fun (W : World) (hbW : Below wr.heap.size wr W) => pStep_any od A2 n2 c2 _ ys w.heap.size B W (Nat.le_trans hB (Nat.le_trans hwz hbW.size)) (Nat.le_trans hwz hbW.size) (by omega) (HST.out.via hbW) (hdv.below hbW (Nat.le_trans hB hwz)) hrs hws hxx.1 hxx.2)
      clear hdv hrs hws hxx
      go_upto_region 6 with fail
      refine gen1 (fun W k0 hbW hz => ?_)
      have q0 := k0.cell
      clear d0 d1 d2 d3 d4 d5
      go_wp2_with fail
      (with_reducible refine (HSP.out W hbW).mono ?_)
      rintro e w2 ⟨v', ys', A3, n3, c3, rfl, st2, hyd2, ho2, hg2, hv2⟩
      clear q0
      have htd : toldD (xs.map PairV.d) (ops_of (os.take k)) od = (stepD (ys.map PairV.d) od).2 := by unfold toldD; rw [← HYD.out]
      have hrd : runD (xs.map PairV.d) (ops_of (os.take (k + 1))) = (stepD (ys.map PairV.d) od).1 := by rw [ops_snoc HKX.out, runD_snoc, ← HYD.out]
      generalize stepD (ys.map PairV.d) od = sd at *
      obtain ⟨s', er, cd⟩ := sd
      dsimp only at *
      have HY2 := hide (hyd2.trans hrd.symm)
      have HTD := hide htd
      clear hyd2 hrd htd HSP
      unfold ansC
      have stW := HST.out.via hbW
      have hbw2 : Below w.heap.size w w2 := (below_via hbw hbW hwz).grown hg2 (Nat.le_trans hwz hbW.size) (fun q hq => (stW.own.lt q hq).1)
      have htl2 := (HTL.out.via hbW).grown hg2 stW.own
      obtain ⟨cs, hkk, hcs, _⟩ := htl2.blk
      have r2 : ∀ j, j < 6 → ∃ u, w2.cell? ⟨w1.heap.size, k * 6 + j, none⟩ = some u := fun j hj => ⟨_, by rw [hkk.cell, Array.getElem?_eq_getElem (by omega)]⟩
      obtain ⟨u0, hu0⟩ := r2 0 (by omega)
      obtain ⟨u1, hu1⟩ := r2 1 (by omega)
      obtain ⟨u2, hu2⟩ := r2 2 (by omega)
      obtain ⟨u3, hu3⟩ := r2 3 (by omega)
      obtain ⟨u4, hu4⟩ := r2 4 (by omega)
      obtain ⟨u5, hu5⟩ := r2 5 (by omega)
      rw [Nat.add_zero] at hu0
      have r3 := hkk.frozen
      clear r2 hcs
      go_upto_region 7 with fail
      refine genTold (a := ⟨er, cd, .slice A3 n3 c3⟩) (x := ⟨od, .slice A2 n2 c2⟩) htl2 hlt HKX.out HTD.out.symm ho2 (fun w3 htl3 ht3 => ?_)
      have st3 := st2.apart ht3 hkk (by decide) (by decide)
      have hgT : w.heap.size ≤ w1.heap.size := hb1.size
      have hbw3 := ht3.below hbw2 hgT
      clear hu0 hu1 hu2 hu3 hu4 hu5 r3
      go_wp2
      go_roundw
      case rel => exact ⟨k + 1, ys', _, by omega, by go_num, st3, HY2.out, htl3, hbw3⟩
      case measure => simp [intOf]; omega
    · obtain rfl : k = m := by omega
      go_wp2
      go_ret2
      refine ⟨_, ys, _, done, rfl, HST.out, ?_, HTL.out, hbw⟩
      have := HYD.out
      rwa [List.take_of_length_le (by have := HL.out; omega)] at this
end Go.Proofs.YteidmdnhkgcnoaaGreat
