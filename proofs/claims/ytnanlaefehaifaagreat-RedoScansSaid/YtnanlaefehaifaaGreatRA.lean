/-
  WALKS OF THE PROGRAM: be.wide, be.with, be.parts, be.Put.
-/
import Derived.Test.YtnanlaefehaifaaGreatProg
import Derived.Test.YtnanlaefehaifaaGreatRO
import Derived.Test.YtnanlaefehaifaaGreatApp
import Derived.Test.YtnanlaefehaifaaGreatNC
import Derived.Test.YtnanlaefehaifaaGreatIns
import Derived.RangeFuncNested
import Derived.RangeFuncBound
import Derived.RangeFuncCalls
import Derived.RangeFuncLeaves
import Derived.Shelf.Abstract
import Derived.Shelf.RegionOpen
import Derived.WalkKit
import Derived.OwnWalkIn
import Derived.TacticsInMore
import Derived.LoopNIn
import Derived.LoopIn
import Derived.Deep.Cut
import Derived.Deep.DeepCutAuto
namespace Go.Proofs.YtnanlaefehaifaaGreat
open Go.RowKit Go.Shelf


/-- A goal at which the walk stops. -/
def HeldG (p : Prop) : Prop := p
theorem heldG {p : Prop} (h : HeldG p) : p := h
theorem unheldG {p : Prop} (h : p) : HeldG p := h
theorem info_u8R : (Tryz.prog.info? 5).map (fun i => (i.zero, i.size, i.bytes)) = some (some (.int .u8 0), 1, 1) := by kernel_rfl
theorem bytes_one (bs : List UInt8) : ∀ u ∈ bs.map byteV, u.oneCell' = true := by
  intro u hu
  obtain ⟨b, _, rfl⟩ := List.mem_map.1 hu
  rfl
theorem wide_any (n : Int) (b : Bool) (hb : decide (1 ≤ n ∧ n ≤ 8) = b) (w : World) : Calls Tryz.prog 175 #[.int .i64 n] w fun e w' => e = .returned (.bool b) ∧ w' = w := by
  by_cases h1 : 1 ≤ n
  · by_cases h2 : n ≤ 8
    · obtain rfl : b = true := by rw [← hb]; simp [h1, h2]
      clear hb
      go_enter Tryz.func175, Tryz.ntmps175
      go_wp2
      go_ret
      exact ⟨rfl, rfl⟩
    · obtain rfl : b = false := by rw [← hb]; simp [h2]
      clear hb
      go_enter Tryz.func175, Tryz.ntmps175
      go_wp2
      go_ret
      exact ⟨rfl, rfl⟩
  · obtain rfl : b = false := by rw [← hb]; simp [h1]
    clear hb
    go_enter Tryz.func175, Tryz.ntmps175
    go_wp2
    go_ret
    exact ⟨rfl, rfl⟩
/-- A row of bytes of the call's own, with so much room. -/
def OwnC (w : World) (base : Nat) (bs : List UInt8) (n c : Nat) (e : Ending) (w' : World) : Prop := ∃ g, e = .returned (.slice (some ⟨g, 0, none⟩) n c) ∧ OwnB w' base (.slice (some ⟨g, 0, none⟩) n c) bs ∧ Below w.heap.size w w'
theorem made_u8 (n : Nat) : madeCells #[Value.int .u8 0] n = (List.replicate n (Value.int .u8 0)).toArray := by
  refine Array.ext (by simp [size_madeCells]) (fun i h1 h2 => ?_)
  simp at h2
  simp [madeCells, Nat.mod_one]
theorem size_u8 : (Tryz.prog.info? 5).map (·.size) = some 1 := by kernel_rfl
/-- copy out of a nil slice. -/
theorem wpList_copy_nil {P : Program} {ops : Array Oper} {rest : List Oper} {o : Oper} {a : Act} {w : World} {Q : Exit → Act → World → Prop} (hgd : o.guard = none) (d s : Operand) (dT sT : TypeId)
    (ho : o.op = .call { callee := .builtin .copy, args := #[d, s], argTypes := #[dT, sT] }) (elem : TypeId) (hu : P.underlying dT = some (.slice elem)) (hs : (P.info? elem).isSome = true)
    (ad : Addr) (dLen dCap sCap : Nat) (hd : a.eval d = .slice (some ad) dLen dCap) (hx : a.eval s = .slice none 0 sCap)
    (h : ∀ v', wpList P ops Q rest (a.put o.dst v') w) : wpList P ops Q (o :: rest) a w :=
  wpList_plain hgd fun K hK => by
    obtain ⟨i, hi⟩ := Option.isSome_iff_exists.1 hs
    have hrun : ∃ v', (Builtin.copy_ #[dT, sT] o.type #[.slice (some ad) dLen dCap, .slice none 0 sCap]).run P w = .ok v' w := by
      refine ⟨.int .i64 0, ?_⟩
      simp [Builtin.copy_, run_underlying hu, Builtin.lenOf, Builtin.firstCells, sizeOf, typeInfo, hi, storeCells, goInt]
    obtain ⟨v', hrun⟩ := hrun
    unfold Oper.wp execOp
    simp only [ho, resolve, invoke, builtin, Sem.run_bind, Sem.run_pure, Result.andThen_ok, List.map_toArray, List.map_cons, List.map_nil, hd, hx, hrun]
    exact hK _ _ (h v')
theorem ownB_new {w : World} {g n c : Nat} {base : Nat} {bs : List UInt8} {cur : List Value} (k : Blk w g 5 cur.toArray) (hb : base ≤ g) (hn : n = bs.length) (hc : n ≤ c) (hm : c ≤ maxLen) (hl : cur.length = c) (ht : cur.take n = bs.map byteV) : OwnB w base (.slice (some ⟨g, 0, none⟩) n c) bs := by
  subst hn
  exact ⟨by simp, .inr ⟨g, c, _, rfl, hb, k, hc, hm, by simp [hl], by simpa using ht⟩⟩
set_option maxHeartbeats 1600000 in
set_option maxRecDepth 100000 in
theorem with_nil (c m : Nat) (w : World) (hm : m ≤ 100000000) : Calls Tryz.prog 176 #[.slice none 0 c, .int .i64 (m : Nat)] w (OwnC w w.heap.size [] 0 m) := by
  obtain ⟨i0, hi, hz0, hz1, hz2⟩ := info_parts info_u8R
  have hmk0 := fun W => run_make_rowN (P := Tryz.prog) 33 5 i0 (.int .u8 0) Tryz.underlying33 hi hz0 .i64 .i64 0 m (Nat.zero_le _) (by rw [hz2]; omega) (by omega) W
  rw [hz1, Nat.mul_one] at hmk0
  have hX := made_u8 m
  obtain ⟨X, hX2⟩ : ∃ X, X = madeCells (Value.int .u8 0).cells m := ⟨_, rfl⟩
  rw [← hX2] at hmk0
  have hmk : ∀ W : World, (Instr.makeSlice 33 (.int .i64 0) (.int .i64 (m : Int))).run Tryz.prog W = .ok (.slice (some ⟨W.heap.size, 0, none⟩) 0 m) (W.alloc (.cells X 5)) := hmk0
  have HX := hide (show X = (List.replicate m (Value.int .u8 0)).toArray from hX2.trans hX)
  clear hX hX2 hmk0 hi hz0 hz1 hz2
  go_enter Tryz.func176, Tryz.ntmps176
  go_wp2_with (refine wpList_copy_nil rfl (.tmp 13) (.tmp 14) 33 33 rfl 5 Tryz.underlying33 (by kernel_rfl) ⟨w.heap.size, 0, none⟩ 0 m c rfl rfl ?_; intro v')
  go_ret
  refine ⟨w.heap.size, rfl, ?_, (Below.refl _ _).alloc (Nat.le_refl _) _⟩
  rw [HX.out]
  exact ownB_new (Blk.new _ _ _) (Nat.le_refl _) rfl (Nat.zero_le _) (by unfold maxLen; omega) (by simp) (by simp)
set_option maxHeartbeats 1600000 in
set_option maxRecDepth 100000 in
theorem with_any (ad : Addr) (n c m : Nat) (bs : List UInt8) (B : Nat) (w : World) (hB : B ≤ w.heap.size) (hn : n ≤ 100000000) (hm : m ≤ 100000000) (hnl : n = bs.length) (hr : Reads w B 1 (some ad) n (bs.map byteV)) :
    Calls Tryz.prog 176 #[.slice (some ad) n c, .int .i64 (m : Nat)] w (OwnC w w.heap.size bs n (n + m)) := by
  obtain ⟨i0, hi, hz0, hz1, hz2⟩ := info_parts info_u8R
  have hmk0 := fun W => run_make_rowN (P := Tryz.prog) 33 5 i0 (.int .u8 0) Tryz.underlying33 hi hz0 .i64 .i64 n (n + m) (Nat.le_add_right _ _) (by rw [hz2]; omega) (by omega) W
  rw [hz1, Nat.mul_one] at hmk0
  have hX := made_u8 (n + m)
  obtain ⟨X, hX2⟩ : ∃ X, X = madeCells (Value.int .u8 0).cells (n + m) := ⟨_, rfl⟩
  rw [← hX2] at hmk0
  have hmk : ∀ W : World, (Instr.makeSlice 33 (.int .i64 (n : Int)) (.int .i64 ((n : Int) + (m : Int)))).run Tryz.prog W = .ok (.slice (some ⟨W.heap.size, 0, none⟩) n (n + m)) (W.alloc (.cells X 5)) := hmk0
  have HX := hide (show X = (List.replicate (n + m) (Value.int .u8 0)).toArray from hX2.trans hX)
  have HNL := hide hnl
  have hr2 : ∀ j u, (bs.map byteV)[j]? = some u → (w.alloc (.cells X 5)).cell? (ad.add j) = some u := by
    intro j u hu
    have hj := (List.getElem?_eq_some_iff.1 hu).1
    obtain ⟨ad', h1, h2, h3⟩ := hr.2 (by simp at hj; omega)
    injection h1 with h1
    subst h1
    exact (World.cell?_alloc_lt w _ (ad.add j) (by rw [block_of_add]; omega)).trans (h3 j u hu)
  have HR := hide hr2
  have kX : Blk (w.alloc (.cells X 5)) w.heap.size 5 (List.replicate (n + m) (Value.int .u8 0)).toArray := by rw [HX.out]; exact Blk.new _ _ _
  have HK := hide kX
  clear hX hX2 hmk0 hi hz0 hz1 hz2 hnl hr hr2 kX
  go_enter Tryz.func176, Tryz.ntmps176
  go_wp2_with (refine wpList_copy_blk rfl (.tmp 13) (.tmp 14) 33 33 rfl 5 1 Tryz.underlying33 size_u8 w.heap.size 0 5 (List.replicate (n + m) (Value.int .u8 0)) (bs.map byteV) n (n + m) n c ad rfl rfl HK.out (by have := HNL.out; simp; omega) HR.out (by have := HNL.out; simp; omega) (bytes_one bs) ?_; intro v' w2 hk2 ht2)
  have HK2 := hide hk2
  clear hk2
  go_ret
  refine ⟨w.heap.size, rfl, ?_, ht2.below ((Below.refl _ _).alloc (Nat.le_refl _) _) (Nat.le_refl _)⟩
  refine ownB_new HK2.out (Nat.le_refl _) HNL.out (Nat.le_add_right _ _) (by unfold maxLen; omega) (by rw [spl_length (by have := HNL.out; simp; omega)]; simp) ?_
  unfold spl
  rw [List.take_zero, List.nil_append, List.take_append_of_le_length (by have := HNL.out; simp; omega), List.take_of_length_le (by have := HNL.out; simp; omega)]
end Go.Proofs.YtnanlaefehaifaaGreat
