/-
  WALKS OF THE PROGRAM: dev.Dev.Append.
-/
import Derived.Test.YtnanlaefehaifaaGreatRW
namespace Go.Proofs.YtnanlaefehaifaaGreat
open Go.RowKit

/-- w' is w but for the blocks S and new ones. -/
structure Turn (S : Nat → Prop) (w w' : World) : Prop where
  os : w'.os = w.os
  tape : w'.tape = w.tape
  output : w'.output = w.output
  size : w.heap.size ≤ w'.heap.size
  block : ∀ k, k < w.heap.size → ¬ S k → w'.heap[k]? = w.heap[k]?
theorem Turn.of_below {S : Nat → Prop} {w w' : World} (h : Below w.heap.size w w') : Turn S w w' := ⟨h.os, h.tape, h.output, h.size, fun k hk _ => h.block k hk⟩
theorem Turn.of_grown {S : Nat → Prop} {w w' : World} {r : Option Nat} (h : w.grownBy w' r) (hS : ∀ k, some k = r → S k) : Turn S w w' := ⟨h.os, h.tape, h.output, h.size, fun k hk hn => h.block k hk (fun e => hn (hS k e))⟩
theorem Turn.trans {S : Nat → Prop} {a b c : World} (h : Turn S a b) (k : Turn S b c) : Turn S a c := ⟨k.os.trans h.os, k.tape.trans h.tape, k.output.trans h.output, Nat.le_trans h.size k.size, fun i hi hn => (k.block i (Nat.lt_of_lt_of_le hi h.size) hn).trans (h.block i hi hn)⟩
theorem Turn.mono {S S' : Nat → Prop} {w w' : World} (h : Turn S w w') (hS : ∀ k, k < w.heap.size → S k → S' k) : Turn S' w w' := ⟨h.os, h.tape, h.output, h.size, fun k hk hn => h.block k hk (fun hs => hn (hS k hk hs))⟩
theorem Turn.set {S : Nat → Prop} {a w : World} (h : Turn S a w) {p : Addr} (hp : S p.block ∨ a.heap.size ≤ p.block) (u : Value) : Turn S a (w.setCell p u) :=
  ⟨h.os, h.tape, h.output, by simpa [World.setCell] using h.size, fun k hk hn => (Below.heap_setCell w p u k (fun e => by
    rcases hp with hp | hp
    · exact hn (e ▸ hp)
    · omega)).trans (h.block k hk hn)⟩
theorem zeros_job : Tryz.zeroCells129.size = 515 := by kernel_rfl
theorem info_job : (Tryz.prog.info? 129).map (·.size) = some 515 := by kernel_rfl
theorem zero_job_one : Tryz.zeroCells129.all (·.oneCell') = true := by kernel_rfl
theorem all_set {cs : Array Value} (h : cs.all (·.oneCell') = true) (i : Nat) {u : Value} (hu : u.oneCell' = true) : (cs.setIfInBounds i u).all (·.oneCell') = true := by
  rw [Array.all_eq_true_iff_forall_mem] at h ⊢
  intro v hv
  rcases Array.mem_or_eq_of_mem_setIfInBounds hv with hv | rfl
  · exact h v hv
  · exact hu
/-- What an operation on the log leaves. -/
def LogP (w : World) (d L : Nat) (sv mv lv : Value) (bs' : List UInt8) (stale head sure fuse : Int) (e : Ending) (w' : World) : Prop :=
  e = .returned (.int .i64 0) ∧ ∃ lv' o', Blk w' d 107 (devC sv mv lv' stale head sure fuse o') ∧ OwnB w' L lv' bs' ∧ Turn (fun k => k = d ∨ some k = lv.ownBlock) w w' ∧ (lv'.ownBlock = lv.ownBlock ∨ ∃ g, lv'.ownBlock = some g ∧ w.heap.size ≤ g)
set_option maxHeartbeats 6400000 in
set_option maxRecDepth 100000 in
theorem devAppend_any (d L : Nat) (B : Nat) (A2 : Option Addr) (n2 c2 : Nat) (bs2 : List UInt8) (sv mv lv : Value) (bs : List UInt8) (stale head sure fuse o : Int) (w : World) (hL : L ≤ w.heap.size) (hB : B ≤ w.heap.size) (hm : bs.length ≤ 100000000) (hm2 : n2 ≤ 1000000) (k : Blk w d 107 (devC sv mv lv stale head sure fuse o))
    (ho : OwnB w L lv bs) (hn : n2 = bs2.length) (hr : Reads w B 1 A2 n2 (bs2.map byteV)) :
    Calls Tryz.prog 49 #[.pointer (some ⟨d, 0, none⟩), .slice A2 n2 c2] w (LogP w d L sv mv lv (bs ++ bs2) stale head sure fuse) := by
  have hmf : ∀ (fn : Fn) (first cap : Array Value) (w : World), (Instr.makeFunc fn first cap).run Tryz.prog w = .ok (.func fn first cap) w := fun _ _ _ _ => rfl
  have HK := hide k
  have HO := hide ho
  have HN := hide hn
  have HR := hide hr
  clear k ho hn hr
  obtain ⟨X, hX⟩ : ∃ X, X = (Tryz.zeroCells129.setIfInBounds 0 (.pointer (some ⟨d, 0, none⟩))).setIfInBounds 514 (.slice A2 n2 c2) := ⟨_, rfl⟩
  have HX := hide hX
  have hJ : JobC X d 0 (.slice A2 n2 c2) := by
    rw [hX]
    refine ⟨?_, ?_, ?_⟩
    · rw [Array.getElem?_setIfInBounds, if_neg (by decide), Array.getElem?_setIfInBounds, if_pos rfl, if_pos (by rw [zeros_job]; decide)]
    · rw [Array.getElem?_setIfInBounds, if_neg (by decide), Array.getElem?_setIfInBounds, if_neg (by decide)]
      kernel_rfl
    · rw [Array.getElem?_setIfInBounds, if_pos rfl, if_pos (by rw [Array.size_setIfInBounds, zeros_job]; decide)]
  have hsz : X.size = 515 := by rw [hX, Array.size_setIfInBounds, Array.size_setIfInBounds, zeros_job]
  have h1c : X.all (·.oneCell') = true := by
    rw [hX]
    exact all_set (all_set zero_job_one 0 rfl) 514 rfl
  have HII := hide (show (Tryz.prog.info? 129).map (·.size) = some X.size by rw [hsz]; exact info_job)
  have HZ := hide (show Tryz.zeroCells129.size = X.size by rw [hsz]; exact zeros_job)
  have H1 := hide h1c
  have HJ := hide hJ
  clear hX hJ hsz h1c
  go_enter Tryz.func49, Tryz.ntmps49
  go_wp2_with (refine wpList_store_row rfl 129 (.tmp 5) (.tmp 10) rfl w.heap.size X rfl (by rw [HX.out]; rfl) 129 _ (Blk.new w _ _) HII.out HZ.out H1.out ?_)
  refine nameW (w := World.setRow _ w.heap.size X) (R := fun W => Calls Tryz.prog _ _ W _) (fun W2 hW2 => ?_)
  have kj2 : Blk W2 w.heap.size 129 X := by
    rw [hW2]
    exact setRow_heap _ w.heap.size _ _ _ _ (Blk.new w _ _)
  have hb2 : Below w.heap.size w W2 := by
    rw [hW2]
    exact (touch_setRow _ w.heap.size X).below ((Below.refl w.heap.size w).alloc (Nat.le_refl _) _) (Nat.le_refl _)
  have hz2 := hb2.size
  have kd2 := Blk.via hb2 HK.out
  have ho2 := HO.out.via hb2
  have hr2 := HR.out.below hb2 hB
  have hdl := HK.out.lt
  clear hW2
  have hb3 : Below W2.heap.size W2 (W2.alloc (.cells #[.pointer (some ⟨d, 0, none⟩)] 28)) := (Below.refl _ _).alloc (Nat.le_refl _) _
  have kd3 := Blk.via hb3 kd2
  have ho3 := ho2.via hb3
  have kb3 := Blk.new W2 28 #[.pointer (some ⟨d, 0, none⟩)]
  have hact := jobAdd_any w.heap.size d L 0 B A2 n2 c2 bs2 sv mv lv bs stale head sure fuse o (W2.alloc (.cells #[.pointer (some ⟨d, 0, none⟩)] 28)) (by simp; omega) hm hm2 kd3 X (Blk.via hb3 kj2) HJ.out ho3 HN.out (hr2.below hb3 (by omega))
  have hR : DoR W2.heap.size d (fun W => ∃ lv' W', OwnB W' L lv' (bs ++ bs2) ∧ (W2.alloc (.cells #[.pointer (some ⟨d, 0, none⟩)] 28)).grownBy W' lv.ownBlock ∧ (lv'.ownBlock = lv.ownBlock ∨ lv'.ownBlock = some (W2.alloc (.cells #[.pointer (some ⟨d, 0, none⟩)] 28)).heap.size) ∧ W = W'.setCell ⟨d, 2, none⟩ lv') := by
    rintro W ⟨lv', W', g1, g2, g3, rfl⟩
    have q1 := kb3.keepB ho3 (by decide) g2
    have q2 := kd3.keepB ho3 (by decide) g2
    exact ⟨q1.far (p := ⟨d, 2, none⟩) (by show W2.heap.size ≠ d; omega) _, _, o, q2.set_ 2 lv', rfl, rfl⟩
  have HD := hide (do_any d 119 (.pointer (some ⟨w.heap.size, 0, none⟩)) _ _ W2 kd2 rfl rfl hR (fun W => by simp [go_sem]) hact)
  have HF := hide (show ∀ w', (∃ W o', (∃ lv' W', OwnB W' L lv' (bs ++ bs2) ∧ (W2.alloc (.cells #[.pointer (some ⟨d, 0, none⟩)] 28)).grownBy W' lv.ownBlock ∧ (lv'.ownBlock = lv.ownBlock ∨ lv'.ownBlock = some (W2.alloc (.cells #[.pointer (some ⟨d, 0, none⟩)] 28)).heap.size) ∧ W = W'.setCell ⟨d, 2, none⟩ lv') ∧ w' = W.setCell ⟨d, 9, none⟩ (.int .i64 o')) → LogP w d L sv mv lv (bs ++ bs2) stale head sure fuse (.returned (.int .i64 0)) w' from by
    rintro w' ⟨W, o', ⟨lv', W', g1, g2, g3, rfl⟩, rfl⟩
    have q2 := (kd3.keepB ho3 (by decide) g2).set_ 2 lv'
    have hT : Turn (fun k => k = d ∨ some k = lv.ownBlock) w W' := (Turn.of_below hb2).trans ((Turn.of_below hb3).trans (Turn.of_grown g2 (fun k hk => .inr hk)))
    refine ⟨rfl, lv', o', q2.set_ 9 _, (g1.far (kd3.keepB ho3 (by decide) g2) (by decide) lv').far q2 (by decide) _, (hT.set (p := ⟨d, 2, none⟩) (.inl (.inl rfl)) _).set (p := ⟨d, 9, none⟩) (.inl (.inl rfl)) _, g3.imp id (fun h => ⟨_, h, by simp; omega⟩)⟩)
  clear hact hR kb3 ho3 kd3 hb3 kd2 ho2 hr2 kj2 hb2
  refine HD.out.mono ?_
  rintro e w' ⟨rfl, hw'⟩
  have HL := hide (HF.out w' hw')
  clear hw'
  go_wp2
  go_ret
  exact HL.out
end Go.Proofs.YtnanlaefehaifaaGreat
