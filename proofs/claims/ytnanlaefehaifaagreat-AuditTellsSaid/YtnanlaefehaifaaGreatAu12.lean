/-
  Texts of this claim, joined: LJ, LK, LL, LM, LO, LP, LQ.
-/
import Derived.Test.YtnanlaefehaifaaGreatAu11
set_option maxHeartbeats 6400000
set_option maxRecDepth 100000
namespace Go.Proofs.YtnanlaefehaifaaGreat
open Go.RowKit Go.Maps
def pgOf (safe : List (List UInt8)) (wr : Nat → List (List UInt8)) (no : Nat) : List UInt8 := if (wr no).length = 0 then safe.getD no [] else (wr no).getD ((wr no).length - 1) []
theorem flat_pages {l : List (List UInt8)} (h : ∀ p ∈ l, p.length = 512) {i : Nat} {p : List UInt8} (hi : l[i]? = some p) : ∀ (j : Nat) u, (p.map byteV)[j]? = some u → (l.flatMap (fun p => p.map byteV))[i * 512 + j]? = some u := by
  induction l generalizing i with
  | nil => simp at hi
  | cons q t ih =>
    intro j u hu
    have hq : (q.map byteV).length = 512 := by rw [List.length_map]; exact h q List.mem_cons_self
    have hj : j < 512 := by
      have := (List.getElem?_eq_some_iff.1 hu).1
      rw [List.length_map] at this
      have h2 := h p (List.mem_of_getElem? hi)
      omega
    rw [List.flatMap_cons]
    cases i with
    | zero =>
      obtain rfl : q = p := by simpa using hi
      rw [Nat.zero_mul, Nat.zero_add, List.getElem?_append_left (by omega)]
      exact hu
    | succ i =>
      rw [List.getElem?_append_right (by omega), show (i + 1) * 512 + j - (q.map byteV).length = i * 512 + j by omega]
      exact ih (fun p hp => h p (List.mem_cons_of_mem _ hp)) (by simpa using hi) j u hu
theorem pgOf_length {w : World} {d g m n : Nat} {fs : Bool} {fuse : Int} {lv : Value} {stale head sure : Int} {safe : List (List UInt8)} {k : Nat} {mf : Int → Option Value} {wr : Nat → List (List UInt8)} (h : DevS w d g m n fs fuse lv stale head sure safe k mf wr) {no : Nat} (hno : no < n) : (pgOf safe wr no).length = 512 := by
  unfold pgOf
  split
  · have hl : no < safe.length := by rw [h.sn]; exact hno
    rw [List.getD_eq_getElem?_getD, List.getElem?_eq_getElem hl]
    exact h.sl _ (List.getElem_mem _)
  · rename_i h0
    have hl : (wr no).length - 1 < (wr no).length := by omega
    rw [List.getD_eq_getElem?_getD, List.getElem?_eq_getElem hl]
    exact h.wl no _ (List.getElem_mem _)
def ReadD (w : World) (d g m n : Nat) (fs : Bool) (fuse : Int) (lv : Value) (stale head sure : Int) (safe : List (List UInt8)) (k : Nat) (mf : Int → Option Value) (wr : Nat → List (List UInt8)) (w' : World) : Prop :=
  DevS w' d g m n fs (if fs = true then fuse - 1 else fuse) lv stale head sure safe k mf wr ∧ Turn (fun q => q = d) w w'
theorem doneW.turn {fs : Bool} {d : Nat} {fu : Int} {W w' : World} (h : doneW fs d fu W w') : Turn (fun q => q = d) W w' := by
  obtain ⟨o', rfl⟩ := h
  split
  · exact Turn.set (S := fun q => q = d) (Turn.set (S := fun q => q = d) (Turn.of_below (Below.refl _ _)) (p := ⟨d, 9, none⟩) (.inl rfl) _) (p := ⟨d, 7, none⟩) (.inl rfl) _
  · exact Turn.set (S := fun q => q = d) (Turn.of_below (Below.refl _ _)) (p := ⟨d, 9, none⟩) (.inl rfl) _
theorem doneW.dev {fs : Bool} {d : Nat} {fu : Int} {W w' : World} {sv mv lv : Value} {stale head sure o : Int} (h : doneW fs d fu W w') (k : Blk W d 107 (devF fs sv mv lv stale head sure fu o)) : ∃ o', Blk w' d 107 (devF fs sv mv lv stale head sure (if fs = true then fu - 1 else fu) o') := by
  obtain ⟨o', rfl⟩ := h
  cases fs
  · exact ⟨o', k.set_ 9 _⟩
  · exact ⟨o', (k.set_ 9 (.int .i64 o')).set_ 7 (.int .i64 (fu - 1))⟩
theorem Turn.setRow {S : Nat → Prop} {a w : World} (h : Turn S a w) {g : Nat} (hg : a.heap.size ≤ g) (cs : Array Value) : Turn S a (w.setRow g cs) :=
  have t := touch_setRow w g cs
  ⟨t.os.trans h.os, t.tape.trans h.tape, t.output.trans h.output, by rw [t.size]; exact h.size, fun k hk hn => (t.block k (.inl (by omega))).trans (h.block k hk hn)⟩
theorem Turn.then_new {S : Nat → Prop} {a b c : World} {r : Nat} (h : Turn S a b) (k : Turn (fun q => q = r) b c) (hr : a.heap.size ≤ r) : Turn S a c :=
  ⟨k.os.trans h.os, k.tape.trans h.tape, k.output.trans h.output, Nat.le_trans h.size k.size, fun i hi hn => (k.block i (Nat.lt_of_lt_of_le hi h.size) (by omega)).trans (h.block i hi hn)⟩
theorem zeros_page : Tryz.zeroCells63.size = 512 := by kernel_rfl
theorem devRead_any (w : World) (d g m n : Nat) (fs : Bool) (fuse : Int) (lv : Value) (stale head sure : Int) (safe : List (List UInt8)) (k : Nat) (mf : Int → Option Value) (wr : Nat → List (List UInt8)) (no : Nat)
    (h : DevS w d g m n fs fuse lv stale head sure safe k mf wr) (hno : no < n) (hn : n ≤ 1024) (hw : (wr no).length ≤ 1000000) (hfu : fs = true → 0 < fuse ∧ fuse ≤ 9223372036854775807) :
    Calls Tryz.prog 72 #[.pointer (some ⟨d, 0, none⟩), .int .i64 (no : Nat)] w fun e w' => e = .returned (.tuple #[pgV (pgOf safe wr no), .int .i64 0]) ∧ ReadD w d g m n fs fuse lv stale head sure safe k mf wr w' := by
  have hmf : ∀ (fn : Fn) (first cap : Array Value) (w : World), (Instr.makeFunc fn first cap).run Tryz.prog w = .ok (.func fn first cap) w := fun _ _ _ _ => rfl
  have HS := hide h
  have HFU := hide hfu
  obtain ⟨J, hJ⟩ : ∃ J, J = (Tryz.zeroCells129.setIfInBounds 0 (.pointer (some ⟨d, 0, none⟩))).setIfInBounds 1 (.int .i64 (no : Nat)) := ⟨_, rfl⟩
  have hJ2 : J = jobPg d (no : Nat) (List.replicate 512 0) := hJ.trans (job_zero d _)
  have hsz : J.size = 515 := by rw [hJ2]; exact jobPg_size _ _ _ (by simp)
  have h1c : J.all (·.oneCell') = true := by
    rw [hJ]
    exact all_set (all_set zero_job_one 0 rfl) 1 rfl
  have HII := hide (show (Tryz.prog.info? 129).map (·.size) = some J.size by rw [hsz]; exact info_job)
  have HZ := hide (show Tryz.zeroCells129.size = J.size by rw [hsz]; exact zeros_job)
  have H1 := hide h1c
  have HJ := hide hJ
  have HJ2 := hide hJ2
  clear h hfu hJ hJ2 hsz h1c
  go_enter Tryz.func72, Tryz.ntmps72
  go_upto_region 1 with (fail)
  refine gen1 (R := fun W => Code.wp _ _ _ _ W) (fun W1 kT hb1 hz1 => ?_)
  have HKT := hide kT
  have HB1 := hide hb1
  clear kT hb1
  go_wp2_with (refine wpList_store_row rfl 129 (.tmp 6) (.tmp 13) rfl W1.heap.size J rfl (by rw [HJ.out]; rfl) 129 _ (Blk.new W1 _ _) HII.out HZ.out H1.out ?_)
  refine nameW (w := World.setRow _ W1.heap.size J) (R := fun W => Calls Tryz.prog _ _ W _) (fun W2 hW2 => ?_)
  have kj2 : Blk W2 W1.heap.size 129 J := by
    rw [hW2]
    exact setRow_heap _ W1.heap.size _ _ _ _ (Blk.new W1 _ _)
  have hb2 : Below W1.heap.size W1 W2 := by
    rw [hW2]
    exact (touch_setRow _ W1.heap.size J).below ((Below.refl W1.heap.size W1).alloc (Nat.le_refl _) _) (Nat.le_refl _)
  have hl2 : Below w.heap.size w W2 := HB1.out.trans (hb2.mono HB1.out.size)
  have hs2 := HS.out.via hl2
  have hz2 := kj2.lt
  have hz1' := HB1.out.size
  have kT2 := Blk.via hb2 HKT.out
  obtain ⟨o, kd2⟩ := hs2.kd
  have hdl : d < w.heap.size := by obtain ⟨o', kd⟩ := HS.out.kd; exact kd.lt
  clear hW2
  refine (devHas_any d no n _ n _ W2 kd2 rfl hno).mono ?_
  rintro e w' ⟨rfl, hw'⟩
  obtain rfl := hw'.symm
  go_wp2_with fail
  have hb4 : Below W2.heap.size W2 (W2.alloc (.cells #[.pointer (some ⟨d, 0, none⟩)] 28)) := (Below.refl _ _).alloc (Nat.le_refl _) _
  have hs4 := hs2.via hb4
  obtain ⟨o4, kd4⟩ := hs4.kd
  have kb4 := Blk.new W2 28 #[.pointer (some ⟨d, 0, none⟩)]
  have kj4 := Blk.via hb4 kj2
  have kT4 := Blk.via hb4 kT2
  have hql := pgOf_length HS.out hno
  have hact := jobRead_any W1.heap.size d m k no g n mf (List.replicate 512 0) (safe.getD no []) ((wr no).getD ((wr no).length - 1) []) (safe.flatMap (fun p => p.map byteV)).toArray fs lv stale head sure fuse o4 (wr no).length ((wr no).flatMap (fun p => p.map byteV)) (W2.alloc (.cells #[.pointer (some ⟨d, 0, none⟩)] 28)) (by simp) hno hn hw kd4 (HJ2.out ▸ kj4) hs4.hm hs4.kg
    (by
      have hl : no < safe.length := by rw [HS.out.sn]; exact hno
      rw [List.getD_eq_getElem?_getD, List.getElem?_eq_getElem hl]
      exact HS.out.sl _ (List.getElem_mem _))
    (by
      have hl : no < safe.length := by rw [HS.out.sn]; exact hno
      intro i u hu
      rw [List.getElem?_toArray]
      refine flat_pages HS.out.sl (p := safe.getD no []) ?_ i u hu
      rw [List.getD_eq_getElem?_getD, List.getElem?_eq_getElem hl]
      rfl)
    (hs4.fw no)
    (by
      intro h0
      have hl : (wr no).length - 1 < (wr no).length := by omega
      have he : (wr no)[(wr no).length - 1]? = some ((wr no).getD ((wr no).length - 1) []) := by
        rw [List.getD_eq_getElem?_getD, List.getElem?_eq_getElem hl]
        rfl
      exact ⟨HS.out.wl no _ (List.mem_of_getElem? he), fun i u hu => flat_pages (HS.out.wl no) he i u hu⟩)
  have hact2 : Calls Tryz.prog 134 #[.pointer (some ⟨W1.heap.size, 0, none⟩)] (W2.alloc (.cells #[.pointer (some ⟨d, 0, none⟩)] 28)) (fun e w' => (∃ v, e = .returned v) ∧ JobR (W2.alloc (.cells #[.pointer (some ⟨d, 0, none⟩)] 28)) W1.heap.size d no (pgOf safe wr no) w') := hact
  have hR : DoRF W2.heap.size d fs fuse (fun W => JobR (W2.alloc (.cells #[.pointer (some ⟨d, 0, none⟩)] 28)) W1.heap.size d no (pgOf safe wr no) W) := by
    rintro W ⟨g1, g2⟩
    exact ⟨g2.blk kb4 (by omega), _, o4, g2.blk kd4 (by omega), rfl, rfl, rfl⟩
  have HD := hide (doF_any d 134 (.pointer (some ⟨W1.heap.size, 0, none⟩)) _ fs fuse _ W2 kd2 rfl rfl rfl HFU.out hR (fun W => by simp [go_sem]) hact2)
  generalize hq : pgOf safe wr no = q at *
  have HQ := hide hq
  clear hq
  have HPI := hide (show (Tryz.prog.info? 63).map (·.size) = some (q.map byteV).length by rw [List.length_map, hql]; exact info_pg)
  have HPS := hide (show (Tryz.prog.info? 63).map (·.size) = some (q.map byteV).toArray.size by rw [List.size_toArray, List.length_map, hql]; exact info_pg)
  have HZP := hide (show Tryz.zeroCells63.size = (q.map byteV).toArray.size by rw [zeros_page, List.size_toArray, List.length_map, hql])
  have HF := hide (show ∀ w', (∃ W, JobR (W2.alloc (.cells #[.pointer (some ⟨d, 0, none⟩)] 28)) W1.heap.size d no q W ∧ doneW fs d fuse W w') → (Blk w' W1.heap.size 129 (jobPg d no q) ∧ Blk w' w.heap.size 63 Tryz.zeroCells63 ∧ Turn (fun q => q = d) w w' ∧ ∃ o, Blk w' d 107 (devF fs (.slice (some ⟨g, 0, none⟩) n n) (.map (some m)) lv stale head sure (if fs = true then fuse - 1 else fuse) o)) from by
    rintro w' ⟨W, ⟨g1, g2⟩, g3⟩
    have ht := doneW.turn g3
    refine ⟨ht.blk g1 (by omega), ht.blk (g2.blk kT4 (by omega)) (by omega), ?_, doneW.dev g3 (g2.blk kd4 (by omega))⟩
    exact (Turn.then_new ((Turn.of_below hl2).trans (Turn.of_below hb4)) g2 hz1').trans ht)
  clear hact hact2 hR kb4 kd4 kj4 kT4 hs4 hb4 kd2 hs2 hl2 hb2 kj2 kT2 hql
  refine HD.out.mono ?_
  rintro e w3 ⟨rfl, hw'⟩
  obtain ⟨k1, k2, k3, o5, k4⟩ := HF.out w3 hw'
  have K1 := hide k1
  have K2 := hide k2
  have K3 := hide k3
  have K4 := hide k4
  have hl3 := k2.lt
  have hl4 := k1.lt
  clear hw' k1 k2 k3 k4
  go_wp2_with (first
    | (refine wpList_load_mid rfl 63 (.tmp 20) rfl W1.heap.size 2 rfl (q.map byteV) _ (jobPg_range K1.out) Tryz.underlying63 rfl HPI.out ?_)
    | (refine wpList_store_row rfl 63 (.tmp 4) (.tmp 21) rfl w.heap.size (q.map byteV).toArray rfl rfl 63 _ K2.out HPS.out HZP.out (all_oneCell_toArray (bytes_one _)) ?_))
  refine bodyPost_ret (results_row_1 Tryz.results72 _ _ w.heap.size (q.map byteV).toArray rfl (run_loadVar_row _ _ _ _ (q.map byteV).toArray (0, 0) _ (setRow_heap w3 w.heap.size _ _ _ _ K2.out) Tryz.underlying63 rfl HPS.out)) rfl ⟨by rw [HQ.out]; rfl, ?_⟩
  have hT := K3.out.setRow (Nat.le_refl _) (q.map byteV).toArray
  exact ⟨HS.out.turnd hT ⟨o5, (touch_setRow w3 w.heap.size _).blk K4.out (.inl hdl)⟩, hT⟩
end Go.Proofs.YtnanlaefehaifaaGreat
namespace Go.Proofs.YtnanlaefehaifaaGreat
open Go.RowKit Go.Shelf Go.Maps
theorem devHeadF_any (fs : Bool) (d : Nat) (sv mv lv : Value) (stale head sure fuse o : Int) (w : World) (k : Blk w d 107 (devF fs sv mv lv stale head sure fuse o)) :
    Calls Tryz.prog 40 #[.pointer (some ⟨d, 0, none⟩)] w fun e w' => e = .returned (.int .i64 head) ∧ w' = w := by
  have c4 : w.cell? ⟨d, 4, none⟩ = some _ := k.cell 4
  clear k
  go_enter Tryz.func40, Tryz.ntmps40
  go_wp2
  go_ret
  exact ⟨rfl, rfl⟩
theorem devPagesF_any (fs : Bool) (d : Nat) (A : Option Addr) (n c : Nat) (mv lv : Value) (stale head sure fuse o : Int) (w : World) (k : Blk w d 107 (devF fs (.slice A n c) mv lv stale head sure fuse o)) :
    Calls Tryz.prog 75 #[.pointer (some ⟨d, 0, none⟩)] w fun e w' => e = .returned (.int .i64 (n : Nat)) ∧ w' = w := by
  have c0 : w.cell? ⟨d, 0, none⟩ = some (.slice A n c) := k.cell 0
  have ld := k.lt
  clear k
  go_enter Tryz.func75, Tryz.ntmps75
  go_wp2
  go_ret
  exact ⟨rfl, rfl⟩
theorem devEndF_any (fs : Bool) (d : Nat) (sv mv : Value) (A : Option Addr) (n c : Nat) (stale head sure fuse o : Int) (w : World) (hh : 0 ≤ head) (hh2 : head ≤ 100000000) (hn : n ≤ 100000000) (k : Blk w d 107 (devF fs sv mv (.slice A n c) stale head sure fuse o)) :
    Calls Tryz.prog 111 #[.pointer (some ⟨d, 0, none⟩)] w fun e w' => e = .returned (.int .i64 (head + n)) ∧ Below w.heap.size w w' := by
  have c4 : w.cell? ⟨d, 4, none⟩ = some (.int .i64 head) := k.cell 4
  have c2 : w.cell? ⟨d, 2, none⟩ = some (.slice A n c) := k.cell 2
  clear k
  go_enter Tryz.func111, Tryz.ntmps111
  go_upto_region 3 with (fail)
  go_quiet (fail)
  go_wp2
  go_ret
  exact ⟨rfl, below_of_drewN _ _⟩
theorem spansF_any (fs : Bool) (d : Nat) (p : Int) (sv mv : Value) (A : Option Addr) (n c : Nat) (stale head sure fuse o : Int) (w : World) (hh : 0 ≤ head) (hh2 : head ≤ 100000000) (hn : n ≤ 100000000) (hp1 : head ≤ p) (hp2 : p ≤ head + n) (k : Blk w d 107 (devF fs sv mv (.slice A n c) stale head sure fuse o)) :
    Calls Tryz.prog 109 #[.pointer (some ⟨d, 0, none⟩), .int .i64 p] w fun e w' => e = .returned (.bool true) ∧ Below w.heap.size w w' := by
  have HE := hide (devEndF_any fs d sv mv A n c stale head sure fuse o w hh hh2 hn k)
  have c4 : w.cell? ⟨d, 4, none⟩ = some (.int .i64 head) := k.cell 4
  clear k
  go_enter Tryz.func109, Tryz.ntmps109
  go_wp2_with (refine HE.out.mono ?_; rintro e w1 ⟨rfl, hb1⟩)
  go_ret
  exact ⟨rfl, hb1⟩
theorem devLogF_any (fs : Bool) (d : Nat) (sv mv : Value) (stale head sure fuse o : Int) (w : World) (k : Blk w d 107 (devF fs sv mv (.slice none 0 0) stale head sure fuse o)) :
    Calls Tryz.prog 42 #[.pointer (some ⟨d, 0, none⟩)] w fun e w' => (∃ A c, e = .returned (.slice A 0 c)) ∧ Below w.heap.size w w' := by
  have HC := hide (fun W => cloneB_any none 0 0 [] 0 W (Nat.zero_le _) (by omega) Reads.none_ (fun _ => rfl) (fun _ h => by cases h))
  have c2 : w.cell? ⟨d, 2, none⟩ = some (.slice none 0 0) := k.cell 2
  have l2 := k.lt
  clear k
  go_enter Tryz.func42, Tryz.ntmps42
  go_wp2_with (go_at_call 108; refine (HC.out _).mono ?_; rintro e w1 ⟨A2, c2', rfl, _, hb2⟩)
  go_ret
  exact ⟨⟨_, _, rfl⟩, hb2⟩
theorem jobCutF_any (fs : Bool) (j d : Nat) (bv sv mv : Value) (stale fuse o : Int) (w : World) (k : Blk w d 107 (devF fs sv mv (.slice none 0 0) stale 0 0 fuse o)) (js : Array Value) (kj : Blk w j 129 js) (hj : JobC js d 0 bv) :
    Calls Tryz.prog 110 #[.pointer (some ⟨j, 0, none⟩)] w fun e w' => (∃ v, e = .returned v) ∧ Blk w' d 107 (devF fs sv mv (.slice none 0 0) stale 0 0 fuse o) ∧ Turn (fun k => k = d) w w' := by
  obtain ⟨j0, j1, _⟩ := hj
  have hjd := kj.ne_ k (by decide)
  have KD := hide k
  have KJ := hide kj
  have HJ0 := hide j0
  have HJ1 := hide j1
  have ld := k.lt
  have lj := kj.lt
  clear k kj j0 j1
  go_enter Tryz.func110, Tryz.ntmps110
  go_upto_region 0 with (fail)
  refine wp_region_inv_tail 26 [fun v _ => v = .pointer (some ⟨j, 0, none⟩), fun v _ => v = .pointer (some ⟨j, 0, none⟩), fun v _ => v = .pointer (some ⟨j, 0, none⟩), fun v _ => v = .pointer (some ⟨d, 0, none⟩), fun v _ => v = .pointer (some ⟨j, 0, none⟩), fun v _ => v = .pointer (some ⟨j, 0, none⟩), fun v _ => v = .pointer (some ⟨j, 0, none⟩), fun v _ => v = .pointer (some ⟨d, 0, none⟩), fun v _ => v = .pointer (some ⟨d, 0, none⟩), fun v _ => v = .pointer (some ⟨d, 2, none⟩), fun v _ => v = .slice none 0 0, fun v _ => v = .pointer (some ⟨j, 0, none⟩), fun v _ => v = .pointer (some ⟨j, 0, none⟩), fun v _ => v = .pointer (some ⟨j, 1, none⟩), fun v _ => v = .int .i64 0, fun v _ => v = .pointer (some ⟨j, 0, none⟩), fun v _ => v = .pointer (some ⟨j, 0, none⟩), fun v _ => v = .pointer (some ⟨j, 0, none⟩), fun v _ => v = .pointer (some ⟨d, 0, none⟩), fun v _ => v = .pointer (some ⟨d, 0, none⟩), fun v _ => v = .pointer (some ⟨d, 4, none⟩), fun v _ => v = .int .i64 0, fun v _ => v = .int .i64 0, fun v _ => v = .slice none 0 0, fun v _ => v = .pointer (some ⟨d, 0, none⟩), fun v _ => v = .pointer (some ⟨d, 2, none⟩)] (by kernel_rfl) (by kernel_rfl) (by kernel_rfl) (by kernel_rfl) (by kernel_rfl) (by first | simp | decide) (by kernel_rfl) ?st ?steps ?fin
  case st =>
    intro i v W W' hWW h
    match i with
    | 0 | 1 | 2 | 3 | 4 | 5 | 6 | 7 | 8 | 9 | 10 | 11 | 12 | 13 | 14 | 15 | 16 | 17 | 18 | 19 | 20 | 21 | 22 | 23 | 24 | 25 => exact h
    | (i + 26) => exact h
  case steps =>
    simp only [stepsT, List.take_succ_cons, List.take_zero]
    refine ⟨?_, ?_, ?_, ?_, ?_, ?_, ?_, ?_, ?_, ?_, ?_, ?_, ?_, ?_, ?_, ?_, ?_, ?_, ?_, ?_, ?_, ?_, ?_, ?_, ?_, ?_, trivial⟩
    · intro f W hbW hdp
      simp only [fS, Nat.reduceAdd]
      go_wp2
      exact ⟨rfl, _, rfl, rfl, Below.refl _ _⟩
    · intro f W hbW hdp
      have e0 : f 0 = .pointer (some ⟨j, 0, none⟩) := hdp ⟨0, .data⟩ (mfl (by simp) rfl)
      simp only [fS, Nat.reduceAdd, e0]
      go_wp2
      exact ⟨rfl, _, rfl, rfl, Below.refl _ _⟩
    · intro f W hbW hdp
      have e1 : f 1 = .pointer (some ⟨j, 0, none⟩) := hdp ⟨1, .data⟩ (mfl (by simp) rfl)
      simp only [fS, Nat.reduceAdd, e1]
      go_wp2
      exact ⟨rfl, _, rfl, rfl, Below.refl _ _⟩
    · intro f W hbW hdp
      have e2 : f 2 = .pointer (some ⟨j, 0, none⟩) := hdp ⟨2, .data⟩ (mfl (by simp) rfl)
      have q : W.cell? ⟨j, 0, none⟩ = some _ := ((Blk.via hbW KJ.out).cell 0).trans HJ0.out
      simp only [fS, Nat.reduceAdd, e2]
      go_wp2
      exact ⟨rfl, _, rfl, rfl, Below.refl _ _⟩
    · intro f W hbW hdp
      simp only [fS, Nat.reduceAdd]
      go_wp2
      exact ⟨rfl, _, rfl, rfl, Below.refl _ _⟩
    · intro f W hbW hdp
      have e4 : f 4 = .pointer (some ⟨j, 0, none⟩) := hdp ⟨4, .data⟩ (mfl (by simp) rfl)
      simp only [fS, Nat.reduceAdd, e4]
      go_wp2
      exact ⟨rfl, _, rfl, rfl, Below.refl _ _⟩
    · intro f W hbW hdp
      have e5 : f 5 = .pointer (some ⟨j, 0, none⟩) := hdp ⟨5, .data⟩ (mfl (by simp) rfl)
      simp only [fS, Nat.reduceAdd, e5]
      go_wp2
      exact ⟨rfl, _, rfl, rfl, Below.refl _ _⟩
    · intro f W hbW hdp
      have e6 : f 6 = .pointer (some ⟨j, 0, none⟩) := hdp ⟨6, .data⟩ (mfl (by simp) rfl)
      have q : W.cell? ⟨j, 0, none⟩ = some _ := ((Blk.via hbW KJ.out).cell 0).trans HJ0.out
      simp only [fS, Nat.reduceAdd, e6]
      go_wp2
      exact ⟨rfl, _, rfl, rfl, Below.refl _ _⟩
    · intro f W hbW hdp
      have e7 : f 7 = .pointer (some ⟨d, 0, none⟩) := hdp ⟨7, .data⟩ (mfl (by simp) rfl)
      simp only [fS, Nat.reduceAdd, e7]
      go_wp2
      exact ⟨rfl, _, rfl, rfl, Below.refl _ _⟩
    · intro f W hbW hdp
      have e8 : f 8 = .pointer (some ⟨d, 0, none⟩) := hdp ⟨8, .data⟩ (mfl (by simp) rfl)
      simp only [fS, Nat.reduceAdd, e8]
      go_wp2
      exact ⟨rfl, _, rfl, rfl, Below.refl _ _⟩
    · intro f W hbW hdp
      have e9 : f 9 = .pointer (some ⟨d, 2, none⟩) := hdp ⟨9, .data⟩ (mfl (by simp) rfl)
      have q : W.cell? ⟨d, 2, none⟩ = some (.slice none 0 0) := (Blk.via hbW KD.out).cell 2
      simp only [fS, Nat.reduceAdd, e9]
      go_wp2
      exact ⟨rfl, _, rfl, rfl, Below.refl _ _⟩
    · intro f W hbW hdp
      simp only [fS, Nat.reduceAdd]
      go_wp2
      exact ⟨rfl, _, rfl, rfl, Below.refl _ _⟩
    · intro f W hbW hdp
      have e11 : f 11 = .pointer (some ⟨j, 0, none⟩) := hdp ⟨11, .data⟩ (mfl (by simp) rfl)
      simp only [fS, Nat.reduceAdd, e11]
      go_wp2
      exact ⟨rfl, _, rfl, rfl, Below.refl _ _⟩
    · intro f W hbW hdp
      have e12 : f 12 = .pointer (some ⟨j, 0, none⟩) := hdp ⟨12, .data⟩ (mfl (by simp) rfl)
      simp only [fS, Nat.reduceAdd, e12]
      go_wp2
      exact ⟨rfl, _, rfl, rfl, Below.refl _ _⟩
    · intro f W hbW hdp
      have e13 : f 13 = .pointer (some ⟨j, 1, none⟩) := hdp ⟨13, .data⟩ (mfl (by simp) rfl)
      have q : W.cell? ⟨j, 1, none⟩ = some _ := ((Blk.via hbW KJ.out).cell 1).trans HJ1.out
      simp only [fS, Nat.reduceAdd, e13]
      go_wp2
      exact ⟨rfl, _, rfl, rfl, Below.refl _ _⟩
    · intro f W hbW hdp
      simp only [fS, Nat.reduceAdd]
      go_wp2
      exact ⟨rfl, _, rfl, rfl, Below.refl _ _⟩
    · intro f W hbW hdp
      have e15 : f 15 = .pointer (some ⟨j, 0, none⟩) := hdp ⟨15, .data⟩ (mfl (by simp) rfl)
      simp only [fS, Nat.reduceAdd, e15]
      go_wp2
      exact ⟨rfl, _, rfl, rfl, Below.refl _ _⟩
    · intro f W hbW hdp
      have e16 : f 16 = .pointer (some ⟨j, 0, none⟩) := hdp ⟨16, .data⟩ (mfl (by simp) rfl)
      simp only [fS, Nat.reduceAdd, e16]
      go_wp2
      exact ⟨rfl, _, rfl, rfl, Below.refl _ _⟩
    · intro f W hbW hdp
      have e17 : f 17 = .pointer (some ⟨j, 0, none⟩) := hdp ⟨17, .data⟩ (mfl (by simp) rfl)
      have q : W.cell? ⟨j, 0, none⟩ = some _ := ((Blk.via hbW KJ.out).cell 0).trans HJ0.out
      simp only [fS, Nat.reduceAdd, e17]
      go_wp2
      exact ⟨rfl, _, rfl, rfl, Below.refl _ _⟩
    · intro f W hbW hdp
      have e18 : f 18 = .pointer (some ⟨d, 0, none⟩) := hdp ⟨18, .data⟩ (mfl (by simp) rfl)
      simp only [fS, Nat.reduceAdd, e18]
      go_wp2
      exact ⟨rfl, _, rfl, rfl, Below.refl _ _⟩
    · intro f W hbW hdp
      have e19 : f 19 = .pointer (some ⟨d, 0, none⟩) := hdp ⟨19, .data⟩ (mfl (by simp) rfl)
      simp only [fS, Nat.reduceAdd, e19]
      go_wp2
      exact ⟨rfl, _, rfl, rfl, Below.refl _ _⟩
    · intro f W hbW hdp
      have e20 : f 20 = .pointer (some ⟨d, 4, none⟩) := hdp ⟨20, .data⟩ (mfl (by simp) rfl)
      have q : W.cell? ⟨d, 4, none⟩ = some (.int .i64 0) := (Blk.via hbW KD.out).cell 4
      simp only [fS, Nat.reduceAdd, e20]
      go_wp2
      exact ⟨rfl, _, rfl, rfl, Below.refl _ _⟩
    · intro f W hbW hdp
      have e14 : f 14 = .int .i64 0 := hdp ⟨14, .data⟩ (mfl (by simp) rfl)
      have e21 : f 21 = .int .i64 0 := hdp ⟨21, .data⟩ (mfl (by simp) rfl)
      simp only [fS, Nat.reduceAdd, e14, e21]
      go_wp2
      exact ⟨rfl, _, rfl, rfl, Below.refl _ _⟩
    · intro f W hbW hdp
      have e10 : f 10 = .slice none 0 0 := hdp ⟨10, .data⟩ (mfl (by simp) rfl)
      have e22 : f 22 = .int .i64 0 := hdp ⟨22, .data⟩ (mfl (by simp) rfl)
      simp only [fS, Nat.reduceAdd, e10, e22]
      go_wp2
      exact ⟨rfl, _, rfl, rfl, Below.refl _ _⟩
    · intro f W hbW hdp
      have e3 : f 3 = .pointer (some ⟨d, 0, none⟩) := hdp ⟨3, .data⟩ (mfl (by simp) rfl)
      simp only [fS, Nat.reduceAdd, e3]
      go_wp2
      exact ⟨rfl, _, rfl, rfl, Below.refl _ _⟩
    · intro f W hbW hdp
      have e24 : f 24 = .pointer (some ⟨d, 0, none⟩) := hdp ⟨24, .data⟩ (mfl (by simp) rfl)
      simp only [fS, Nat.reduceAdd, e24]
      go_wp2
      exact ⟨rfl, _, rfl, rfl, Below.refl _ _⟩
  case fin =>
    intro f W hbW hA
    have e23 : f 23 = .slice none 0 0 := hA 23 (by omega)
    have e25 : f 25 = .pointer (some ⟨d, 2, none⟩) := hA 25 (by omega)
    simp only [List.drop_succ_cons, List.drop_zero, List.take_succ_cons, List.take_zero, fillF, Act.put, List.setIfInBounds_toArray, List.set_cons_succ, List.set_cons_zero, Nat.reduceAdd, e23, e25]
    clear hA e23 e25
    have kd := Blk.via hbW KD.out
    have l2 := kd.lt
    have f2 := kd.frozen 2
    have c2 := kd.cell 2
    have HKDW := hide kd
    have HBW := hide hbW
    clear hbW kd
    go_wp2_with fail
    refine nameW (w := World.setCell _ _ _) (R := fun W => Code.wp _ _ _ _ W) (fun W2 hW2 => ?_)
    have k2 : Blk W2 d 107 (devF fs sv mv (.slice none 0 0) stale 0 0 fuse o) := hW2 ▸ HKDW.out.set_ 2 _
    have kj2 : Blk W2 j 129 js := hW2 ▸ (Blk.via HBW.out KJ.out).far hjd _
    have ht2 : Turn (fun k => k = d) w W2 := hW2 ▸ Turn.set (S := fun k => k = d) (Turn.of_below HBW.out) (p := ⟨d, 2, none⟩) (.inl rfl) _
    have K2 := hide k2
    have KJ2 := hide kj2
    have HT2 := hide ht2
    clear hW2 k2 kj2 ht2 l2 f2 c2
    refine wp_region_inv_tail 18 [fun v _ => v = .pointer (some ⟨j, 0, none⟩), fun v _ => v = .pointer (some ⟨j, 0, none⟩), fun v _ => v = .pointer (some ⟨j, 0, none⟩), fun v _ => v = .pointer (some ⟨d, 0, none⟩), fun v _ => v = .pointer (some ⟨j, 0, none⟩), fun v _ => v = .pointer (some ⟨j, 0, none⟩), fun v _ => v = .pointer (some ⟨j, 0, none⟩), fun v _ => v = .pointer (some ⟨d, 0, none⟩), fun v _ => v = .pointer (some ⟨d, 0, none⟩), fun v _ => v = .pointer (some ⟨d, 5, none⟩), fun v _ => v = .int .i64 0, fun v _ => v = .pointer (some ⟨j, 0, none⟩), fun v _ => v = .pointer (some ⟨j, 0, none⟩), fun v _ => v = .pointer (some ⟨j, 1, none⟩), fun v _ => v = .int .i64 0, fun v _ => v = .int .i64 0, fun v _ => v = .pointer (some ⟨d, 0, none⟩), fun v _ => v = .pointer (some ⟨d, 5, none⟩)] (by kernel_rfl) (by kernel_rfl) (by kernel_rfl) (by kernel_rfl) (by kernel_rfl) (by first | simp | decide) (by kernel_rfl) ?st ?steps ?fin
    case st =>
      intro i v W W' hWW h
      match i with
      | 0 | 1 | 2 | 3 | 4 | 5 | 6 | 7 | 8 | 9 | 10 | 11 | 12 | 13 | 14 | 15 | 16 | 17 => exact h
      | (i + 18) => exact h
    case steps =>
      simp only [stepsT, List.take_succ_cons, List.take_zero]
      refine ⟨?_, ?_, ?_, ?_, ?_, ?_, ?_, ?_, ?_, ?_, ?_, ?_, ?_, ?_, ?_, ?_, ?_, ?_, trivial⟩
      · intro f W hbW hdp
        simp only [fS, Nat.reduceAdd]
        go_wp2
        exact ⟨rfl, _, rfl, rfl, Below.refl _ _⟩
      · intro f W hbW hdp
        have e0 : f 0 = .pointer (some ⟨j, 0, none⟩) := hdp ⟨0, .data⟩ (mfl (by simp) rfl)
        simp only [fS, Nat.reduceAdd, e0]
        go_wp2
        exact ⟨rfl, _, rfl, rfl, Below.refl _ _⟩
      · intro f W hbW hdp
        have e1 : f 1 = .pointer (some ⟨j, 0, none⟩) := hdp ⟨1, .data⟩ (mfl (by simp) rfl)
        simp only [fS, Nat.reduceAdd, e1]
        go_wp2
        exact ⟨rfl, _, rfl, rfl, Below.refl _ _⟩
      · intro f W hbW hdp
        have e2 : f 2 = .pointer (some ⟨j, 0, none⟩) := hdp ⟨2, .data⟩ (mfl (by simp) rfl)
        have q : W.cell? ⟨j, 0, none⟩ = some _ := ((Blk.via hbW KJ2.out).cell 0).trans HJ0.out
        simp only [fS, Nat.reduceAdd, e2]
        go_wp2
        exact ⟨rfl, _, rfl, rfl, Below.refl _ _⟩
      · intro f W hbW hdp
        simp only [fS, Nat.reduceAdd]
        go_wp2
        exact ⟨rfl, _, rfl, rfl, Below.refl _ _⟩
      · intro f W hbW hdp
        have e4 : f 4 = .pointer (some ⟨j, 0, none⟩) := hdp ⟨4, .data⟩ (mfl (by simp) rfl)
        simp only [fS, Nat.reduceAdd, e4]
        go_wp2
        exact ⟨rfl, _, rfl, rfl, Below.refl _ _⟩
      · intro f W hbW hdp
        have e5 : f 5 = .pointer (some ⟨j, 0, none⟩) := hdp ⟨5, .data⟩ (mfl (by simp) rfl)
        simp only [fS, Nat.reduceAdd, e5]
        go_wp2
        exact ⟨rfl, _, rfl, rfl, Below.refl _ _⟩
      · intro f W hbW hdp
        have e6 : f 6 = .pointer (some ⟨j, 0, none⟩) := hdp ⟨6, .data⟩ (mfl (by simp) rfl)
        have q : W.cell? ⟨j, 0, none⟩ = some _ := ((Blk.via hbW KJ2.out).cell 0).trans HJ0.out
        simp only [fS, Nat.reduceAdd, e6]
        go_wp2
        exact ⟨rfl, _, rfl, rfl, Below.refl _ _⟩
      · intro f W hbW hdp
        have e7 : f 7 = .pointer (some ⟨d, 0, none⟩) := hdp ⟨7, .data⟩ (mfl (by simp) rfl)
        simp only [fS, Nat.reduceAdd, e7]
        go_wp2
        exact ⟨rfl, _, rfl, rfl, Below.refl _ _⟩
      · intro f W hbW hdp
        have e8 : f 8 = .pointer (some ⟨d, 0, none⟩) := hdp ⟨8, .data⟩ (mfl (by simp) rfl)
        simp only [fS, Nat.reduceAdd, e8]
        go_wp2
        exact ⟨rfl, _, rfl, rfl, Below.refl _ _⟩
      · intro f W hbW hdp
        have e9 : f 9 = .pointer (some ⟨d, 5, none⟩) := hdp ⟨9, .data⟩ (mfl (by simp) rfl)
        have q : W.cell? ⟨d, 5, none⟩ = some (.int .i64 0) := (Blk.via hbW K2.out).cell 5
        simp only [fS, Nat.reduceAdd, e9]
        go_wp2
        exact ⟨rfl, _, rfl, rfl, Below.refl _ _⟩
      · intro f W hbW hdp
        simp only [fS, Nat.reduceAdd]
        go_wp2
        exact ⟨rfl, _, rfl, rfl, Below.refl _ _⟩
      · intro f W hbW hdp
        have e11 : f 11 = .pointer (some ⟨j, 0, none⟩) := hdp ⟨11, .data⟩ (mfl (by simp) rfl)
        simp only [fS, Nat.reduceAdd, e11]
        go_wp2
        exact ⟨rfl, _, rfl, rfl, Below.refl _ _⟩
      · intro f W hbW hdp
        have e12 : f 12 = .pointer (some ⟨j, 0, none⟩) := hdp ⟨12, .data⟩ (mfl (by simp) rfl)
        simp only [fS, Nat.reduceAdd, e12]
        go_wp2
        exact ⟨rfl, _, rfl, rfl, Below.refl _ _⟩
      · intro f W hbW hdp
        have e13 : f 13 = .pointer (some ⟨j, 1, none⟩) := hdp ⟨13, .data⟩ (mfl (by simp) rfl)
        have q : W.cell? ⟨j, 1, none⟩ = some _ := ((Blk.via hbW KJ2.out).cell 1).trans HJ1.out
        simp only [fS, Nat.reduceAdd, e13]
        go_wp2
        exact ⟨rfl, _, rfl, rfl, Below.refl _ _⟩
      · intro f W hbW hdp
        have e10 : f 10 = .int .i64 0 := hdp ⟨10, .data⟩ (mfl (by simp) rfl)
        have e14 : f 14 = .int .i64 0 := hdp ⟨14, .data⟩ (mfl (by simp) rfl)
        simp only [fS, Nat.reduceAdd, e10, e14]
        go_wp2
        exact ⟨rfl, _, rfl, rfl, Below.refl _ _⟩
      · intro f W hbW hdp
        have e3 : f 3 = .pointer (some ⟨d, 0, none⟩) := hdp ⟨3, .data⟩ (mfl (by simp) rfl)
        simp only [fS, Nat.reduceAdd, e3]
        go_wp2
        exact ⟨rfl, _, rfl, rfl, Below.refl _ _⟩
      · intro f W hbW hdp
        have e16 : f 16 = .pointer (some ⟨d, 0, none⟩) := hdp ⟨16, .data⟩ (mfl (by simp) rfl)
        simp only [fS, Nat.reduceAdd, e16]
        go_wp2
        exact ⟨rfl, _, rfl, rfl, Below.refl _ _⟩
    case fin =>
      intro f W hbW hA
      have e15 : f 15 = .int .i64 0 := hA 15 (by omega)
      have e17 : f 17 = .pointer (some ⟨d, 5, none⟩) := hA 17 (by omega)
      simp only [List.drop_succ_cons, List.drop_zero, List.take_succ_cons, List.take_zero, fillF, Act.put, List.setIfInBounds_toArray, List.set_cons_succ, List.set_cons_zero, Nat.reduceAdd, e15, e17]
      clear hA e15 e17
      have kd := Blk.via hbW K2.out
      have l5 := kd.lt
      have f5 := kd.frozen 5
      have c5 := kd.cell 5
      have HKDW3 := hide kd
      have HBW3 := hide hbW
      clear hbW kd
      go_wp2_with fail
      go_end0
      exact ⟨⟨_, rfl⟩, HKDW3.out.set_ 5 _, Turn.set (S := fun k => k = d) (HT2.out.trans (Turn.of_below HBW3.out)) (p := ⟨d, 5, none⟩) (.inl rfl) _⟩
def CutPF (fs : Bool) (w : World) (d : Nat) (sv mv : Value) (stale fuse : Int) (e : Ending) (w' : World) : Prop :=
  e = .returned (.int .i64 0) ∧ ∃ o', Blk w' d 107 (devF fs sv mv (.slice none 0 0) stale 0 0 (if fs = true then fuse - 1 else fuse) o') ∧ Turn (fun k => k = d) w w'
theorem devCutF_any (fs : Bool) (d : Nat) (sv mv : Value) (stale fuse o : Int) (w : World) (hfu : fs = true → 0 < fuse ∧ fuse ≤ 9223372036854775807) (k : Blk w d 107 (devF fs sv mv (.slice none 0 0) stale 0 0 fuse o)) :
    Calls Tryz.prog 44 #[.pointer (some ⟨d, 0, none⟩), .int .i64 0] w (CutPF fs w d sv mv stale fuse) := by
  have hmf : ∀ (fn : Fn) (first cap : Array Value) (w : World), (Instr.makeFunc fn first cap).run Tryz.prog w = .ok (.func fn first cap) w := fun _ _ _ _ => rfl
  have HK := hide k
  have HFU := hide hfu
  clear k hfu
  obtain ⟨X, hX⟩ : ∃ X, X = (Tryz.zeroCells129.setIfInBounds 0 (.pointer (some ⟨d, 0, none⟩))).setIfInBounds 1 (.int .i64 0) := ⟨_, rfl⟩
  have HX := hide hX
  have hJ : JobC X d 0 (.slice none 0 0) := by
    rw [hX]
    refine ⟨?_, ?_, ?_⟩
    · rw [Array.getElem?_setIfInBounds, if_neg (by decide), Array.getElem?_setIfInBounds, if_pos rfl, if_pos (by rw [zeros_job]; decide)]
    · rw [Array.getElem?_setIfInBounds, if_pos rfl, if_pos (by rw [Array.size_setIfInBounds, zeros_job]; decide)]
    · rw [Array.getElem?_setIfInBounds, if_neg (by decide), Array.getElem?_setIfInBounds, if_neg (by decide)]
      kernel_rfl
  have hsz : X.size = 515 := by rw [hX, Array.size_setIfInBounds, Array.size_setIfInBounds, zeros_job]
  have h1c : X.all (·.oneCell') = true := by
    rw [hX]
    exact all_set (all_set zero_job_one 0 rfl) 1 rfl
  have HII := hide (show (Tryz.prog.info? 129).map (·.size) = some X.size by rw [hsz]; exact info_job)
  have HZ := hide (show Tryz.zeroCells129.size = X.size by rw [hsz]; exact zeros_job)
  have H1 := hide h1c
  have HJ := hide hJ
  clear hX hJ hsz h1c
  go_enter Tryz.func44, Tryz.ntmps44
  go_wp2_with (refine wpList_store_row rfl 129 (.tmp 5) (.tmp 10) rfl w.heap.size X rfl (by rw [HX.out]; rfl) 129 _ (Blk.new w _ _) HII.out HZ.out H1.out ?_)
  refine nameW (w := World.setRow _ w.heap.size X) (R := fun W => Calls Tryz.prog _ _ W _) (fun W2 hW2 => ?_)
  have kj2 : Blk W2 w.heap.size 129 X := by
    rw [hW2]
    exact setRow_heap _ w.heap.size _ _ _ _ (Blk.new w _ _)
  have hb2 : Below w.heap.size w W2 := by
    rw [hW2]
    exact (touch_setRow _ w.heap.size X).below ((Below.refl w.heap.size w).alloc (Nat.le_refl _) _) (Nat.le_refl _)
  have hdl := HK.out.lt
  have hz2 := kj2.lt
  clear hW2
  refine (spansF_any fs d 0 sv mv none 0 0 stale 0 0 fuse o W2 (by omega) (by omega) (by omega) (by omega) (by omega) (Blk.via hb2 HK.out)).mono ?_
  rintro e W3 ⟨rfl, hb3⟩
  go_wp2_with fail
  have kj3 := Blk.via hb3 kj2
  have kd3 := Blk.via hb3 (Blk.via hb2 HK.out)
  have hz3 := hb3.size
  have hb4 : Below W3.heap.size W3 (W3.alloc (.cells #[.pointer (some ⟨d, 0, none⟩)] 28)) := (Below.refl _ _).alloc (Nat.le_refl _) _
  have kd4 := Blk.via hb4 kd3
  have kb4 := Blk.new W3 28 #[.pointer (some ⟨d, 0, none⟩)]
  have hact := jobCutF_any fs w.heap.size d (.slice none 0 0) sv mv stale fuse o (W3.alloc (.cells #[.pointer (some ⟨d, 0, none⟩)] 28)) kd4 X (Blk.via hb4 kj3) HJ.out
  have hR : DoRF W3.heap.size d fs fuse (fun W => Blk W d 107 (devF fs sv mv (.slice none 0 0) stale 0 0 fuse o) ∧ Turn (fun k => k = d) (W3.alloc (.cells #[.pointer (some ⟨d, 0, none⟩)] 28)) W) := by
    rintro W ⟨g1, g3⟩
    exact ⟨(g3.block _ kb4.lt (by omega)).trans kb4, _, o, g1, rfl, rfl, rfl⟩
  have HD := hide (doF_any d 110 (.pointer (some ⟨w.heap.size, 0, none⟩)) _ fs fuse _ W3 kd3 rfl rfl rfl HFU.out hR (fun W => by simp [go_sem]) hact)
  have HF := hide (show ∀ w', (∃ W, (Blk W d 107 (devF fs sv mv (.slice none 0 0) stale 0 0 fuse o) ∧ Turn (fun k => k = d) (W3.alloc (.cells #[.pointer (some ⟨d, 0, none⟩)] 28)) W) ∧ doneW fs d fuse W w') → CutPF fs w d sv mv stale fuse (.returned (.int .i64 0)) w' from by
    rintro w' ⟨W, ⟨g1, g3⟩, hd⟩
    have hT : Turn (fun k => k = d) w W := (Turn.of_below hb2).trans ((Turn.of_below hb3).trans ((Turn.of_below hb4).trans g3))
    obtain ⟨o', k'⟩ := doneW.dev hd g1
    exact ⟨rfl, o', k', hT.trans (doneW.turn hd)⟩)
  clear hact hR kb4 kd4 hb4 kd3 kj3 hb3 hb2 kj2
  refine HD.out.mono ?_
  rintro e w' ⟨rfl, hw'⟩
  have HL := hide (HF.out w' hw')
  clear hw'
  go_wp2
  go_ret
  exact HL.out
theorem walEndF_any (fs : Bool) (l d : Nat) (limit kept forced : Int) (m : Nat) (pv sv mv : Value) (A : Option Addr) (n c : Nat) (stale head sure fuse o : Int) (w : World) (hh : 0 ≤ head) (hh2 : head ≤ 100000000) (hn : n ≤ 100000000) (kl : Blk w l 97 (logC d limit kept forced m pv)) (kd : Blk w d 107 (devF fs sv mv (.slice A n c) stale head sure fuse o)) :
    Calls Tryz.prog 45 #[.pointer (some ⟨l, 0, none⟩)] w fun e w' => e = .returned (.int .i64 (head + n)) ∧ Below w.heap.size w w' := by
  have HD := hide (devEndF_any fs d sv mv A n c stale head sure fuse o w hh hh2 hn kd)
  have c0 : w.cell? ⟨l, 0, none⟩ = some _ := kl.cell 0
  clear kl kd
  go_enter Tryz.func45, Tryz.ntmps45
  go_wp2_with (refine HD.out.mono ?_; rintro e w1 ⟨rfl, hb1⟩)
  go_ret
  exact ⟨rfl, hb1⟩
end Go.Proofs.YtnanlaefehaifaaGreat
namespace Go.Proofs.YtnanlaefehaifaaGreat
open Go.RowKit Go.Shelf Go.Maps
attribute [local go_sem] Oper.semAt_some
def LoadPF (fs : Bool) (w : World) (d : Nat) (limit : Int) (sv mv : Value) (stale fuse : Int) (e : Ending) (w' : World) : Prop :=
  ∃ l m o', e = .returned (.tuple #[.pointer (some ⟨l, 0, none⟩), .int .i64 0]) ∧ Blk w' l 97 (logC d limit 0 0 m (.slice none 0 0)) ∧ MapF w' m 0 (fun _ => none) ∧ Blk w' d 107 (devF fs sv mv (.slice none 0 0) stale 0 0 (if fs = true then fuse - 1 else fuse) o') ∧ w.heap.size ≤ l ∧ w.heap.size ≤ m ∧ Turn (fun q => q = d) w w'
theorem walLoadF_any (fs : Bool) (d : Nat) (limit : Int) (sv mv : Value) (stale fuse o : Int) (w : World) (h1 : 1 ≤ limit) (h2 : limit ≤ 1048576) (hfu : fs = true → 0 < fuse ∧ fuse ≤ 9223372036854775807) (k : Blk w d 107 (devF fs sv mv (.slice none 0 0) stale 0 0 fuse o)) :
    Calls Tryz.prog 7 #[.pointer (some ⟨d, 0, none⟩), .int .i64 limit] w (LoadPF fs w d limit sv mv stale fuse) := by
  have hmm := @run_makeMap Tryz.prog
  have HK := hide k
  have HFU := hide hfu
  have ld := k.lt
  clear k hfu
  refine (callsIn_wide (n := 9)).1 ?_
  refine callsIn_of_wp_marks Tryz.func7 rfl trivial ?_ rfl
  simp only [Tryz.ntmps7, List.size_toArray, List.length_cons, List.length_nil, Nat.reduceAdd, Nat.reduceSub, Array.replicate_succ, Array.replicate_zero, List.push_toArray, List.append_toArray, List.nil_append, List.cons_append]
  gi_upto_region 6 with (fail)
  refine gen4N (R := fun W => Code.wpIn _ _ _ _ _ _ W) (fun W1 kM kX kB hb1 hz1 => ?_)
  have HM1 := hide kM
  have HX1 := hide kX
  have HB1 := hide kB
  have HL1 := hide hb1
  have HHD := hide (devHeadF_any fs d sv mv (.slice none 0 0) stale 0 0 fuse o W1 (Blk.via hb1 HK.out))
  clear kM kX kB hb1
  gi_upto_region 7 with (refine ⟨trivial, ?_⟩; gi_at_call 40; refine (callsIn_wide.2 HHD.out).mono ?_; rintro e w' ⟨rfl, hw'⟩; obtain rfl := hw'.symm)
  refine gen1 (R := fun W => Code.wpIn _ _ _ _ _ _ W) (fun W2 kE hb2 hz2 => ?_)
  have HLG := hide (devLogF_any fs d sv mv stale 0 0 fuse o W2 (Blk.via hb2 (Blk.via HL1.out HK.out)))
  have HREC := hide (fun A c W => records_any A c W)
  have HE2 := hide kE
  have HL2 := hide hb2
  clear kE hb2
  gi_wp2_with (refine ⟨trivial, ?_⟩; first
    | (gi_at_call 42; refine (callsIn_wide.2 HLG.out).mono ?_; rintro e W3 ⟨⟨A3, c3, rfl⟩, hb3⟩)
    | (gi_at_call 41; refine (callsIn_wide.2 (HREC.out _ _ _)).mono ?_; rintro e w' ⟨rfl, hw'⟩; obtain rfl := hw'.symm))
  have HW2 := hide (Blk.via hb3 HE2.out)
  have hl2 : Below w.heap.size w W2 := HL1.out.trans (HL2.out.mono HL1.out.size)
  have hl3 : Below w.heap.size w W3 := hl2.trans (hb3.mono hl2.size)
  have h13 : Below W1.heap.size W1 W3 := HL2.out.trans (hb3.mono HL2.out.size)
  have HB3 := hide h13
  have HL3 := hide hl3
  have hs1 := HL2.out.size
  have hs2 := hb3.size
  have hs3 := HL1.out.size
  have hE3 := HE2.out.lt
  clear hl2 hl3 h13 hb3
  have hp3 := Blk.new W3 33 #[.slice A3 0 c3]
  refine wpIn_rangeFunc_ownH (α := Empty) (encs := fun x => x.elim) (Kp := fun _ _ => True) (S := fun xs => xs = []) (Sp := fun _ => False) (N := 0) (w0 := W3.alloc (.cells #[.slice A3 0 c3] 33)) rfl (by omega) (gf := 106) (lb := #[.pointer (some ⟨W3.heap.size, 0, none⟩)]) rfl trivial (enters_of Tryz.func106 (by kernel_rfl) rfl) ?seq
    (fun _ _ => trivial) (fun _ _ _ _ _ _ _ _ => trivial) (Below.refl _ _) (fun x => x.elim)
    (fun _ W => Below W1.heap.size W1 W ∧ Blk W W1.heap.size 3 #[.int .i64 0]) (fun _ _ _ => False) ?own (fun _ _ _ _ _ hs _ _ => hs) ?start (fun x _ _ => x.elim) (fun x _ => x.elim) ?assign ?body ?done ?stop
  case seq =>
    intro lp J Jx W hW hJ _ _ h0
    refine (records1_in 8 (by omega) lp W3.heap.size A3 c3 W (Blk.via hW hp3)).mono ?_
    rintro e W' ⟨hv, hb⟩
    exact ⟨hv, .inl ⟨[], rfl, hJ [] W W' none h0 ⟨hb.os, hb.tape, hb.output, hb.size, fun q hq _ => hb.block q hq⟩ (fun r e => by cases e)⟩⟩
  case own =>
    rintro hs W W' row ⟨k1, k2⟩ hg hr
    exact ⟨k1.grown hg k1.size (fun q hq => by have := (hr q hq).1; simp at this; omega), k2.grown hg (nc_ne hr k2)⟩
  case start => exact ⟨HB3.out.alloc HB3.out.size _, HW2.out.alloc _⟩
  case assign => intro _ _ x; exact x.elim
  case body => intro _ _ x; exact x.elim
  case stop => rintro _ _ _ _ _ hF _ _; exact hF.elim
  case done =>
    rintro D xs W hD hS ⟨i1, i2⟩ hK
    have kd := Blk.via i1 (Blk.via HL1.out HK.out)
    have hww : Below w.heap.size w W := HL1.out.trans (i1.mono HL1.out.size)
    have kX := Blk.via i1 HX1.out
    have kB := Blk.via i1 HB1.out
    have kM := World.ownsMap.kept' HM1.out i1
    have q1 := i2.cell 0
    have l1 := i2.lt
    have HC := hide (devCutF_any fs d sv mv stale fuse o W HFU.out kd)
    have HKM := hide kM
    have HKX := hide kX
    have HKB := hide kB
    have HWW := hide hww
    have HKD := hide kd
    have HKK := hide hK
    have hDl : D < W.heap.size := (Array.getElem?_eq_some_iff.1 hK).1
    have hDW : d < D := by simp at hD; omega
    have hDW2 : w.heap.size + 1 + 1 < D := by simp at hD; omega
    clear kM kX kB hww kd hK i1 i2 hS
    dsimp only
    gi_upto_region 13 with (refine ⟨trivial, ?_⟩; gi_at_call 44; refine (callsIn_wide.2 HC.out).mono ?_; rintro e W4 ⟨rfl, o4, hd4, ht4⟩)
    gi_upto_region 15 with (fail)
    have g4 : ∀ q, q < W.heap.size → q ≠ d → W4.heap[q]? = W.heap[q]? := fun q hq hne => ht4.block q hq hne
    have kX4 : Blk W4 (w.heap.size + 1) 97 (logC d limit 0 0 w.heap.size (.slice none 0 0)) := (g4 _ HKX.out.lt (by omega)).trans HKX.out
    have kB4 : Blk W4 (w.heap.size + 1 + 1) 24 #[.pointer (some ⟨w.heap.size + 1, 0, none⟩)] := (g4 _ HKB.out.lt (by omega)).trans HKB.out
    have kM4 := HKM.out.kept (g4 _ HKM.out.lt (by omega))
    have hD4 : W4.heap[D]? = some (.deferred (some [])) := (g4 _ hDl (by omega)).trans HKK.out
    have hDn := HKX.out.lt
    have KX4 := hide kX4
    have KB4 := hide kB4
    have KM4 := hide kM4
    have KD4 := hide hd4
    have HD4 := hide hD4
    have HT4 := hide ht4
    have HEN := hide (fun W5 (hb : Below W4.heap.size W4 W5) => walEndF_any fs (w.heap.size + 1) d limit 0 0 w.heap.size (.slice none 0 0) sv mv none 0 0 stale 0 0 (if fs = true then fuse - 1 else fuse) o4 W5 (by omega) (by omega) (by omega) (Blk.via hb kX4) (Blk.via hb hd4))
    clear kX4 kB4 kM4 hd4 hD4 ht4 g4 q1 l1
    refine wpIn_wide.2 ?_
    refine wp_region_inv_tail 5 [fun v _ => v = .pointer (some ⟨w.heap.size + 1, 0, none⟩), fun v _ => v = .pointer (some ⟨w.heap.size + 1, 0, none⟩), fun v _ => v = .int .i64 0, fun v _ => v = .pointer (some ⟨w.heap.size + 1, 0, none⟩), fun v _ => v = .pointer (some ⟨w.heap.size + 1, 3, none⟩)] (by kernel_rfl) (by kernel_rfl) (by kernel_rfl) (by kernel_rfl) (by kernel_rfl) (by first | simp | decide) (by kernel_rfl) ?st ?steps ?fin
    case st =>
      intro i v W W' hWW h
      match i with
      | 0 | 1 | 2 | 3 | 4 => exact h
      | (i + 5) => exact h
    case steps =>
      simp only [stepsT, List.take_succ_cons, List.take_zero]
      refine ⟨?_, ?_, ?_, ?_, ?_, trivial⟩
      · intro f W hbW hdp
        have q : W.cell? ⟨w.heap.size + 1 + 1, 0, none⟩ = some (.pointer (some ⟨w.heap.size + 1, 0, none⟩)) := (Blk.via hbW KB4.out).cell 0
        simp only [fS, Nat.reduceAdd]
        go_wp2
        exact ⟨rfl, _, rfl, rfl, Below.refl _ _⟩
      · intro f W hbW hdp
        have q : W.cell? ⟨w.heap.size + 1 + 1, 0, none⟩ = some (.pointer (some ⟨w.heap.size + 1, 0, none⟩)) := (Blk.via hbW KB4.out).cell 0
        simp only [fS, Nat.reduceAdd]
        go_wp2
        exact ⟨rfl, _, rfl, rfl, Below.refl _ _⟩
      · intro f W hbW hdp
        have e1 : f 1 = .pointer (some ⟨w.heap.size + 1, 0, none⟩) := hdp ⟨1, .data⟩ (mfl (by simp) rfl)
        simp only [fS, Nat.reduceAdd, e1]
        go_wp2_with (go_at_call 45; refine (HEN.out _ hbW).mono ?_; rintro e w' ⟨rfl, hb'⟩)
        exact ⟨rfl, _, rfl, rfl, hb'⟩
      · intro f W hbW hdp
        have e0 : f 0 = .pointer (some ⟨w.heap.size + 1, 0, none⟩) := hdp ⟨0, .data⟩ (mfl (by simp) rfl)
        simp only [fS, Nat.reduceAdd, e0]
        go_wp2
        exact ⟨rfl, _, rfl, rfl, Below.refl _ _⟩
      · intro f W hbW hdp
        have e3 : f 3 = .pointer (some ⟨w.heap.size + 1, 0, none⟩) := hdp ⟨3, .data⟩ (mfl (by simp) rfl)
        simp only [fS, Nat.reduceAdd, e3]
        go_wp2
        exact ⟨rfl, _, rfl, rfl, Below.refl _ _⟩
    case fin =>
      intro f W hbW hA
      have e2 : f 2 = .int .i64 0 := hA 2 (by omega)
      have e4 : f 4 = .pointer (some ⟨w.heap.size + 1, 3, none⟩) := hA 4 (by omega)
      simp only [List.drop_succ_cons, List.drop_zero, List.take_succ_cons, List.take_zero, fillF, Act.put, List.setIfInBounds_toArray, List.set_cons_succ, List.set_cons_zero, Nat.reduceAdd, e2, e4]
      clear hA e2 e4
      have kx := Blk.via hbW KX4.out
      have lx := kx.lt
      have fx := kx.frozen 3
      have cx := kx.cell 3
      have kb := Blk.via hbW KB4.out
      have hne2 : w.heap.size + 1 + 1 ≠ w.heap.size + 1 := by omega
      have kb5 : Blk (W.setCell ⟨w.heap.size + 1, 3, none⟩ (.int .i64 0)) (w.heap.size + 1 + 1) 24 #[.pointer (some ⟨w.heap.size + 1, 0, none⟩)] := kb.far hne2 _
      have qb := kb5.cell 0
      have lb := kb5.lt
      have KX5 := hide kx
      have HBW5 := hide hbW
      clear kx hbW kb kb5
      go_wp2_with fail
      gi_wp2_with fail
      have hD5 : D < W4.heap.size := (Array.getElem?_eq_some_iff.1 HD4.out).1
      have hDk : (W.setCell ⟨w.heap.size + 1, 3, none⟩ (.int .i64 0)).heap[D]? = some (.deferred (some [])) := (Below.heap_setCell _ _ _ _ (by simp; omega)).trans ((HBW5.out.block D hD5).trans HD4.out)
      have hT5 : Turn (fun q => q = d) w (W.setCell ⟨w.heap.size + 1, 3, none⟩ (.int .i64 0)) := Turn.set (S := fun q => q = d) (((Turn.of_below HWW.out).trans HT4.out).trans (Turn.of_below HBW5.out)) (p := ⟨w.heap.size + 1, 3, none⟩) (.inr (by simp)) _
      have kx6 := KX5.out.set_ 3 (.int .i64 0)
      have kd6 := (Blk.via HBW5.out KD4.out).far (p := ⟨w.heap.size + 1, 3, none⟩) (by simp; omega) (.int .i64 0)
      have km6 := (KM4.out.kept (HBW5.out.block _ KM4.out.lt)).kept (W' := W.setCell ⟨w.heap.size + 1, 3, none⟩ (.int .i64 0)) (Below.heap_setCell _ _ _ _ (by simp))
      generalize W.setCell ⟨w.heap.size + 1, 3, none⟩ (.int .i64 0) = W6 at *
      have hg6 := grownBy_putObj' W6 D (.deferred none)
      refine leave_mark (v := .tuple #[.pointer (some ⟨w.heap.size + 1, 0, none⟩), .int .i64 0]) hDk (by simp [results, Tryz.results7, go_sem]) ⟨w.heap.size + 1, w.heap.size, o4, rfl, (World.putObj_heap_other (by omega)).trans kx6, km6.kept (World.putObj_heap_other (by omega)), (World.putObj_heap_other (by omega)).trans kd6, by omega, Nat.le_refl _, ?_⟩
      exact ⟨hg6.os.trans hT5.os, hg6.tape.trans hT5.tape, hg6.output.trans hT5.output, Nat.le_trans hT5.size hg6.size, fun q hq hn => (hg6.block q (Nat.lt_of_lt_of_le hq hT5.size) (fun e => by injection e with e; omega)).trans (hT5.block q hq hn)⟩
end Go.Proofs.YtnanlaefehaifaaGreat
namespace Go.Proofs.YtnanlaefehaifaaGreat
open Go.RowKit Go.Maps
def poolC (d l : Nat) (frames : Int) (fv : Value) : Array Value := #[.pointer (some ⟨d, 0, none⟩), .iface 24 (.pointer (some ⟨l, 0, none⟩)), .int .i64 frames, fv]
theorem poolNew_any (d l : Nat) (f : Int) (w : World) (h1 : 1 ≤ f) (h2 : f ≤ 64) : Calls Tryz.prog 76 #[.pointer (some ⟨d, 0, none⟩), .iface 24 (.pointer (some ⟨l, 0, none⟩)), .int .i64 f] w fun e w' => ∃ p, e = .returned (.pointer (some ⟨p, 0, none⟩)) ∧ Blk w' p 209 (poolC d l f (.slice none 0 0)) ∧ w.heap.size ≤ p ∧ Below w.heap.size w w' := by
  have m1 : max f 1 = f := by omega
  have m2 : min f 64 = f := by omega
  go_enter Tryz.func76, Tryz.ntmps76
  go_wp2
  go_ret
  exact ⟨_, rfl, Blk.new _ _ _, Nat.le_refl _, (Below.refl _ _).alloc (Nat.le_refl _) _⟩
end Go.Proofs.YtnanlaefehaifaaGreat
namespace Go.Proofs.YtnanlaefehaifaaGreat
open Go.RowKit Go.Maps
def sumB (bs : List UInt8) : List UInt8 := beB 4 ((moreD 0 bs : Nat) : Int) ++ bs
def sealB (bs : List UInt8) : List UInt8 := sumB (bs.drop 4)
theorem sumB_length (bs : List UInt8) : (sumB bs).length = 4 + bs.length := by unfold sumB; rw [List.length_append, beB_length]
theorem sealB_length {bs : List UInt8} (h : bs.length = 512) : (sealB bs).length = 512 := by unfold sealB; rw [sumB_length, List.length_drop, h]
theorem sealR2_any (A : Option Addr) (n c : Nat) (bs : List UInt8) (B : Nat) (w : World) (hB : B ≤ w.heap.size) (hm : n ≤ 100000) (hn : n = bs.length) (hr : Reads w B 1 A n (bs.map byteV)) :
    Calls Tryz.prog 66 #[.slice A n c] w fun e w' => ∃ A' c', e = .returned (.slice A' (4 + n) c') ∧ OwnB w' w.heap.size (.slice A' (4 + n) c') (sumB bs) ∧ Below w.heap.size w w' := by
  have HM := hide (moreR_any 0 A n c bs B w (by omega) (by omega) hn hr)
  have hlt : moreR 0 bs < 4294967296 := by unfold moreR; omega
  have HR := hide hr
  have HN := hide hn
  have HSB := hide (show sumB bs = beB 4 ((moreR 0 bs : Nat) : Int) ++ bs by unfold sumB; rw [moreD_eq])
  have HBY := hide (fun (x : Int) W => bytesR_any 4 x (by omega) W)
  generalize moreR 0 bs = v at *
  clear hr hn
  go_enter Tryz.func66, Tryz.ntmps66
  go_wp2_with (first
    | (go_at_call 131; refine HM.out.mono ?_; rintro e w' ⟨rfl, hw'⟩; obtain rfl := hw'.symm)
    | (go_at_call 61; refine (HBY.out _ _).mono ?_; rintro e W1 ⟨⟨A1, c1, rfl, ho⟩, hb⟩)
    | (at_builtin; refine heldG ?_))
  refine unheldG ?_
  at_builtin
  have hz := hb.size
  refine wpList_app rfl _ _ rfl w.heap.size _ 4 _ _ rfl ho (by rw [beB_length]) B A n c bs rfl (HR.out.below hb hB) HN.out (by omega) w hb hz ?_
  intro A4 c4 W4 ho4 hl4 hg4
  have HO := hide ho4
  have HL := hide hl4
  clear ho4 hl4 hg4 ho hb
  go_wp2
  go_ret
  exact ⟨A4, c4, rfl, by rw [HSB.out]; exact HO.out, HL.out⟩
theorem sealR_any (A : Option Addr) (c : Nat) (bs : List UInt8) (B : Nat) (w : World) (hB : B ≤ w.heap.size) (hc : 512 ≤ c) (hl : bs.length = 512) (hr : Reads w B 1 A 512 (bs.map byteV)) :
    Calls Tryz.prog 24 #[.slice A 512 c] w fun e w' => ∃ A' c', e = .returned (.slice A' 512 c') ∧ OwnB w' w.heap.size (.slice A' 512 c') (sealB bs) ∧ Below w.heap.size w w' := by
  obtain ⟨b, o, rfl, _, _⟩ := hr.plain (by omega) (by omega)
  have hr4 := hr.cut (k := 4) (cap := c) (by omega) (by omega)
  rw [if_neg (by omega), Option.map_some, add_plain] at hr4
  have HS := hide (show Calls Tryz.prog 66 #[.slice (some ⟨b, o + 4, none⟩) 508 (c - 4)] w (fun e w' => ∃ A' c', e = .returned (.slice A' 512 c') ∧ OwnB w' w.heap.size (.slice A' 512 c') (sealB bs) ∧ Below w.heap.size w w') from sealR2_any (some ⟨b, o + 4, none⟩) 508 (c - 4) (bs.drop 4) B w hB (by omega) (by rw [List.length_drop, hl]) (by rw [List.map_drop]; simpa using hr4))
  have g1 : (4 : Int) ≤ 512 := by omega
  have g3 : ¬ (c = 4) := by omega
  clear hr hr4 hl
  go_enter Tryz.func24, Tryz.ntmps24
  go_wp2_with (go_at_call 66; refine HS.out.mono ?_; rintro e W1 ⟨A1, c1, rfl, ho, hb⟩)
  go_ret
  exact ⟨A1, c1, rfl, ho, hb⟩
def arrK (bs : List UInt8) (k : Nat) : Array Value := ((bs.take k ++ List.replicate (512 - k) 0).map byteV).toArray
theorem arrK_size (bs : List UInt8) (hl : bs.length = 512) (k : Nat) (hk : k ≤ 512) : (arrK bs k).size = 512 := by
  unfold arrK
  rw [List.size_toArray, List.length_map, List.length_append, List.length_take, List.length_replicate]
  omega
theorem arrK_succ (bs : List UInt8) (hl : bs.length = 512) (k : Nat) (hk : k < 512) (x : UInt8) (hx : bs[k]? = some x) : (arrK bs k).setIfInBounds k (byteV x) = arrK bs (k + 1) := by
  refine Array.ext (by rw [Array.size_setIfInBounds, arrK_size bs hl k (by omega), arrK_size bs hl (k + 1) (by omega)]) (fun i h1 h2 => ?_)
  have e : ((arrK bs k).setIfInBounds k (byteV x))[i]? = (arrK bs (k + 1))[i]? := by
    rw [Array.getElem?_setIfInBounds]
    have hs := arrK_size bs hl k (by omega)
    unfold arrK at hs ⊢
    have ht : (bs.take k).length = k := by rw [List.length_take]; omega
    have ht2 : (bs.take (k + 1)).length = k + 1 := by rw [List.length_take]; omega
    split
    · rename_i hki
      subst hki
      rw [if_pos (by omega), List.getElem?_toArray, List.getElem?_map, List.getElem?_append_left (by omega), List.getElem?_take, if_pos (by omega), hx]
      rfl
    · rename_i hki
      rw [List.getElem?_toArray, List.getElem?_toArray, List.getElem?_map, List.getElem?_map]
      congr 1
      rcases Nat.lt_or_ge i k with h | h
      · rw [List.getElem?_append_left (by omega), List.getElem?_append_left (by omega), List.getElem?_take, List.getElem?_take, if_pos h, if_pos (by omega)]
      · rw [List.getElem?_append_right (by omega), List.getElem?_append_right (by omega), ht, ht2, List.getElem?_replicate, List.getElem?_replicate]
        have : i < 512 := by rw [Array.size_setIfInBounds, arrK_size bs hl k (by omega)] at h1; exact h1
        rw [if_pos (by omega), if_pos (by omega)]
  rw [Array.getElem?_eq_getElem h1, Array.getElem?_eq_getElem h2] at e
  exact Option.some.inj e
theorem arrK_full (bs : List UInt8) (hl : bs.length = 512) : arrK bs 512 = (bs.map byteV).toArray := by
  unfold arrK
  rw [List.take_of_length_le (by omega), Nat.sub_self, List.replicate_zero, List.append_nil]
theorem arrK_zero (bs : List UInt8) : arrK bs 0 = Tryz.zeroCells62 := by
  unfold arrK
  rw [List.take_zero, List.nil_append]
  kernel_rfl
theorem info_arr : (Tryz.prog.info? 62).map (·.size) = some 512 := by kernel_rfl
theorem arrayR_any (A : Option Addr) (c : Nat) (bs : List UInt8) (B : Nat) (w : World) (hB : B ≤ w.heap.size) (hl : bs.length = 512) (hr : Reads w B 1 A 512 (bs.map byteV)) :
    Calls Tryz.prog 23 #[.slice A 512 c] w fun e w' => e = .returned (pgV bs) ∧ Below w.heap.size w w' := by
  obtain ⟨b, o, rfl, hbB, hcell⟩ := hr.plain (by omega) (by omega)
  have HC := hide (fun (W : World) (hb : Below w.heap.size w W) (k : Nat) (x : UInt8) (hx : bs[k]? = some x) => (show W.cell? ⟨b, o + k, none⟩ = some (.int .u8 ((x.toNat : Nat) : Int)) from (hb.cell (p := ⟨b, o + k, none⟩) (by show b < w.heap.size; omega)).trans (hcell k (byteV x) (by rw [List.getElem?_map, hx]; rfl))))
  have HL := hide hl
  have HZ0 := hide (arrK_zero bs)
  have HAI := hide (show (Tryz.prog.info? 62).map (·.size) = some ((bs.map byteV).toArray).size by rw [pg_size bs hl]; exact info_arr)
  have HAZ := hide (show Tryz.zeroCells62.size = ((bs.map byteV).toArray).size by rw [pg_size bs hl, ← arrK_zero bs, arrK_size bs hl 0 (by omega)])
  have H1 := hide (row_one bs)
  clear hr hcell hl
  go_enter Tryz.func23, Tryz.ntmps23
  go_upto_region 2 with (fail)
  refine gen2 (R := fun W => Code.wp _ _ _ _ W) (fun W1 kR kO hb1 hz1 => ?_)
  rw [← HZ0.out] at kO
  have HKR := hide kR
  have HKO := hide kO
  have HL1 := hide hb1
  clear kR kO hb1
  go_wp2
  go_loopw [4] (fun iv wr => ∃ k : Nat, k ≤ 512 ∧ iv = .int .i64 k ∧ Hid (Blk wr (w.heap.size + 1) 62 (arrK bs k)) ∧ Hid (Blk wr w.heap.size 62 Tryz.zeroCells62) ∧ Hid (Below w.heap.size w wr)) (fun iv _ => 512 - (intOf iv).toNat)
  case atStart => exact ⟨0, by omega, rfl, HKO, HKR, HL1⟩
  case round =>
    obtain ⟨k, hk, rfl, hO, hR, hL⟩ := hrel
    by_cases hlt : (k : Int) < 512
    · obtain ⟨x, hx⟩ : ∃ x, bs[k]? = some x := ⟨_, List.getElem?_eq_getElem (by have := HL.out; omega)⟩
      have hc := HC.out wr hL.out k x hx
      have hxl := x.toNat_lt
      have HS := hide (arrK_succ bs HL.out k (by omega) x hx)
      have hck : wr.cell? ⟨w.heap.size + 1, k, none⟩ = some _ := (hO.out.cell k).trans (Array.getElem?_eq_getElem (by rw [arrK_size bs HL.out k hk]; omega))
      have hfk := hO.out.frozen k
      have hok := hO.out.lt
      have hk0 : (0 : Int) ≤ k := by omega
      have HBX := hide (show byteV x = .int .u8 ((x.toNat : Nat) : Int) from rfl)
      generalize x.toNat = y at *
      clear hx
      go_wp2
      go_roundw
      case rel =>
        refine ⟨k + 1, by omega, by go_num, ?_, ?_, ?_⟩
        · rw [← HS.out, HBX.out]
          exact hide (hO.out.set_ k _)
        · exact hide (hR.out.far (p := ⟨w.heap.size + 1, k, none⟩) (by simp) _)
        · exact hide (hL.out.setCell (p := ⟨w.heap.size + 1, k, none⟩) (Nat.le_succ _) _)
      case measure => simp [intOf]; omega
    · obtain rfl : k = 512 := by omega
      have HO := hide (arrK_full bs HL.out ▸ hO.out)
      have hok := hO.out.lt
      generalize hX : (bs.map byteV).toArray = X at *
      go_wp2_with (first
        | (refine wpList_load_row rfl 62 (.tmp 3) rfl (w.heap.size + 1) rfl 62 X (0, 0) _ HO.out Tryz.underlying62 rfl HAI.out ?_)
        | (refine wpList_store_row rfl 62 (.tmp 2) (.tmp 21) rfl w.heap.size X rfl rfl 62 _ hR.out HAI.out HAZ.out H1.out ?_))
      refine bodyPost_ret (results_cell_row Tryz.results23 _ _ w.heap.size 62 X (0, 0) _ rfl (setRow_heap _ w.heap.size _ _ _ _ hR.out) Tryz.underlying62 rfl HAI.out) rfl ⟨by rw [← hX]; rfl, ?_⟩
      exact (touch_setRow _ w.heap.size X).below hL.out (Nat.le_refl _)
end Go.Proofs.YtnanlaefehaifaaGreat
namespace Go.Proofs.YtnanlaefehaifaaGreat
open Go.RowKit Go.Maps
theorem rightE_yes {bs : List UInt8} {no : Int} (h : rightP bs no = true) : rightE bs no = 0 := by
  unfold rightE
  rw [if_pos h]
end Go.Proofs.YtnanlaefehaifaaGreat
namespace Go.Proofs.YtnanlaefehaifaaGreat
open Go.RowKit Go.Maps
theorem metaG_conf {bs : List UInt8} {x : ConfD} {u : Int} (h : metaG bs = some (x, u)) : confOk x = true := by
  unfold metaG at h
  split at h
  · rename_i hc
    injection h with h
    injection h with h1 h2
    rw [← h1]
    exact hc.2.2.1
  · cases h
theorem confOk_l {x : ConfD} (h : confOk x = true) : 4 ≤ x.l ∧ x.l ≤ 1024 ∧ 4 ≤ x.f ∧ x.f ≤ 64 := by
  unfold confOk at h
  have h := of_decide_eq_true h
  exact ⟨h.2.2.2.2.2.2.2.2.1, h.2.2.2.2.2.2.2.2.2, h.2.2.2.2.1, h.2.2.2.2.2.1⟩
end Go.Proofs.YtnanlaefehaifaaGreat
