/-
  Texts of this claim, joined: ZK, ZKA, ZKB, ZKC, ZL, CB, Open, OpenV.
-/
import Derived.Deep.Slices
import Derived.ChangeShapes
import Derived.ProofKit
import Derived.OpenShut
import Derived.Test.YtdbgppknggaooaaGreatDoorBk16
set_option maxHeartbeats 6400000
set_option maxRecDepth 100000
namespace Go.Proofs.YtdbgppknggaooaaGreatDoor.Vm
open Go Go.RowKit
def bkH : List (Nat × AObj) := [(1, .row 100 [.bytes 1536 21182723078321149957346731499323912330264973046098408983948649172600161973601779125655948087441272934893739832951375010755644541392302504424156445749685258704899718305307014350705633059561814518771747610933312484082004118588049619785703894308858136992565490875961027306541762659075890794169089111173542738647373784671436948016281138018295177136915796766263338572478036089069209331363286103195906089958583173285525918981111185530872015992477751160003736073177819112270107479684756449984190291319201992343326943246117348036778816994061383514152745648535505637865138075530416267150478750996970375567442610277088037116152809708346652054204680885642446657619845737371740039035600254153177515585827177378520565601144003907729698956125383817892892654955198177429922715963631100872726163415495708321199036554488635265405805248084466605995570571721291906151487844001081914742903319306580837329644789687611554160687084765662267644975247144907621847076252142980680865317649763755383246333031697737798311247223356105015927320986049210946242119056451023030513271449637614014303900438794663319953693685231215399077835696271215221821391319547120151159296052395029912972318398206268822433559948584964758121674890061060495243649406935950546565551674199645402064190688242855902728050]),
  (2, .map [] 2),
  (3, .row 118 [.slice 1 0 3 (some 3) 512, .map 2, .nilslice, .int .i64 0, .int .i64 0, .int .i64 0, .bool false, .int .i64 0, .bool false, .int .i64 5]),
  (155, .map [] 0),
  (156, .row 90 [.ptr 3 0, .int .i64 4096, .int .i64 0, .int .i64 0, .map 155, .nilslice]),
  (170, .row 231 [.ptr 3 0, .iface 52 (.ptr 156 0), .int .i64 4, .nilslice]),
  (171, .map [] 0),
  (172, .map [] 0),
  (173, .map [] 0),
  (174, .map [] 0),
  (175, .row 151 [.map 171, .map 172, .map 173, .map 174]),
  (176, .map [] 0),
  (177, .map [] 0),
  (178, .row 193 [.map 176, .map 177]),
  (179, .map [] 0),
  (180, .map [] 0),
  (181, .row 235 [.map 179, .map 180]),
  (182, .map [(.int .i64 1, .agg [.int .i64 1, .int .i64 0, .int .i64 0, .int .i64 0], 0)] 1),
  (183, .row 137 [.int .i64 2, .map 182]),
  (184, .row 59 [.ptr 3 0, .int .i64 1, .int .i64 3, .int .i64 4, .int .i64 1, .int .i64 4, .ptr 156 0, .ptr 170 0, .ptr 175 0, .ptr 178 0, .ptr 181 0, .ptr 183 0])]
theorem bkO : cutV [1, 2, 3, 155, 156, 170, 171, 172, 173, 174, 175, 176, 177, 178, 179, 180, 181, 182, 183, 184] ((evN envT 3000).call 8 [.agg [.int .i64 1, .int .i64 3, .int .i64 4, .int .i64 1, .int .i64 4], .int .i64 1] (.mk .nil 0 [] [])) = some (.ptr 184 0, bkH, 186) := by kernel_rfl
noncomputable def bkL : List Code := (flatK (bodyOf Tryz.f3)).drop 8
end Go.Proofs.YtdbgppknggaooaaGreatDoor.Vm
namespace Go.Proofs.YtdbgppknggaooaaGreatDoor.Vm
open Go Go.RowKit
theorem bkRA : endsTrue (endR envT (evN envT 3000) Tryz.f3.results.toList bkL (.mk (ofT 165 [(1, .int .i64 112), (2, .int .i64 1), (11, .ptr 184 0)]) 165 []) (.mk (ofH bkH) 186 [] [])) = true := by kernel_rfl
end Go.Proofs.YtdbgppknggaooaaGreatDoor.Vm
namespace Go.Proofs.YtdbgppknggaooaaGreatDoor.Vm
open Go Go.RowKit
theorem bkRB : endsTrue (endR envT (evN envT 3000) Tryz.f3.results.toList bkL (.mk (ofT 165 [(1, .int .i64 112), (2, .but .i64 [1]), (11, .ptr 184 0)]) 165 []) (.mk (ofH bkH) 186 [] [])) = true := by kernel_rfl
end Go.Proofs.YtdbgppknggaooaaGreatDoor.Vm
namespace Go.Proofs.YtdbgppknggaooaaGreatDoor.Vm
open Go Go.RowKit
theorem bkRC : endsTrue (endR envT (evN envT 3000) Tryz.f3.results.toList bkL (.mk (ofT 165 [(1, .but .i64 [112]), (2, .any), (11, .ptr 184 0)]) 165 []) (.mk (ofH bkH) 186 [] [])) = true := by kernel_rfl
end Go.Proofs.YtdbgppknggaooaaGreatDoor.Vm
namespace Go.Proofs.YtdbgppknggaooaaGreatDoor.Vm
open Go Go.RowKit
noncomputable def okT : Rs AV → Bool
  | .ok v _ => (match v with | .bool b => b | _ => false)
  | .err _ => false
theorem okT_of {x : Rs AV} (h : okT x = true) : ∃ s', x = .ok (.bool true) s' := by
  unfold okT at h
  split at h
  · split at h
    · subst h; exact ⟨_, rfl⟩
    · cases h
  · cases h
theorem live27_run : okT ((evN envT 3000).call 5 [] (.mk .nil 0 [] [])) = true := by kernel_rfl
theorem live27_true (w : World) : Calls Tryz.prog 5 #[] w (fun e w' => e = .returned (.bool true) ∧ Below w.heap.size w w') := by
  obtain ⟨s', h⟩ := okT_of live27_run
  refine (reckoned envOK h (us := #[]) (LRel.nil_iff.2 rfl) w).mono ?_
  rintro e w' ⟨ρ, u, rfl, hv, _, hb⟩
  rw [show u = .bool true from hv]
  exact ⟨rfl, hb⟩
end Go.Proofs.YtdbgppknggaooaaGreatDoor.Vm
namespace Go.Proofs.YtdbgppknggaooaaGreatDoor
open Go.RowKit
def conf27 : Value := .agg #[.int .i64 1, .int .i64 3, .int .i64 4, .int .i64 1, .int .i64 4]
def Opened27 (w : World) (bb o : Nat) (W : World) : Prop := ∃ (ρ : Vm.Ren) (k : Nat), ρ 184 = some (bb, o, k) ∧ Vm.WRel ρ (Vm.ofH Vm.bkH) W ∧ (∀ n, 186 ≤ n → ρ n = none) ∧ ∀ q, Vm.Own (Vm.ofH Vm.bkH) ρ q → w.heap.size ≤ q
theorem open27 (w W : World) (hw : w.heap.size ≤ W.heap.size) : Calls Tryz.prog 8 #[conf27, .int .i64 1] W fun e w' => ∃ bb o, e = .returned (.pointer (some ⟨bb, o, none⟩)) ∧ Opened27 w bb o w' ∧ Below W.heap.size W w' := by
  have one : ∀ {ρ : Vm.Ren} {n : Int} {r : List Vm.AV} {vs : List Value}, Vm.CRel ρ r vs → Vm.CRel ρ (.int .i64 n :: r) (.int .i64 n :: vs) := fun h => Vm.CRel.cons_iff.2 ⟨[_], _, rfl, ⟨rfl, _, rfl, rfl⟩, h⟩
  refine (Vm.calledH Vm.envOK Vm.bkO (us := #[conf27, .int .i64 1]) (Vm.LRel.cons_iff.2 ⟨_, _, rfl, ⟨_, rfl, one (one (one (one (one Vm.CRel.nil))))⟩, Vm.LRel.cons_iff.2 ⟨_, _, rfl, rfl, Vm.LRel.nil_iff.2 rfl⟩⟩) W).mono ?_
  rintro e w' ⟨ρ, u, rfl, ⟨⟨p1, p2, p3⟩, hp, rfl⟩, hw', hf, ho, hb⟩
  exact ⟨p1, p2, rfl, ⟨ρ, p3, hp, hw', hf, fun q hq => Nat.le_trans hw (ho q hq)⟩, hb⟩
theorem rest27 : Vm.flatK (spineC 6 (codeOf Tryz.f3)) = Vm.bkL := by kernel_rfl
theorem backLooks_any (x : RecV) (lsn txn : Int) (B : Nat) (w : World) (hB : B ≤ w.heap.size) (hx : RecOk w B x) : Calls Tryz.prog 3 #[recV x, .int .i64 lsn, .int .i64 txn] w fun e w' => e = .returned (.bool true) ∧ Below w.heap.size w w' := by
  refine looks_pre x lsn txn B w hB hx (Opened27 w) (fun code => Vm.flatK code = Vm.bkL) Vm.live27_true (open27 w) ?_ rest27
  intro code bb o W act hcode ⟨ρ, k, hp, hw, hf, ho⟩ hs h1 h2 h11 hd hb
  have hT : ∀ (a b : Vm.AV), Vm.VRel ρ a (.int .i64 lsn) → Vm.VRel ρ b (.int .i64 txn) → ∀ q ∈ [(1, a), (2, b), (11, Vm.AV.ptr 184 0)], Vm.VRel ρ q.2 (act.tmps.getD q.1 undef) := by
    intro a b ha hb q hq
    simp only [List.mem_cons, List.not_mem_nil, or_false] at hq
    rcases hq with rfl | rfl | rfl
    · rw [h1]; exact ha
    · rw [h2]; exact hb
    · rw [h11]; exact ⟨_, hp, rfl⟩
  by_cases hl : lsn = 112
  · by_cases ht : txn = 1
    · exact Vm.runH Vm.envOK Vm.bkRA hw hf ho (hs.trans rfl) (hT _ _ (by rw [hl]; rfl) (by rw [ht]; rfl)) hd hb hcode
    · exact Vm.runH Vm.envOK Vm.bkRB hw hf ho (hs.trans rfl) (hT _ _ (by rw [hl]; rfl) ⟨_, rfl, by simpa using ht⟩) hd hb hcode
  · exact Vm.runH Vm.envOK Vm.bkRC hw hf ho (hs.trans rfl) (hT _ _ ⟨_, rfl, by simpa using hl⟩ trivial) hd hb hcode
end Go.Proofs.YtdbgppknggaooaaGreatDoor
namespace Go.Proofs.YtdbgppknggaooaaGreatDoor
open Go.RowKit Go.ChangeShapes Go.WideShapes Go.Deep
theorem cells_cell : Tryz.prog.cellsOf 25 = 5 := by kernel_rfl
theorem cells_int : Tryz.prog.cellsOf 3 = 1 := by kernel_rfl
theorem cells_u8 : Tryz.prog.cellsOf 5 = 1 := by kernel_rfl
theorem cells_string : Tryz.prog.cellsOf 9 = 1 := by kernel_rfl
theorem cells_bytes : Tryz.prog.cellsOf 23 = 1 := by kernel_rfl
theorem list_of5 {α : Type} {l : List α} (h : l.length = 5) : ∃ c0 c1 c2 c3 c4, l = [c0, c1, c2, c3, c4] := by
  match l, h with
  | [c0, c1, c2, c3, c4], _ => exact ⟨_, _, _, _, _, rfl⟩
theorem some_of {α : Type} {l : List α} {i n : Nat} {o : Option α} (h : o = l[i]?) (hl : l.length = n) (hi : i < n) : ∃ y, o = some y := ⟨l[i]'(by omega), by rw [h, List.getElem?_eq_getElem]⟩
theorem cell_lt' {w : World} {a : Addr} {n : Nat} {v : Value} (h : w.cell? (a.add n) = some v) : a.block < w.heap.size := by
  have := World.block_lt_of_cell? w _ h
  rwa [block_of_add] at this
theorem byte_back {z : Int} (h : (Lit.int .u8 z).wf = true) : byteV (UInt8.ofNat z.toNat) = .int .u8 z := by
  have hb := bounds_u8 h
  unfold byteV
  congr 1
  simp only [UInt8.toNat_ofNat']
  omega
section
variable {H : Type} {enc : TypeId × Value → H} {w : World} {base : Nat} {spare : Nat → Bool} {held : Bool}
theorem open_bytes {fuel : Nat} {v : Value} {x : DataW H × List MemPlace} (h : DataW.trod enc Tryz.prog w base spare held fuel 23 [v] = some x) : ∃ bs, BytesAt w w.heap.size v bs := by
  rcases open_ints Tryz.underlying23 Tryz.underlying5 cells_u8 h with ⟨hcs, _⟩ | ⟨a, len, cap, zs, hcs, _, hl, hm, hz, _, hcell, hwz⟩
  · injection hcs with hcs
    subst hcs
    exact ⟨[], none, 0, 0, rfl, Nat.le_refl _, Nat.zero_le _, rfl, fun _ => rfl, Reads.none_⟩
  · injection hcs with hcs
    subst hcs
    have hlz : len ≤ zs.length := by rw [hz]; split <;> omega
    refine ⟨(zs.take len).map (fun z => UInt8.ofNat z.toNat), some a, len, cap, rfl, hl, hm, by simp; omega, fun h => (by cases h), by simp; omega, fun hn => ⟨a, rfl, cell_lt' (hcell 0 (by omega)), fun j u hu => ?_⟩⟩
    rw [List.map_map, List.getElem?_map] at hu
    obtain ⟨z, hz1, rfl⟩ := Option.map_eq_some_iff.1 hu
    rw [List.getElem?_take] at hz1
    split at hz1
    · obtain ⟨hj, e⟩ := List.getElem?_eq_some_iff.1 hz1
      rw [hcell j hj]
      have hw := hwz z (e ▸ List.getElem_mem hj)
      simp only [Function.comp_apply, byte_back hw, List.getD, hz1, Option.getD_some]
    · cases hz1
theorem open_cell {fuel : Nat} {cs : List Value} {x : DataW H × List MemPlace} (h : DataW.trod enc Tryz.prog w base spare held fuel 25 cs = some x) :
    ∃ (d : CellD) (dv : Value), cs = cellCells d dv ∧ BytesAt w w.heap.size dv d.data ∧ wfI d.kind ∧ wfI d.lo ∧ wfI d.hi ∧ wfI d.val := by
  obtain ⟨xs, n, _, _, hlen, hxl, hf⟩ := DataW.trod_struct Tryz.underlying25 h
  rw [cells_cell] at hlen
  have hxl' : xs.length = 5 := hxl
  obtain ⟨c0, c1, c2, c3, c4, rfl⟩ := list_of5 hlen
  obtain ⟨y0, j0⟩ := some_of (hf 0 _ rfl) hxl' (by omega)
  have g0 : DataW.trod enc Tryz.prog w base spare held n 3 [c0] = some y0 := by simpa [cells_int] using j0
  obtain ⟨y1, j1⟩ := some_of (hf 1 _ rfl) hxl' (by omega)
  have g1 : DataW.trod enc Tryz.prog w base spare held n 23 [c1] = some y1 := by simpa [cells_bytes] using j1
  obtain ⟨y2, j2⟩ := some_of (hf 2 _ rfl) hxl' (by omega)
  have g2 : DataW.trod enc Tryz.prog w base spare held n 3 [c2] = some y2 := by simpa [cells_int] using j2
  obtain ⟨y3, j3⟩ := some_of (hf 3 _ rfl) hxl' (by omega)
  have g3 : DataW.trod enc Tryz.prog w base spare held n 3 [c3] = some y3 := by simpa [cells_int] using j3
  obtain ⟨y4, j4⟩ := some_of (hf 4 _ rfl) hxl' (by omega)
  have g4 : DataW.trod enc Tryz.prog w base spare held n 3 [c4] = some y4 := by simpa [cells_int] using j4
  obtain ⟨k, e0, _, w0⟩ := DataW.trod_int Tryz.underlying3 g0
  obtain ⟨bs, hbs⟩ := open_bytes g1
  obtain ⟨lo, e2, _, w2⟩ := DataW.trod_int Tryz.underlying3 g2
  obtain ⟨hi, e3, _, w3⟩ := DataW.trod_int Tryz.underlying3 g3
  obtain ⟨va, e4, _, w4⟩ := DataW.trod_int Tryz.underlying3 g4
  simp only [List.cons.injEq, and_true] at e0 e2 e3 e4
  subst e0 e2 e3 e4
  exact ⟨⟨k, bs, lo, hi, va⟩, c1, rfl, hbs, w0, w2, w3, w4⟩
end
end Go.Proofs.YtdbgppknggaooaaGreatDoor
namespace Go.Proofs.YtdbgppknggaooaaGreatDoor
open Go.RowKit Go.ChangeShapes Go.WideShapes Go.Deep
theorem cells_run : Tryz.prog.cellsOf 114 = 2 := by kernel_rfl
theorem cells_runs : Tryz.prog.cellsOf 70 = 1 := by kernel_rfl
theorem cells_patch : Tryz.prog.cellsOf 72 = 3 := by kernel_rfl
theorem cells_patches : Tryz.prog.cellsOf 22 = 1 := by kernel_rfl
theorem cells_item : Tryz.prog.cellsOf 27 = 7 := by kernel_rfl
theorem cells_undo : Tryz.prog.cellsOf 29 = 10 := by kernel_rfl
theorem cells_rec : Tryz.prog.cellsOf 31 = 15 := by kernel_rfl
theorem cells_bool : Tryz.prog.cellsOf 4 = 1 := by kernel_rfl
theorem list_of2 {α : Type} {l : List α} (h : l.length = 2) : ∃ c0 c1, l = [c0, c1] := by
  match l, h with
  | [c0, c1], _ => exact ⟨c0, c1, rfl⟩
theorem list_of3 {α : Type} {l : List α} (h : l.length = 3) : ∃ c0 c1 c2, l = [c0, c1, c2] := by
  match l, h with
  | [c0, c1, c2], _ => exact ⟨c0, c1, c2, rfl⟩
theorem list_of15 {α : Type} {l : List α} (h : l.length = 15) : ∃ c0 c1 c2 c3 c4 c5 c6 c7 c8 c9 c10 c11 c12 c13 c14, l = [c0, c1, c2, c3, c4, c5, c6, c7, c8, c9, c10, c11, c12, c13, c14] := by
  match l, h with
  | [c0, c1, c2, c3, c4, c5, c6, c7, c8, c9, c10, c11, c12, c13, c14], _ => exact ⟨c0, c1, c2, c3, c4, c5, c6, c7, c8, c9, c10, c11, c12, c13, c14, rfl⟩
theorem flat_lenO {α : Type} (en : α → List Value) (K : Nat) (hK : ∀ x, (en x).length = K) : ∀ l : List α, (l.flatMap en).length = l.length * K
  | [] => by simp
  | x :: l => by rw [List.flatMap_cons, List.length_append, hK, flat_lenO en K hK l, List.length_cons, Nat.add_mul]; omega
theorem flat_atO {α : Type} (en : α → List Value) (K : Nat) (hK : ∀ x, (en x).length = K) : ∀ (l : List α) (i c : Nat) (_ : c < K), (l.flatMap en)[i * K + c]? = (l[i]?).bind fun x => (en x)[c]?
  | [], i, c, _ => by simp
  | x :: l, 0, c, hc => by rw [List.flatMap_cons, Nat.zero_mul, Nat.zero_add, List.getElem?_append_left (by rw [hK]; exact hc)]; rfl
  | x :: l, i + 1, c, hc => by
    rw [List.flatMap_cons, List.getElem?_append_right (by rw [hK, Nat.add_mul]; omega), hK, show (i + 1) * K + c - K = i * K + c by rw [Nat.add_mul]; omega, flat_atO en K hK l i c hc]
    rfl
section
variable {H : Type} {enc : TypeId × Value → H} {w : World} {base : Nat} {spare : Nat → Bool} {held : Bool}
theorem open_sliceG {α : Type} (d0 : α) (tS te : TypeId) (hu : Tryz.prog.underlying tS = some (.slice te)) (K : Nat) (hK : Tryz.prog.cellsOf te = K) (h0 : 0 < K) (f : α → List Value) (hf : ∀ x, (f x).length = K) (Pr : α → Prop)
    (hel : ∀ (fuel : Nat) (cs : List Value) (x : DataW H × List MemPlace), DataW.trod enc Tryz.prog w base spare held fuel te cs = some x → ∃ y : α, cs = f y ∧ Pr y)
    {fuel : Nat} {v : Value} {x : DataW H × List MemPlace} (h : DataW.trod enc Tryz.prog w base spare held fuel tS [v] = some x) :
    ∃ xs : List α, SliceAt w w.heap.size K v xs.length (xs.flatMap f) ∧ ∀ y ∈ xs, Pr y := by
  rcases open_slice hu h with ⟨hcs, _⟩ | ⟨a, len, cap, m, fl, D, Pl, hcs, hb, hl, hm, hmm, hx, hi⟩
  · injection hcs with hcs
    subst hcs
    exact ⟨[], ⟨none, 0, rfl, Nat.le_refl _, Nat.zero_le _, fun _ => rfl, by simpa using Reads.none_⟩, fun y hy => by cases hy⟩
  · injection hcs with hcs
    subst hcs
    have hlm : len ≤ m := by rw [hmm]; split <;> omega
    have hex : ∀ i, i < len → ∃ y : α, (∀ j u, (f y)[j]? = some u → w.cell? (a.add (i * K + j)) = some u) ∧ Pr y := fun i hin => by
      obtain ⟨cs', hc, ht⟩ := hi i (by omega)
      rw [hK] at hc
      obtain ⟨y, rfl, hp⟩ := hel _ _ _ ht
      obtain ⟨_, _, hat⟩ := World.cells?_some hc
      refine ⟨y, fun j u hu => ?_, hp⟩
      have hj : j < K := by
        have := (List.getElem?_eq_some_iff.1 hu).1
        rwa [hf] at this
      rw [← Go.Deep.add_add, hat j hj, hu]
    obtain ⟨g, hg⟩ := @Go.Deep.choose_lt α ⟨d0⟩ len _ hex
    refine ⟨(List.range len).map g, ⟨some a, cap, by simp, by simpa using hl, hm, fun h => (by cases h), ⟨flat_lenO f K hf _, fun hn => ⟨a, rfl, ?_, fun j u hu => ?_⟩⟩⟩, fun y hy => ?_⟩
    · have h1 : 0 < len := by simpa using hn
      obtain ⟨u, hu⟩ : ∃ u, (f (g 0))[0]? = some u := ⟨_, List.getElem?_eq_getElem (by rw [hf]; exact h0)⟩
      exact cell_lt' ((hg 0 h1).1 0 _ hu)
    · have hj : j < len * K := by
        have := (List.getElem?_eq_some_iff.1 hu).1
        rw [flat_lenO f K hf] at this
        simpa using this
      have h1 : j / K < len := (Nat.div_lt_iff_lt_mul h0).2 hj
      have h2 : j = (j / K) * K + j % K := by rw [Nat.mul_comm]; exact (Nat.div_add_mod j K).symm
      rw [h2, flat_atO f K hf _ _ _ (Nat.mod_lt _ h0)] at hu
      simp only [List.getElem?_map, List.getElem?_range h1, Option.map_some, Option.bind_some] at hu
      rw [h2]
      exact (hg (j / K) h1).1 _ u hu
    · obtain ⟨i, hi', rfl⟩ := List.mem_map.1 hy
      exact (hg i (List.mem_range.1 hi')).2
theorem open_run (fuel : Nat) (cs : List Value) (x : DataW H × List MemPlace) (h : DataW.trod enc Tryz.prog w base spare held fuel 114 cs = some x) : ∃ y : RunV, cs = y.cells ∧ BytesAt w w.heap.size y.dv y.data := by
  obtain ⟨xs, n, _, _, hlen, hxl, hf⟩ := DataW.trod_struct Tryz.underlying114 h
  rw [cells_run] at hlen
  have hxl' : xs.length = 2 := hxl
  obtain ⟨c0, c1, rfl⟩ := list_of2 hlen
  obtain ⟨y0, j0⟩ := some_of (hf 0 _ rfl) hxl' (by omega)
  have g0 : DataW.trod enc Tryz.prog w base spare held n 3 [c0] = some y0 := by simpa [cells_int] using j0
  obtain ⟨y1, j1⟩ := some_of (hf 1 _ rfl) hxl' (by omega)
  have g1 : DataW.trod enc Tryz.prog w base spare held n 23 [c1] = some y1 := by simpa [cells_bytes] using j1
  obtain ⟨t0, e0, _, _⟩ := DataW.trod_int Tryz.underlying3 g0
  obtain ⟨bs, hbs⟩ := open_bytes g1
  simp only [List.cons.injEq, and_true] at e0
  subst e0
  exact ⟨⟨t0, bs, c1⟩, rfl, hbs⟩
theorem open_patch (fuel : Nat) (cs : List Value) (x : DataW H × List MemPlace) (h : DataW.trod enc Tryz.prog w base spare held fuel 72 cs = some x) : ∃ y : PatV, cs = y.cells ∧ Runs w w.heap.size y.rv y.runs := by
  obtain ⟨xs, n, _, _, hlen, hxl, hf⟩ := DataW.trod_struct Tryz.underlying72 h
  rw [cells_patch] at hlen
  have hxl' : xs.length = 3 := hxl
  obtain ⟨c0, c1, c2, rfl⟩ := list_of3 hlen
  obtain ⟨y0, j0⟩ := some_of (hf 0 _ rfl) hxl' (by omega)
  have g0 : DataW.trod enc Tryz.prog w base spare held n 3 [c0] = some y0 := by simpa [cells_int] using j0
  obtain ⟨y1, j1⟩ := some_of (hf 1 _ rfl) hxl' (by omega)
  have g1 : DataW.trod enc Tryz.prog w base spare held n 4 [c1] = some y1 := by simpa [cells_bool] using j1
  obtain ⟨y2, j2⟩ := some_of (hf 2 _ rfl) hxl' (by omega)
  have g2 : DataW.trod enc Tryz.prog w base spare held n 70 [c2] = some y2 := by simpa [cells_runs] using j2
  obtain ⟨t0, e0, _, _⟩ := DataW.trod_int Tryz.underlying3 g0
  obtain ⟨b1, e1, _⟩ := DataW.trod_bool Tryz.underlying4 g1
  obtain ⟨rs, hrs, hr⟩ := open_sliceG (⟨0, [], .slice none 0 0⟩ : RunV) _ _ Tryz.underlying70 2 cells_run (by omega) RunV.cells RunV.cells_length (fun y => BytesAt w w.heap.size y.dv y.data) open_run g2
  simp only [List.cons.injEq, and_true] at e0 e1
  subst e0 e1
  exact ⟨⟨t0, b1, rs, c2⟩, rfl, hrs, hr⟩
theorem open_rec (fuel : Nat) (cs : List Value) (x : DataW H × List MemPlace) (h : DataW.trod enc Tryz.prog w base spare held fuel 31 cs = some x) : ∃ y : RecV, cs = y.cells ∧ RecOk w w.heap.size y := by
  obtain ⟨xs, n, _, _, hlen, hxl, hf⟩ := DataW.trod_struct Tryz.underlying31 h
  rw [cells_rec] at hlen
  have hxl' : xs.length = 6 := hxl
  obtain ⟨c0, c1, c2, c3, c4, c5, c6, c7, c8, c9, c10, c11, c12, c13, c14, rfl⟩ := list_of15 hlen
  obtain ⟨y0, j0⟩ := some_of (hf 0 _ rfl) hxl' (by omega)
  have g0 : DataW.trod enc Tryz.prog w base spare held n 3 [c0] = some y0 := by simpa [cells_int] using j0
  obtain ⟨y1, j1⟩ := some_of (hf 1 _ rfl) hxl' (by omega)
  have g1 : DataW.trod enc Tryz.prog w base spare held n 3 [c1] = some y1 := by simpa [cells_int] using j1
  obtain ⟨y2, j2⟩ := some_of (hf 2 _ rfl) hxl' (by omega)
  have g2 : DataW.trod enc Tryz.prog w base spare held n 3 [c2] = some y2 := by simpa [cells_int] using j2
  obtain ⟨y3, j3⟩ := some_of (hf 3 _ rfl) hxl' (by omega)
  have g3 : DataW.trod enc Tryz.prog w base spare held n 3 [c3] = some y3 := by simpa [cells_int] using j3
  obtain ⟨y4, j4⟩ := some_of (hf 4 _ rfl) hxl' (by omega)
  have g4 : DataW.trod enc Tryz.prog w base spare held n 22 [c4] = some y4 := by simpa [cells_patches] using j4
  obtain ⟨y5, j5⟩ := some_of (hf 5 _ rfl) hxl' (by omega)
  have g5 : DataW.trod enc Tryz.prog w base spare held n 29 [c5, c6, c7, c8, c9, c10, c11, c12, c13, c14] = some y5 := by simpa [cells_undo] using j5
  obtain ⟨t0, e0, _, _⟩ := DataW.trod_int Tryz.underlying3 g0
  obtain ⟨t1, e1, _, _⟩ := DataW.trod_int Tryz.underlying3 g1
  obtain ⟨t2, e2, _, _⟩ := DataW.trod_int Tryz.underlying3 g2
  obtain ⟨t3, e3, _, _⟩ := DataW.trod_int Tryz.underlying3 g3
  obtain ⟨ps, hps, hp⟩ := open_sliceG (⟨0, false, [], .slice none 0 0⟩ : PatV) _ _ Tryz.underlying22 3 cells_patch (by omega) PatV.cells PatV.cells_length (fun y => Runs w w.heap.size y.rv y.runs) open_patch g4
  obtain ⟨us, nu, _, _, _, hul, hfu⟩ := DataW.trod_struct Tryz.underlying29 g5
  have hul' : us.length = 4 := hul
  obtain ⟨z0, k0⟩ := some_of (hfu 0 _ rfl) hul' (by omega)
  have q0 : DataW.trod enc Tryz.prog w base spare held nu 3 [c5] = some z0 := by simpa [cells_int] using k0
  obtain ⟨z1, k1⟩ := some_of (hfu 1 _ rfl) hul' (by omega)
  have q1 : DataW.trod enc Tryz.prog w base spare held nu 9 [c6] = some z1 := by simpa [cells_string] using k1
  obtain ⟨z2, k2⟩ := some_of (hfu 2 _ rfl) hul' (by omega)
  have q2 : DataW.trod enc Tryz.prog w base spare held nu 27 [c7, c8, c9, c10, c11, c12, c13] = some z2 := by simpa [cells_item] using k2
  obtain ⟨z3, k3⟩ := some_of (hfu 3 _ rfl) hul' (by omega)
  have q3 : DataW.trod enc Tryz.prog w base spare held nu 3 [c14] = some z3 := by simpa [cells_int] using k3
  obtain ⟨u0, a0, _, _⟩ := DataW.trod_int Tryz.underlying3 q0
  obtain ⟨u1, a1, _, _⟩ := DataW.trod_string Tryz.underlying9 q1
  obtain ⟨u3, a3, _, _⟩ := DataW.trod_int Tryz.underlying3 q3
  obtain ⟨is, ni, _, _, _, hil, hfi⟩ := DataW.trod_struct Tryz.underlying27 q2
  have hil' : is.length = 3 := hil
  obtain ⟨v0, l0⟩ := some_of (hfi 0 _ rfl) hil' (by omega)
  have r0 : DataW.trod enc Tryz.prog w base spare held ni 3 [c7] = some v0 := by simpa [cells_int] using l0
  obtain ⟨v1, l1⟩ := some_of (hfi 1 _ rfl) hil' (by omega)
  have r1 : DataW.trod enc Tryz.prog w base spare held ni 9 [c8] = some v1 := by simpa [cells_string] using l1
  obtain ⟨v2, l2⟩ := some_of (hfi 2 _ rfl) hil' (by omega)
  have r2 : DataW.trod enc Tryz.prog w base spare held ni 25 [c9, c10, c11, c12, c13] = some v2 := by simpa [cells_cell] using l2
  obtain ⟨s0, b0, _, _⟩ := DataW.trod_int Tryz.underlying3 r0
  obtain ⟨s1, b1, _, _⟩ := DataW.trod_string Tryz.underlying9 r1
  obtain ⟨dd, dv, b2, hbd, _, _, _, _⟩ := open_cell r2
  simp only [List.cons.injEq, and_true] at e0 e1 e2 e3 a0 a1 a3 b0 b1
  subst e0 e1 e2 e3 a0 a1 a3 b0 b1
  refine ⟨⟨t0, t1, t2, t3, ps, c4, ⟨u0, u1, s0, s1, dd, dv, u3⟩⟩, ?_, ⟨hps, hp⟩, hbd⟩
  simp only [cellCells, List.cons.injEq, and_true] at b2
  obtain ⟨rfl, rfl, rfl, rfl, rfl⟩ := b2
  rfl
theorem open_rec1 {r : Reach} {B : Nat} {v : Value} {d : DataW H} {ps : List MemPlace} (hv : Value.okWide Tryz.prog w r B 31 v) (h : DataW.Trod enc Tryz.prog w base spare held 31 v d ps) : ∃ y : RecV, v = recV y ∧ RecOk w w.heap.size y := by
  obtain ⟨cs, rfl, hsz⟩ := okWide_struct Tryz.underlying31 hv
  obtain ⟨ls⟩ := cs
  obtain ⟨fuel, hf⟩ := h
  obtain ⟨y, h1, h2⟩ := open_rec fuel ls _ hf
  exact ⟨y, by rw [h1]; rfl, h2⟩
end
end Go.Proofs.YtdbgppknggaooaaGreatDoor
