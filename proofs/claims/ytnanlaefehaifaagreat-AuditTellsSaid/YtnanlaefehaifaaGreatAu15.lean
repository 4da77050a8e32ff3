/-
  Texts of this claim, joined: DH, DI, DJ, DK.
-/
import Derived.StringKeys
import Derived.Test.YtnanlaefehaifaaGreatAu14
set_option maxHeartbeats 6400000
set_option maxRecDepth 100000
namespace Go.Proofs.YtnanlaefehaifaaGreat
open Go.RowKit Go.Maps
def baseC (d l p : Nat) (x : ConfD) (k1 k2 k3 t : Nat) : Array Value := #[.pointer (some ⟨d, 0, none⟩), .int .i64 x.b, .int .i64 x.p, .int .i64 x.f, .int .i64 x.c, .int .i64 x.l, .pointer (some ⟨l, 0, none⟩), .pointer (some ⟨p, 0, none⟩), .pointer (some ⟨k1, 0, none⟩), .pointer (some ⟨k2, 0, none⟩), .pointer (some ⟨k3, 0, none⟩), .pointer (some ⟨t, 0, none⟩)]
structure StN where
  b : Nat
  d : Nat
  g : Nat
  m : Nat
  n : Nat
  p : Nat
  l : Nat
  x : ConfD
  stale : Int
  safe : List (List UInt8)
  k : Nat
  mf : Int → Option Value
  wr : Nat → List (List UInt8)
def StN.pg (s : StN) : Nat → List UInt8 := pgOf s.safe s.wr
structure StoreI (s : StN) (W : World) : Prop where
  dev : DevS W s.d s.g s.m s.n false 0 nilS s.stale 0 0 s.safe s.k s.mf s.wr
  pool : ∃ fs, PoolC W s.p s.d s.l s.x.f s.n s.pg fs
  base : ∃ k1 k2 k3 t, Blk W s.b 92 (baseC s.d s.l s.p s.x k1 k2 k3 t)
  log : ∃ limit kept forced m pv, Blk W s.l 97 (logC s.d limit kept forced m pv)
structure StB_ (s : StN) : Prop where
  n : s.n ≤ 1024
  p : s.x.p ≤ s.n
  f1 : 1 ≤ s.x.f
  f2 : s.x.f ≤ 64
  w : ∀ no, (s.wr no).length ≤ 1000000
def stTy (t : TypeId) : Bool := t == 107 || t == 63 || t == 209 || t == 250 || t == 246 || t == 92 || t == 97
theorem StoreI.keep {s : StN} {W W' : World} (h : StoreI s W) {S : Nat → Prop} (ht : Turn S W W') (hm : ¬ S s.m) (hS : ∀ q t cs, S q → Blk W q t cs → stTy t = false) : StoreI s W' := by
  have key : ∀ {q : Nat} {t : TypeId} {cs : Array Value}, Blk W q t cs → stTy t = true → ¬ S q := fun k e hs => by
    rw [hS _ _ _ hs k] at e
    cases e
  obtain ⟨o, kd⟩ := h.dev.kd
  obtain ⟨fs, hp⟩ := h.pool
  obtain ⟨v, kp, hrow⟩ := hp.pf.kp
  obtain ⟨k1, k2, k3, t, kb⟩ := h.base
  obtain ⟨limit, kept, forced, m, pv, kl⟩ := h.log
  refine ⟨h.dev.keep ht ?_, ⟨fs, hp.pf.keep ht (key kp (by decide)) (fun x hx => key (hp.pf.fb x hx).1 (by decide)) ?_, hp.ln, hp.cl⟩, ⟨k1, k2, k3, t, ht.blk kb (key kb (by decide))⟩, ⟨limit, kept, forced, m, pv, ht.blk kl (key kl (by decide))⟩⟩
  · rintro q (e | e | e | ⟨i, e⟩)
    · subst e; exact key kd (by decide)
    · subst e; exact key h.dev.kg (by decide)
    · subst e; exact hm
    · obtain ⟨cur, hc⟩ := row_obj (h.dev.fw i) e
      exact key (show Blk W q 63 cur from hc) (by decide)
  · rintro q ⟨_, cs, e⟩
    exact key e (by decide)
theorem StoreI.via {s : StN} {W W' : World} (h : StoreI s W) (hb : Below W.heap.size W W') : StoreI s W' :=
  h.keep (S := fun _ => False) (Turn.of_below hb) id (fun _ _ _ h => h.elim)
theorem StoreI.cells {s : StN} {W : World} (h : StoreI s W) : (∃ t cs, Blk W s.d t cs) ∧ (∃ t cs, Blk W s.p t cs) := by
  obtain ⟨o, kd⟩ := h.dev.kd
  obtain ⟨fs, hp⟩ := h.pool
  obtain ⟨v, kp, _⟩ := hp.pf.kp
  exact ⟨⟨_, _, kd⟩, ⟨_, _, kp⟩⟩
def StR (s : StN) (W W' : World) : Prop := StT s.d s.p W W' ∧ StoreI s W ∧ StoreI s W'
theorem StR.refl {s : StN} {W : World} (h : StoreI s W) : StR s W W := ⟨StT.refl _ _ _, h, h⟩
theorem StR.trans {s : StN} {A B C : World} (h : StR s A B) (k : StR s B C) : StR s A C := ⟨h.1.trans k.1, h.2.1, k.2.2⟩
theorem StR.of_below {s : StN} {A B : World} (h : StoreI s A) (hb : Below A.heap.size A B) : StR s A B := ⟨StT.of_below hb, h, h.via hb⟩
theorem StR.other {s : StN} {A B : World} (h : StR s A B) {q : Nat} {o : Obj} (k : A.heap[q]? = some o) (hc : o.isCells = false) : B.heap[q]? = some o := h.1.other k hc h.2.1.cells.1 h.2.1.cells.2
theorem StR.blk {s : StN} {A B : World} (h : StR s A B) {q : Nat} {t : TypeId} {cs : Array Value} (k : Blk A q t cs) (ht : stTy t = false) : Blk B q t cs := by
  have ne : ∀ t', stTy t' = true → t ≠ t' := fun t' e e' => by rw [e', e] at ht; cases ht
  obtain ⟨o, kd⟩ := h.2.1.dev.kd
  obtain ⟨fs, hp⟩ := h.2.1.pool
  obtain ⟨v, kp, _⟩ := hp.pf.kp
  exact h.1.blk k (k.ne_ kd (ne _ (by decide))) (k.ne_ kp (ne _ (by decide))) (ne _ (by decide))
theorem StoreI.got {s : StN} {W W' : World} (h : StoreI s W) (hst : StT s.d s.p W W') (hd : DevS W' s.d s.g s.m s.n false 0 nilS s.stale 0 0 s.safe s.k s.mf s.wr) (hp : ∃ fs, PoolC W' s.p s.d s.l s.x.f s.n s.pg fs) : StoreI s W' := by
  obtain ⟨o, kd⟩ := h.dev.kd
  obtain ⟨fs, hp0⟩ := h.pool
  obtain ⟨v, kp, hrow⟩ := hp0.pf.kp
  obtain ⟨k1, k2, k3, t, kb⟩ := h.base
  obtain ⟨limit, kept, forced, m, pv, kl⟩ := h.log
  exact ⟨hd, hp, ⟨k1, k2, k3, t, hst.blk kb (kb.ne_ kd (by decide)) (kb.ne_ kp (by decide)) (by decide)⟩, ⟨limit, kept, forced, m, pv, hst.blk kl (kl.ne_ kd (by decide)) (kl.ne_ kp (by decide)) (by decide)⟩⟩
theorem StoreI.setPg {s : StN} {W W' : World} {r : Nat} {cs : Array Value} (h : StoreI s W) (k : Blk W r 63 cs) (hr : ∀ q, DevB s.d s.g s.m s.mf q → q ≠ r) (ht : Turn (fun q => q = r) W W') : StoreI s W' := by
  obtain ⟨fs, hp⟩ := h.pool
  obtain ⟨k1, k2, k3, t, kb⟩ := h.base
  obtain ⟨limit, kept, forced, m, pv, kl⟩ := h.log
  exact ⟨h.dev.keep ht hr, ⟨fs, hp.pf.setPg k ht, hp.ln, hp.cl⟩, ⟨k1, k2, k3, t, ht.blk kb (kb.ne_ k (by decide))⟩, ⟨limit, kept, forced, m, pv, ht.blk kl (kl.ne_ k (by decide))⟩⟩
theorem bHas_any (s : StN) (no : Nat) (w : World) (h : StoreI s w) (hno : (no : Int) < s.x.p) : Calls Tryz.prog 101 #[ptrV s.b, .int .i64 (no : Nat)] w fun e w' => e = .returned (.bool true) ∧ w' = w := by
  obtain ⟨k1, k2, k3, t, kb⟩ := h.base
  have b2 := kb.cell 2
  have bl := kb.lt
  unfold baseC at b2
  simp only [List.getElem?_toArray, List.getElem?_cons_zero, List.getElem?_cons_succ] at b2
  have a0 : (0 : Int) ≤ no := by omega
  clear kb h
  unfold ptrV
  go_enter Tryz.func101, Tryz.ntmps101
  go_wp2
  go_ret
  exact ⟨rfl, rfl⟩
theorem bGet_any (s : StN) (hB : StB_ s) (no : Nat) (w : World) (h : StoreI s w) (hno : (no : Int) < s.x.p) : Calls Tryz.prog 36 #[ptrV s.b, .int .i64 (no : Nat)] w fun e w' => e = .returned (getV (s.pg no) no) ∧ StR s w w' := by
  obtain ⟨k1, k2, k3, t, kb⟩ := h.base
  have hl : (s.pg no).length = 512 := pgOf_length h.dev (by have := hB.p; omega)
  have HB := hide kb
  have HS := hide h
  have hbl := kb.lt
  have HHAS := hide (fun W (hW : Below w.heap.size w W) => bHas_any s no W (h.via hW) hno)
  have HGET := hide (fun W (hW : Below w.heap.size w W) => by
    obtain ⟨fs, hp⟩ := (h.via hW).pool
    exact poolGet_any s.p s.d s.g s.m s.n s.l s.x.f 0 nilS s.stale 0 0 s.safe s.k s.mf s.wr fs no W (h.via hW).dev hp (by have := hB.p; omega) hB.n (hB.w no) hB.f1 hB.f2)
  obtain ⟨bs, hbs⟩ : ∃ bs, bs = s.pg no := ⟨_, rfl⟩
  have hpo : pgOf s.safe s.wr no = bs := hbs.symm
  rw [hpo] at HGET
  rw [← hbs] at hl ⊢
  have HBS := hide hbs
  clear kb h hbs hpo hno
  obtain ⟨rs, er, hrl, hgv⟩ : ∃ rs er, rs.length = 512 ∧ getV bs no = .tuple #[pgV rs, .int .i64 er] := by
    unfold getV
    split
    · exact ⟨bs, 0, hl, rfl⟩
    · exact ⟨zPg, 14, zPg_length, rfl⟩
  have HX := hide (show (Tryz.prog.info? 63).map (·.size) = some (rs.map byteV).toArray.size by rw [List.size_toArray, List.length_map, hrl]; exact info_pg)
  have HXZ := hide (show Tryz.zeroCells63.size = (rs.map byteV).toArray.size by rw [zeros_page, List.size_toArray, List.length_map, hrl])
  have HX1 := hide (row_one rs)
  rw [hgv] at HGET ⊢
  clear hrl hgv hl
  unfold pgV ptrV at *
  go_enter Tryz.func36, Tryz.ntmps36
  go_upto_region 3 with (fail)
  refine gen1 (R := fun W => Code.wp _ _ _ _ W) (fun W1 kT hb1 hz1 => ?_)
  have HKT := hide kT
  have HB1 := hide hb1
  have kb1 := Blk.via hb1 HB.out
  have b7 := kb1.cell 7
  unfold baseC at b7
  simp only [List.getElem?_toArray, List.getElem?_cons_zero, List.getElem?_cons_succ] at b7
  have bl1 := kb1.lt
  have HHS := hide (HHAS.out W1 hb1)
  have HGT := hide (HGET.out W1 hb1)
  clear kT hb1 kb1
  go_wp2_with (first
    | (refine HHS.out.mono ?_; rintro e w' ⟨rfl, hw'⟩; obtain rfl := hw'.symm)
    | (fail))
  refine HGT.out.mono ?_
  rintro e w2 ⟨rfl, hd2, hp2, hst2⟩
  have hs1 := HS.out.via HB1.out
  have hR : StR s w w2 := ⟨(StT.of_below HB1.out).trans hst2, HS.out, hs1.got hst2 hd2 hp2⟩
  have hdl : s.d < w.heap.size ∧ s.p < w.heap.size := by
    obtain ⟨⟨_, _, h1⟩, _, _, h2⟩ := HS.out.cells
    exact ⟨h1.lt, h2.lt⟩
  have HT2 := hide (StT.blk hst2 HKT.out (by omega) (by omega) (by decide))
  have HPL := hide (show ∀ W', Turn (fun q => q = w.heap.size) w2 W' → StR s w W' from fun W' ht => by
    refine ⟨hR.1.new ht (Nat.le_refl _), HS.out, hR.2.2.setPg HT2.out (fun q hq e => ?_) ht⟩
    have := DevS.lt HS.out.dev q hq
    omega)
  clear hd2 hp2 hst2 hs1 hR
  go_wp2_with (refine wpList_store_row rfl 63 (.tmp 4) (.tmp 20) rfl w.heap.size (rs.map byteV).toArray rfl rfl 63 _ HT2.out HX.out HXZ.out HX1.out ?_)
  refine bodyPost_ret (results_row_1 Tryz.results36 _ _ w.heap.size (rs.map byteV).toArray rfl (run_loadVar_row _ _ _ _ (rs.map byteV).toArray (0, 0) _ (setRow_heap _ w.heap.size _ _ _ _ HT2.out) Tryz.underlying63 rfl HX.out)) rfl ⟨rfl, HPL.out _ (Turn.setRow' _ _ _)⟩
theorem bUsed_any (s : StN) (hB : StB_ s) (u : Int) (w : World) (h : StoreI s w) (h0 : rightP (s.pg 0) 0 = true) (hm : metaG (s.pg 0) = some (s.x, u)) (hx : 0 < s.x.p) : Calls Tryz.prog 96 #[ptrV s.b] w fun e w' => e = .returned (.tuple #[.int .i64 u, .int .i64 0]) ∧ StR s w w' := by
  have hl : (s.pg 0).length = 512 := pgOf_length h.dev (by have := hB.p; omega)
  have hg := bGet_any s hB 0 w h hx
  rw [show getV (s.pg 0) 0 = .tuple #[pgV (s.pg 0), .int .i64 0] from if_pos h0] at hg
  have HMT := hide (fun W => metaGet_any (s.pg 0) hl W)
  rw [hm] at HMT
  obtain ⟨bs, hbs⟩ : ∃ bs, bs = s.pg 0 := ⟨_, rfl⟩
  rw [← hbs] at hg HMT hl
  have HX := hide (show (Tryz.prog.info? 63).map (·.size) = some (bs.map byteV).toArray.size by rw [List.size_toArray, List.length_map, hl]; exact info_pg)
  have HXZ := hide (show Tryz.zeroCells63.size = (bs.map byteV).toArray.size by rw [zeros_page, List.size_toArray, List.length_map, hl])
  have HX1 := hide (row_one bs)
  have HG := hide hg
  have HS := hide h
  clear hg hbs hl h0 hm h
  unfold pgV ptrV at *
  go_enter Tryz.func96, Tryz.ntmps96
  go_wp2_with fail
  refine HG.out.mono ?_
  rintro e w1 ⟨rfl, hR1⟩
  go_wp2_with (first
    | (refine wpList_store_row rfl 63 (.tmp 4) (.tmp 11) rfl w1.heap.size (bs.map byteV).toArray rfl rfl 63 _ (Blk.new w1 _ _) HX.out HXZ.out HX1.out ?_)
    | (refine wpList_load_row rfl 63 (.tmp 4) rfl w1.heap.size rfl 63 (bs.map byteV).toArray (0, 0) _ (setRow_heap _ w1.heap.size _ _ _ _ (Blk.new w1 _ _)) Tryz.underlying63 rfl HX.out ?_))
  refine nameW (R := fun W => Calls Tryz.prog _ _ W _) (fun W2 hW2 => ?_)
  have hb2 : Below w1.heap.size w1 W2 := hW2 ▸ (touch_setRow _ w1.heap.size (bs.map byteV).toArray).below ((Below.refl w1.heap.size w1).alloc (Nat.le_refl _) _) (Nat.le_refl _)
  have HR2 := hide (hR1.trans (StR.of_below hR1.2.2 hb2))
  clear hW2 hb2 hR1
  refine (HMT.out W2).mono ?_
  rintro e W3 ⟨h1, hb3⟩
  rcases h1 with ⟨h1, _⟩ | ⟨x, u', h1, rfl⟩
  · cases h1
  injection h1 with h1
  injection h1 with h1 h2
  subst h1 h2
  have HR3 := hide (HR2.out.trans (StR.of_below HR2.out.2.2 hb3))
  have hb3s := hb3.size
  clear hb3
  unfold confV
  go_wp2
  go_ret2
  exact ⟨rfl, HR3.out.trans (StR.of_below HR3.out.2.2 ((Below.refl _ _).alloc (Nat.le_refl _) _))⟩
end Go.Proofs.YtnanlaefehaifaaGreat
namespace Go.Proofs.YtnanlaefehaifaaGreat
open Go.RowKit Go.Maps
def MapL (W : World) (kt : TypeId) (m k : Nat) (ks : List Lit) : Prop := ∃ D : DataW Value, W.ownsMap Tryz.prog kt heldV m k D ∧ ∀ q, WideAt.IsKeyLit q → (Maps.has D q = true ↔ q ∈ ks)
theorem MapL.start (w : World) (kt : TypeId) : MapL (w.alloc (.map #[] 0)) kt w.heap.size 0 [] := ⟨.map [], World.ownsMap_made _ _ _ _, fun _ _ => by simp [Maps.has]⟩
theorem MapL.kept {W W' : World} {kt : TypeId} {m k : Nat} {ks : List Lit} (h : MapL W kt m k ks) (hk : W'.heap[m]? = W.heap[m]?) : MapL W' kt m k ks := by
  obtain ⟨D, ⟨es, clock, hb, r⟩, hD⟩ := h
  exact ⟨D, ⟨es, clock, hk.trans hb, r⟩, hD⟩
theorem MapL.obj {W : World} {kt : TypeId} {m k : Nat} {ks : List Lit} (h : MapL W kt m k ks) : ∃ o, W.heap[m]? = some o ∧ o.isCells = false := by
  obtain ⟨D, ⟨es, clock, hb, _⟩, _⟩ := h
  exact ⟨_, hb, rfl⟩
theorem MapL.lt {W : World} {kt : TypeId} {m k : Nat} {ks : List Lit} (h : MapL W kt m k ks) : m < W.heap.size := by
  obtain ⟨o, h1, _⟩ := h.obj
  exact (Array.getElem?_eq_some_iff.1 h1).1
theorem MapL.look {W : World} {kt : TypeId} {m k : Nat} {ks : List Lit} {q : Lit} {kv z : Value} {t e : TypeId} (h : MapL W kt m k ks) (K : Keyed Tryz.prog kt) (hk : keyOf Tryz.prog kt kv = some q) (hq : WideAt.IsKeyLit q) (ht : Tryz.prog.underlying t = some (.map kt e)) (hz : ∀ W, (zeroValue e).run Tryz.prog W = .ok z W) (b : Bool) (hb : b = true ↔ q ∈ ks) :
    ∃ v, (Instr.lookup t (.map (some m)) kv true).run Tryz.prog W = .ok (.tuple #[v, .bool b]) W := by
  obtain ⟨D, hD, hf⟩ := h
  obtain ⟨u, us, hrun, _⟩ := hD.look_ok K ht (hz W) (zd := .held z) (zp := []) rfl hk
  have e : Maps.has D q = b := by
    rw [Bool.eq_iff_iff, hf q hq]
    exact hb.symm
  rw [e] at hrun
  exact ⟨u, hrun⟩
theorem MapL.put {W' : World} {kt : TypeId} {m k : Nat} {ks : List Lit} {D : DataW Value} {q : Lit} {v : Value} (hD : ∀ q, WideAt.IsKeyLit q → (Maps.has D q = true ↔ q ∈ ks)) (hm : Maps.IsMap D) (hq : WideAt.IsKeyLit q) (h : W'.ownsMap Tryz.prog kt heldV m k (D.put q (.held v))) : MapL W' kt m k (ks ++ [q]) := by
  refine ⟨_, h, fun r hr => ?_⟩
  by_cases hqr : r = q
  · subst hqr
    simp [has_put_same hm hq]
  · rw [has_put_other hqr, hD r hr]
    simp [hqr]
theorem keyStr : Keyed Tryz.prog 9 := string_keyed Tryz.underlying9
def litN (n : Nat) : Lit := .int .i64 n
def litS (s : ByteArray) : Lit := .string s.data.toList
theorem litN_inj {a b : Nat} (h : litN a = litN b) : a = b := by unfold litN at h; injection h with _ h; omega
theorem litS_inj {a b : ByteArray} (h : litS a = litS b) : a.data = b.data := by unfold litS at h; injection h with h; exact Array.toList_inj.1 h
structure TalD where
  a : Int
  b : Int
  c : Int
  d : Int
  e : Int
def viewC (b : Nat) (u : Int) (mi mk : Nat) (t : TalD) : Array Value := #[.pointer (some ⟨b, 0, none⟩), .int .i64 u, .map (some mi), .map (some mk), .int .i64 t.a, .int .i64 t.b, .int .i64 t.c, .int .i64 t.d, .int .i64 t.e]
structure ViewS (s : StN) (W : World) (v mi mk : Nat) (u : Int) (pin : List Nat) (keys : List ByteArray) (t : TalD) : Prop where
  st : StoreI s W
  kv : Blk W v 153 (viewC s.b u mi mk t)
  hi : ∃ k, k ≤ pin.length ∧ MapL W 3 mi k (pin.map litN)
  hk : ∃ k, k ≤ keys.length ∧ MapL W 9 mk k (keys.map litS)
  im : mi ≠ mk
  ip : mi ≠ s.m
  kp : mk ≠ s.m
theorem ViewS.st' {s : StN} {W W' : World} {v mi mk : Nat} {u : Int} {pin : List Nat} {keys : List ByteArray} {t : TalD} (h : ViewS s W v mi mk u pin keys t) (hR : StR s W W') : ViewS s W' v mi mk u pin keys t := by
  obtain ⟨k1, h1, h2⟩ := h.hi
  obtain ⟨k2, h3, h4⟩ := h.hk
  obtain ⟨o1, e1, c1⟩ := h2.obj
  obtain ⟨o2, e2, c2⟩ := h4.obj
  exact ⟨hR.2.2, hR.blk h.kv (by decide), ⟨k1, h1, h2.kept ((hR.other e1 c1).trans e1.symm)⟩, ⟨k2, h3, h4.kept ((hR.other e2 c2).trans e2.symm)⟩, h.im, h.ip, h.kp⟩
theorem ViewS.via {s : StN} {W W' : World} {v mi mk : Nat} {u : Int} {pin : List Nat} {keys : List ByteArray} {t : TalD} (h : ViewS s W v mi mk u pin keys t) (hb : Below W.heap.size W W') : ViewS s W' v mi mk u pin keys t := h.st' (StR.of_below h.st hb)
structure StK (s : StN) (u : Nat) : Prop where
  b : StB_ s
  r0 : rightP (s.pg 0) 0 = true
  m0 : metaG (s.pg 0) = some (s.x, (u : Int))
  ul : (u : Int) ≤ s.x.p
  b1 : 1 ≤ s.x.b
  bu : s.x.b < u
  p0 : 0 < s.x.p
def tal0 : TalD := ⟨0, 0, 0, 0, 0⟩
theorem viewOf_any (s : StN) (u : Nat) (hK : StK s u) (w : World) (h : StoreI s w) : Calls Tryz.prog 81 #[ptrV s.b] w fun e w' => ∃ v mi mk, e = .returned (.tuple #[ptrV v, .int .i64 0]) ∧ ViewS s w' v mi mk u [] [] tal0 ∧ StR s w w' ∧ w.heap.size ≤ v ∧ w.heap.size ≤ mi ∧ w.heap.size ≤ mk := by
  have HU := hide (bUsed_any s hK.b u w h hK.r0 hK.m0 hK.p0)
  have HS := hide h
  clear h
  unfold ptrV at *
  go_enter Tryz.func81, Tryz.ntmps81
  go_wp2_with fail
  refine HU.out.mono ?_
  rintro e w1 ⟨rfl, hR⟩
  have HR := hide hR
  have hz := hR.1.size
  have hml := HS.out.dev.hm.lt
  clear hR
  have hmm := @run_makeMap Tryz.prog
  go_wp2
  go_ret2
  have hb1 : Below w1.heap.size w1 (w1.alloc (.map #[] 0)) := (Below.refl _ _).alloc (Nat.le_refl _) _
  have hm1 := MapL.start w1 3
  have hm2 := MapL.start (w1.alloc (.map #[] 0)) 9
  have hs2 : (w1.alloc (.map #[] 0)).heap.size = w1.heap.size + 1 := by simp
  rw [hs2] at hm2
  have hs3 : ((w1.alloc (.map #[] 0)).alloc (.map #[] 0)).heap.size = w1.heap.size + 1 + 1 := by simp
  have hb2 : Below w1.heap.size w1 ((w1.alloc (.map #[] 0)).alloc (.map #[] 0)) := hb1.alloc hb1.size _
  have hm1' := hm1.kept (W' := (w1.alloc (.map #[] 0)).alloc (.map #[] 0)) (Below.heap_alloc _ _ _ (by rw [hs2]; omega))
  refine ⟨w1.heap.size + 1 + 1, w1.heap.size, w1.heap.size + 1, rfl, ⟨(HR.out.trans (StR.of_below HR.out.2.2 (hb2.alloc hb2.size _))).2.2, ?_, ⟨0, Nat.le_refl _, hm1'.kept (Below.heap_alloc _ _ _ (by rw [hs3]; omega))⟩, ⟨0, Nat.le_refl _, hm2.kept (Below.heap_alloc _ _ _ (by rw [hs3]; omega))⟩, by omega, by omega, by omega⟩, HR.out.trans (StR.of_below HR.out.2.2 (hb2.alloc hb2.size _)), by omega, by omega, by omega⟩
  have := Blk.new ((w1.alloc (.map #[] 0)).alloc (.map #[] 0)) 153 (viewC s.b u w1.heap.size (w1.heap.size + 1) tal0)
  rw [hs3] at this
  exact this
end Go.Proofs.YtnanlaefehaifaaGreat
namespace Go.Proofs.YtnanlaefehaifaaGreat
open Go.RowKit Go.Maps
def auI (s : StN) (u : Nat) (no : Int) : Int := if no < 1 ∨ (u : Int) ≤ no then 2 else if rightP (s.pg no.toNat) no = true ∧ numI (cutB (s.pg no.toNat) 4 8) = 0 then 0 else 14
theorem StoreI.end_ {s : StN} {W : World} (h : StoreI s W) : Calls Tryz.prog 45 #[.pointer (some ⟨s.l, 0, none⟩)] W fun e w' => e = .returned (.int .i64 0) ∧ Below W.heap.size W w' := by
  obtain ⟨o, kd⟩ := h.dev.kd
  obtain ⟨limit, kept, forced, m, pv, kl⟩ := h.log
  exact walEndF_any false s.l s.d limit kept forced m pv _ _ none 0 0 s.stale 0 0 0 o W (by omega) (by omega) (by omega) kl kd
theorem rightP_no {bs : List UInt8} {no : Int} (h : rightP bs no = true) : numI (cutB bs 12 2) = no ∧ ∀ i, i < 7 → (slotG (slotB bs i)).isSome = true := by
  unfold rightP at h
  simp only [Bool.and_eq_true] at h
  exact ⟨by simpa using h.2.1, (slotsOk_iff 7).1 h.2.2.2.2⟩
theorem auPage_any (s : StN) (u : Nat) (hK : StK s u) (no : Int) (w : World) (h : StoreI s w) : Calls Tryz.prog 31 #[ptrV s.b, .int .i64 no] w fun e w' => e = .returned (.int .i64 (auI s u no)) ∧ StR s w w' := by
  have HV := hide (viewOf_any s u hK w h)
  by_cases hout : no < 1 ∨ (u : Int) ≤ no
  · have HA := hide (show auI s u no = 2 by unfold auI; rw [if_pos hout])
    rw [HA.out]
    unfold ptrV at *
    rcases hout with h1 | h1
    · go_enter Tryz.func31, Tryz.ntmps31
      go_wp2_with fail
      refine HV.out.mono ?_
      rintro e w1 ⟨vp, mi, mk, rfl, hvs, hR, hlv, -, -⟩
      have HR := hide hR
      clear hR hvs
      go_wp2
      go_ret
      exact ⟨rfl, HR.out⟩
    · by_cases h0 : no < 1
      · go_enter Tryz.func31, Tryz.ntmps31
        go_wp2_with fail
        refine HV.out.mono ?_
        rintro e w1 ⟨vp, mi, mk, rfl, hvs, hR, hlv, -, -⟩
        have HR := hide hR
        clear hR hvs
        go_wp2
        go_ret
        exact ⟨rfl, HR.out⟩
      · go_enter Tryz.func31, Tryz.ntmps31
        go_wp2_with fail
        refine HV.out.mono ?_
        rintro e w1 ⟨vp, mi, mk, rfl, hvs, hR, hlv, -, -⟩
        have HR := hide hR
        have c1 : w1.cell? ⟨vp, 1, none⟩ = some (.int .i64 u) := hvs.kv.cell 1
        have cl := hvs.kv.lt
        clear hR hvs
        go_wp2
        go_ret
        exact ⟨rfl, HR.out⟩
  · obtain ⟨n, rfl⟩ : ∃ k : Nat, no = k := ⟨no.toNat, by omega⟩
    have h0 : ¬ (n : Int) < 1 := by omega
    have h1 : ¬ (u : Int) ≤ n := by omega
    have hnp : (n : Int) < s.x.p := by have := hK.ul; omega
    have hl : (s.pg n).length = 512 := pgOf_length h.dev (by have := hK.b.p; omega)
    have HA := hide (show auI s u n = if rightP (s.pg n) n = true ∧ numI (cutB (s.pg n) 4 8) = 0 then 0 else 14 by unfold auI; rw [if_neg hout, Int.toNat_natCast])
    have HS := hide h
    have HGT := hide (fun W (hs : StoreI s W) => bGet_any s hK.b n W hs hnp)
    obtain ⟨bs, hbs⟩ : ∃ bs, bs = s.pg n := ⟨_, rfl⟩
    rw [← hbs] at HA HGT hl
    clear hout h hbs
    have HNO := hide (fun W => pNo_any bs hl W)
    have HLS := hide (fun W => pLSN_any bs hl W)
    have HSL := hide (fun i hi W => pSlot_any bs hl i hi W)
    have HPI := hide (show (Tryz.prog.info? 63).map (·.size) = some (bs.map byteV).toArray.size by rw [pg_size bs hl]; exact info_pg)
    have HXZ := hide (show Tryz.zeroCells63.size = (bs.map byteV).toArray.size by rw [zeros_page, List.size_toArray, List.length_map, hl])
    have HX1 := hide (row_one bs)
    have hzl : zPg.length = 512 := zPg_length
    cases hrp : rightP bs n with
    | false =>
      have HG := hide (show getV bs n = .tuple #[.agg (zPg.map byteV).toArray, .int .i64 14] by unfold getV; rw [hrp]; rfl)
      rw [HG.out] at HGT
      have HP1 := hide (show (Tryz.prog.info? 63).map (·.size) = some (zPg.map byteV).toArray.size by rw [pg_size zPg hzl]; exact info_pg)
      have HP2 := hide (show Tryz.zeroCells63.size = (zPg.map byteV).toArray.size by rw [zeros_page, pg_size zPg hzl])
      have HP3 := hide (row_one zPg)
      generalize (zPg.map byteV).toArray = Z at *
      have HAV := hide (show auI s u n = 14 by rw [HA.out, if_neg]; rw [hrp]; simp)
      clear hrp HA
      unfold ptrV at *
      go_enter Tryz.func31, Tryz.ntmps31
      go_wp2_with fail
      refine HV.out.mono ?_
      rintro e w1 ⟨vp, mi, mk, rfl, hvs, hR, hlv, -, -⟩
      have HR := hide hR
      have c1 : w1.cell? ⟨vp, 1, none⟩ = some (.int .i64 u) := hvs.kv.cell 1
      have c0 : w1.cell? ⟨vp, 0, none⟩ = some (.pointer (some ⟨s.b, 0, none⟩)) := hvs.kv.cell 0
      have cl := hvs.kv.lt
      clear hR hvs
      go_wp2_with fail
      refine (HGT.out w1 HR.out.2.2).mono ?_
      rintro e w2 ⟨rfl, hR2⟩
      have HR2 := hide (HR.out.trans hR2)
      clear hR2
      go_wp2_with (refine wpList_store_row rfl 63 (.tmp 7) (.tmp 36) rfl w2.heap.size Z rfl rfl 63 _ (Blk.new w2 _ _) HP1.out HP2.out HP3.out ?_)
      go_ret
      have hb : Below w2.heap.size w2 ((w2.alloc (.cells Tryz.zeroCells63 63)).setRow w2.heap.size Z) := (touch_setRow _ w2.heap.size Z).below ((Below.refl w2.heap.size w2).alloc (Nat.le_refl _) _) (Nat.le_refl _)
      exact ⟨by rw [HAV.out]; rfl, HR2.out.trans (StR.of_below HR2.out.2.2 hb)⟩
    | true =>
      obtain ⟨hno, hsl⟩ := rightP_no hrp
      have HSO := hide hsl
      rw [hno] at HNO
      have HG := hide (show getV bs n = .tuple #[.agg (bs.map byteV).toArray, .int .i64 0] by unfold getV; rw [hrp]; rfl)
      rw [HG.out] at HGT
      obtain ⟨ls, hls⟩ : ∃ ls, ls = numI (cutB bs 4 8) := ⟨_, rfl⟩
      rw [← hls] at HLS
      have HAV := hide (show auI s u n = if ls = 0 then 0 else 14 by rw [HA.out, hrp, ← hls]; simp)
      clear HA
      clear hrp hno hsl hls
      unfold pgV at HNO HLS HSL
      generalize (bs.map byteV).toArray = X at *
      unfold ptrV at *
      go_enter Tryz.func31, Tryz.ntmps31
      go_wp2_with fail
      refine HV.out.mono ?_
      rintro e w1 ⟨vp, mi, mk, rfl, hvs, hR, hlv, -, -⟩
      have HR := hide hR
      have c1 : w1.cell? ⟨vp, 1, none⟩ = some (.int .i64 u) := hvs.kv.cell 1
      have c0 : w1.cell? ⟨vp, 0, none⟩ = some (.pointer (some ⟨s.b, 0, none⟩)) := hvs.kv.cell 0
      have cl := hvs.kv.lt
      have HKV := hide hvs.kv
      clear hR hvs
      go_wp2_with fail
      refine (HGT.out w1 HR.out.2.2).mono ?_
      rintro e w2 ⟨rfl, hR2⟩
      have HR2 := hide (HR.out.trans hR2)
      have HKV2 := hide (hR2.blk HKV.out (by decide))
      clear hR2
      go_upto_region 7 with (refine wpList_store_row rfl 63 (.tmp 7) (.tmp 36) rfl w2.heap.size X rfl rfl 63 _ (Blk.new w2 _ _) HPI.out HXZ.out HX1.out ?_)
      refine nameW (R := fun W => Code.wp _ _ _ _ W) (fun W3 hW3 => ?_)
      have kq3 : Blk W3 w2.heap.size 63 X := hW3 ▸ setRow_heap _ w2.heap.size _ _ _ _ (Blk.new w2 _ _)
      have hb3 : Below w2.heap.size w2 W3 := hW3 ▸ (touch_setRow _ w2.heap.size X).below ((Below.refl w2.heap.size w2).alloc (Nat.le_refl _) _) (Nat.le_refl _)
      obtain ⟨gp, hgp⟩ : ∃ gp, gp = w2.heap.size := ⟨_, rfl⟩
      rw [← hgp] at kq3 ⊢
      have KP := hide kq3
      have HR3 := hide (HR2.out.trans (StR.of_below HR2.out.2.2 hb3))
      have HKV3 := hide (Blk.via hb3 HKV2.out)
      have HEN := hide (fun W (hb : Below W3.heap.size W3 W) => (HR3.out.2.2.via hb).end_)
      obtain ⟨q1, q2, q3, q4, kb⟩ := HR3.out.2.2.base
      have HKB := hide kb
      clear hW3 kq3 hb3 hgp kb c1 c0 cl
      go_upto_region 9 with (fail)
      by_cases hneg : ls < 0
      · have b1 : decide (ls < 0) = true := decide_eq_true hneg
        have HA2 := hide (show auI s u n = 14 by rw [HAV.out, if_neg (by omega)])
        refine wp_region_inv [fun v _ => v = .agg X, fun v _ => v = .int .i64 (n : Nat), fun v _ => v = .int .i64 (n : Nat), fun v _ => v = .bool false, fun v _ => v = .bool false, fun v _ => v = .agg X, fun v _ => v = .int .i64 ls, fun v _ => v = .bool true, fun v _ => v = .bool true, fun v _ => v = .bool true, fun v _ => v = undef, fun v _ => v = undef, fun v _ => v = undef, fun v _ => v = undef, fun v _ => v = undef, fun v _ => v = undef, fun v _ => v = undef, fun v _ => v = undef, fun v _ => v = undef, fun v _ => v = undef, fun v _ => v = undef, fun v _ => v = .bool true] (by kernel_rfl) (by kernel_rfl) (by kernel_rfl) ?st ?steps ?fin
        case st =>
          intro i v W W' hWW h
          match i with
          | 0 | 1 | 2 | 3 | 4 | 5 | 6 | 7 | 8 | 9 | 10 | 11 | 12 | 13 | 14 | 15 | 16 | 17 | 18 | 19 | 20 | 21 => exact h
          | (i + 22) => exact h
        case steps =>
          simp only [stepsI]
          refine ⟨?_, ?_, ?_, ?_, ?_, ?_, ?_, ?_, ?_, ?_, ?_, ?_, ?_, ?_, ?_, ?_, ?_, ?_, ?_, ?_, ?_, ?_, trivial⟩
          · intro f W hbW hdp
            have kB := hide (Blk.via hbW KP.out)
            simp only [fS, Nat.reduceAdd]
            refine wpList_load_rowG (by simp [Region.wanted]) 63 (.tmp 7) rfl gp rfl 63 X (0, 0) _ kB.out Tryz.underlying63 rfl HPI.out ?_
            exact ⟨rfl, _, rfl, rfl, Below.refl _ _⟩
          · intro f W hbW hdp
            have e0 : f 0 = .agg X := hdp ⟨0, .data⟩ (mfl (by simp) rfl)
            simp only [fS, Nat.reduceAdd, e0]
            go_wp2_with (go_at_call 91; refine (HNO.out _).mono ?_; rintro e w' ⟨rfl, hb'⟩)
            exact ⟨rfl, _, rfl, rfl, hb'⟩
          · intro f W hbW hdp
            simp only [fS, Nat.reduceAdd]
            go_wp2
            exact ⟨rfl, _, rfl, rfl, Below.refl _ _⟩
          · intro f W hbW hdp
            have e1 : f 1 = .int .i64 (n : Nat) := hdp ⟨1, .data⟩ (mfl (by simp) rfl)
            have e2 : f 2 = .int .i64 (n : Nat) := hdp ⟨2, .data⟩ (mfl (by simp) rfl)
            simp only [fS, Nat.reduceAdd, e1, e2]
            go_wp2
            exact ⟨rfl, _, rfl, rfl, Below.refl _ _⟩
          · intro f W hbW hdp
            have e3 : f 3 = .bool false := hdp ⟨3, .data⟩ (mfl (by simp) rfl)
            simp only [fS, Nat.reduceAdd, e3]
            go_wp2
            exact ⟨rfl, _, rfl, rfl, Below.refl _ _⟩
          · intro f W hbW hdp
            have e4 : f 4 = .bool false := hdp ⟨4, .guard⟩ (mfl (by simp) rfl)
            have kB := hide (Blk.via hbW KP.out)
            simp only [fS, Nat.reduceAdd, e4]
            refine wpList_load_rowG (by simp [Region.wanted, yielded]) 63 (.tmp 7) rfl gp rfl 63 X (0, 0) _ kB.out Tryz.underlying63 rfl HPI.out ?_
            exact ⟨rfl, _, rfl, rfl, Below.refl _ _⟩
          · intro f W hbW hdp
            have e4 : f 4 = .bool false := hdp ⟨4, .guard⟩ (mfl (by simp) rfl)
            have e5 : f 5 = .agg X := hdp ⟨5, .data⟩ (mfl (by simp) rfl)
            simp only [fS, Nat.reduceAdd, e4, e5]
            go_wp2_with (go_at_call 92; refine (HLS.out _).mono ?_; rintro e w' ⟨rfl, hb'⟩)
            exact ⟨rfl, _, rfl, rfl, hb'⟩
          · intro f W hbW hdp
            have e4 : f 4 = .bool false := hdp ⟨4, .guard⟩ (mfl (by simp) rfl)
            have e6 : f 6 = .int .i64 ls := hdp ⟨6, .data⟩ (mfl (by simp) rfl)
            simp only [fS, Nat.reduceAdd, e4, e6]
            go_wp2
            exact ⟨rfl, _, rfl, rfl, Below.refl _ _⟩
          · intro f W hbW hdp
            have e4 : f 4 = .bool false := hdp ⟨4, .data⟩ (mfl (by simp) rfl)
            have e7 : f 7 = .bool true := hdp ⟨7, .data⟩ (mfl (by simp) rfl)
            simp only [fS, Nat.reduceAdd, e4, e7]
            go_wp2
            exact ⟨rfl, _, rfl, rfl, Below.refl _ _⟩
          · intro f W hbW hdp
            have e8 : f 8 = .bool true := hdp ⟨8, .data⟩ (mfl (by simp) rfl)
            simp only [fS, Nat.reduceAdd, e8]
            go_wp2
            exact ⟨rfl, _, rfl, rfl, Below.refl _ _⟩
          · intro f W hbW hdp
            have e9 : f 9 = .bool true := hdp ⟨9, .guard⟩ (mfl (by simp) rfl)
            simp only [fS, Nat.reduceAdd, e9]
            go_wp2
            exact ⟨rfl, _, rfl, rfl, Below.refl _ _⟩
          · intro f W hbW hdp
            have e9 : f 9 = .bool true := hdp ⟨9, .guard⟩ (mfl (by simp) rfl)
            simp only [fS, Nat.reduceAdd, e9]
            go_wp2
            exact ⟨rfl, _, rfl, rfl, Below.refl _ _⟩
          · intro f W hbW hdp
            have e9 : f 9 = .bool true := hdp ⟨9, .guard⟩ (mfl (by simp) rfl)
            simp only [fS, Nat.reduceAdd, e9]
            go_wp2
            exact ⟨rfl, _, rfl, rfl, Below.refl _ _⟩
          · intro f W hbW hdp
            have e9 : f 9 = .bool true := hdp ⟨9, .guard⟩ (mfl (by simp) rfl)
            simp only [fS, Nat.reduceAdd, e9]
            go_wp2
            exact ⟨rfl, _, rfl, rfl, Below.refl _ _⟩
          · intro f W hbW hdp
            have e9 : f 9 = .bool true := hdp ⟨9, .guard⟩ (mfl (by simp) rfl)
            simp only [fS, Nat.reduceAdd, e9]
            go_wp2
            exact ⟨rfl, _, rfl, rfl, Below.refl _ _⟩
          · intro f W hbW hdp
            have e9 : f 9 = .bool true := hdp ⟨9, .guard⟩ (mfl (by simp) rfl)
            simp only [fS, Nat.reduceAdd, e9]
            go_wp2
            exact ⟨rfl, _, rfl, rfl, Below.refl _ _⟩
          · intro f W hbW hdp
            have e9 : f 9 = .bool true := hdp ⟨9, .guard⟩ (mfl (by simp) rfl)
            simp only [fS, Nat.reduceAdd, e9]
            go_wp2
            exact ⟨rfl, _, rfl, rfl, Below.refl _ _⟩
          · intro f W hbW hdp
            have e9 : f 9 = .bool true := hdp ⟨9, .guard⟩ (mfl (by simp) rfl)
            simp only [fS, Nat.reduceAdd, e9]
            go_wp2
            exact ⟨rfl, _, rfl, rfl, Below.refl _ _⟩
          · intro f W hbW hdp
            have e9 : f 9 = .bool true := hdp ⟨9, .guard⟩ (mfl (by simp) rfl)
            simp only [fS, Nat.reduceAdd, e9]
            go_wp2
            exact ⟨rfl, _, rfl, rfl, Below.refl _ _⟩
          · intro f W hbW hdp
            have e9 : f 9 = .bool true := hdp ⟨9, .guard⟩ (mfl (by simp) rfl)
            simp only [fS, Nat.reduceAdd, e9]
            go_wp2
            exact ⟨rfl, _, rfl, rfl, Below.refl _ _⟩
          · intro f W hbW hdp
            have e9 : f 9 = .bool true := hdp ⟨9, .guard⟩ (mfl (by simp) rfl)
            simp only [fS, Nat.reduceAdd, e9]
            go_wp2
            exact ⟨rfl, _, rfl, rfl, Below.refl _ _⟩
          · intro f W hbW hdp
            have e9 : f 9 = .bool true := hdp ⟨9, .data⟩ (mfl (by simp) rfl)
            simp only [fS, Nat.reduceAdd, e9]
            go_wp2
            exact ⟨rfl, _, rfl, rfl, Below.refl _ _⟩
        case fin =>
          intro f W hbW hA
          have e21 : f 21 = .bool true := hA 21 (by simp)
          show wpList Tryz.prog #[] (Exit.then _ _) [] _ _
          simp only [fS, Nat.reduceAdd, e21]
          clear hA e21
          have HRE := hide (HR3.out.trans (StR.of_below HR3.out.2.2 hbW))
          go_wp2
          go_ret
          exact ⟨by rw [HA2.out]; rfl, HRE.out⟩
      · have b1 : decide (ls < 0) = false := decide_eq_false hneg
        by_cases hpos : 0 < ls
        · have b2 : decide (0 < ls) = true := decide_eq_true hpos
          have HA2 := hide (show auI s u n = 14 by rw [HAV.out, if_neg (by omega)])
          refine wp_region_inv [fun v _ => v = .agg X, fun v _ => v = .int .i64 (n : Nat), fun v _ => v = .int .i64 (n : Nat), fun v _ => v = .bool false, fun v _ => v = .bool false, fun v _ => v = .agg X, fun v _ => v = .int .i64 ls, fun v _ => v = .bool false, fun v _ => v = .bool false, fun v _ => v = .bool false, fun v _ => v = .agg X, fun v _ => v = .int .i64 ls, fun v _ => v = .pointer (some ⟨vp, 0, none⟩), fun v _ => v = .pointer (some ⟨vp, 0, none⟩), fun v _ => v = .pointer (some ⟨vp, 0, none⟩), fun v _ => v = .pointer (some ⟨s.b, 0, none⟩), fun v _ => v = .pointer (some ⟨s.b, 0, none⟩), fun v _ => v = .pointer (some ⟨s.b, 6, none⟩), fun v _ => v = .pointer (some ⟨s.l, 0, none⟩), fun v _ => v = .int .i64 0, fun v _ => v = .bool true, fun v _ => v = .bool true] (by kernel_rfl) (by kernel_rfl) (by kernel_rfl) ?st ?steps ?fin
          case st =>
            intro i v W W' hWW h
            match i with
            | 0 | 1 | 2 | 3 | 4 | 5 | 6 | 7 | 8 | 9 | 10 | 11 | 12 | 13 | 14 | 15 | 16 | 17 | 18 | 19 | 20 | 21 => exact h
            | (i + 22) => exact h
          case steps =>
            simp only [stepsI]
            refine ⟨?_, ?_, ?_, ?_, ?_, ?_, ?_, ?_, ?_, ?_, ?_, ?_, ?_, ?_, ?_, ?_, ?_, ?_, ?_, ?_, ?_, ?_, trivial⟩
            · intro f W hbW hdp
              have kB := hide (Blk.via hbW KP.out)
              simp only [fS, Nat.reduceAdd]
              refine wpList_load_rowG (by simp [Region.wanted]) 63 (.tmp 7) rfl gp rfl 63 X (0, 0) _ kB.out Tryz.underlying63 rfl HPI.out ?_
              exact ⟨rfl, _, rfl, rfl, Below.refl _ _⟩
            · intro f W hbW hdp
              have e0 : f 0 = .agg X := hdp ⟨0, .data⟩ (mfl (by simp) rfl)
              simp only [fS, Nat.reduceAdd, e0]
              go_wp2_with (go_at_call 91; refine (HNO.out _).mono ?_; rintro e w' ⟨rfl, hb'⟩)
              exact ⟨rfl, _, rfl, rfl, hb'⟩
            · intro f W hbW hdp
              simp only [fS, Nat.reduceAdd]
              go_wp2
              exact ⟨rfl, _, rfl, rfl, Below.refl _ _⟩
            · intro f W hbW hdp
              have e1 : f 1 = .int .i64 (n : Nat) := hdp ⟨1, .data⟩ (mfl (by simp) rfl)
              have e2 : f 2 = .int .i64 (n : Nat) := hdp ⟨2, .data⟩ (mfl (by simp) rfl)
              simp only [fS, Nat.reduceAdd, e1, e2]
              go_wp2
              exact ⟨rfl, _, rfl, rfl, Below.refl _ _⟩
            · intro f W hbW hdp
              have e3 : f 3 = .bool false := hdp ⟨3, .data⟩ (mfl (by simp) rfl)
              simp only [fS, Nat.reduceAdd, e3]
              go_wp2
              exact ⟨rfl, _, rfl, rfl, Below.refl _ _⟩
            · intro f W hbW hdp
              have e4 : f 4 = .bool false := hdp ⟨4, .guard⟩ (mfl (by simp) rfl)
              have kB := hide (Blk.via hbW KP.out)
              simp only [fS, Nat.reduceAdd, e4]
              refine wpList_load_rowG (by simp [Region.wanted, yielded]) 63 (.tmp 7) rfl gp rfl 63 X (0, 0) _ kB.out Tryz.underlying63 rfl HPI.out ?_
              exact ⟨rfl, _, rfl, rfl, Below.refl _ _⟩
            · intro f W hbW hdp
              have e4 : f 4 = .bool false := hdp ⟨4, .guard⟩ (mfl (by simp) rfl)
              have e5 : f 5 = .agg X := hdp ⟨5, .data⟩ (mfl (by simp) rfl)
              simp only [fS, Nat.reduceAdd, e4, e5]
              go_wp2_with (go_at_call 92; refine (HLS.out _).mono ?_; rintro e w' ⟨rfl, hb'⟩)
              exact ⟨rfl, _, rfl, rfl, hb'⟩
            · intro f W hbW hdp
              have e4 : f 4 = .bool false := hdp ⟨4, .guard⟩ (mfl (by simp) rfl)
              have e6 : f 6 = .int .i64 ls := hdp ⟨6, .data⟩ (mfl (by simp) rfl)
              simp only [fS, Nat.reduceAdd, e4, e6]
              go_wp2
              exact ⟨rfl, _, rfl, rfl, Below.refl _ _⟩
            · intro f W hbW hdp
              have e4 : f 4 = .bool false := hdp ⟨4, .data⟩ (mfl (by simp) rfl)
              have e7 : f 7 = .bool false := hdp ⟨7, .data⟩ (mfl (by simp) rfl)
              simp only [fS, Nat.reduceAdd, e4, e7]
              go_wp2
              exact ⟨rfl, _, rfl, rfl, Below.refl _ _⟩
            · intro f W hbW hdp
              have e8 : f 8 = .bool false := hdp ⟨8, .data⟩ (mfl (by simp) rfl)
              simp only [fS, Nat.reduceAdd, e8]
              go_wp2
              exact ⟨rfl, _, rfl, rfl, Below.refl _ _⟩
            · intro f W hbW hdp
              have e9 : f 9 = .bool false := hdp ⟨9, .guard⟩ (mfl (by simp) rfl)
              have kB := hide (Blk.via hbW KP.out)
              simp only [fS, Nat.reduceAdd, e9]
              refine wpList_load_rowG (by simp [Region.wanted, yielded]) 63 (.tmp 7) rfl gp rfl 63 X (0, 0) _ kB.out Tryz.underlying63 rfl HPI.out ?_
              exact ⟨rfl, _, rfl, rfl, Below.refl _ _⟩
            · intro f W hbW hdp
              have e9 : f 9 = .bool false := hdp ⟨9, .guard⟩ (mfl (by simp) rfl)
              have e10 : f 10 = .agg X := hdp ⟨10, .data⟩ (mfl (by simp) rfl)
              simp only [fS, Nat.reduceAdd, e9, e10]
              go_wp2_with (go_at_call 92; refine (HLS.out _).mono ?_; rintro e w' ⟨rfl, hb'⟩)
              exact ⟨rfl, _, rfl, rfl, hb'⟩
            · intro f W hbW hdp
              have e9 : f 9 = .bool false := hdp ⟨9, .guard⟩ (mfl (by simp) rfl)
              simp only [fS, Nat.reduceAdd, e9]
              go_wp2
              exact ⟨rfl, _, rfl, rfl, Below.refl _ _⟩
            · intro f W hbW hdp
              have e9 : f 9 = .bool false := hdp ⟨9, .guard⟩ (mfl (by simp) rfl)
              have e12 : f 12 = .pointer (some ⟨vp, 0, none⟩) := hdp ⟨12, .data⟩ (mfl (by simp) rfl)
              simp only [fS, Nat.reduceAdd, e9, e12]
              go_wp2
              exact ⟨rfl, _, rfl, rfl, Below.refl _ _⟩
            · intro f W hbW hdp
              have e9 : f 9 = .bool false := hdp ⟨9, .guard⟩ (mfl (by simp) rfl)
              have e13 : f 13 = .pointer (some ⟨vp, 0, none⟩) := hdp ⟨13, .data⟩ (mfl (by simp) rfl)
              simp only [fS, Nat.reduceAdd, e9, e13]
              go_wp2
              exact ⟨rfl, _, rfl, rfl, Below.refl _ _⟩
            · intro f W hbW hdp
              have e9 : f 9 = .bool false := hdp ⟨9, .guard⟩ (mfl (by simp) rfl)
              have e14 : f 14 = .pointer (some ⟨vp, 0, none⟩) := hdp ⟨14, .data⟩ (mfl (by simp) rfl)
              have z1 : W.cell? ⟨vp, 0, none⟩ = some (.pointer (some ⟨s.b, 0, none⟩)) := (Blk.via hbW HKV3.out).cell 0
              have z2 := (Blk.via hbW HKV3.out).lt
              simp only [fS, Nat.reduceAdd, e9, e14]
              go_wp2
              exact ⟨rfl, _, rfl, rfl, Below.refl _ _⟩
            · intro f W hbW hdp
              have e9 : f 9 = .bool false := hdp ⟨9, .guard⟩ (mfl (by simp) rfl)
              have e15 : f 15 = .pointer (some ⟨s.b, 0, none⟩) := hdp ⟨15, .data⟩ (mfl (by simp) rfl)
              simp only [fS, Nat.reduceAdd, e9, e15]
              go_wp2
              exact ⟨rfl, _, rfl, rfl, Below.refl _ _⟩
            · intro f W hbW hdp
              have e9 : f 9 = .bool false := hdp ⟨9, .guard⟩ (mfl (by simp) rfl)
              have e16 : f 16 = .pointer (some ⟨s.b, 0, none⟩) := hdp ⟨16, .data⟩ (mfl (by simp) rfl)
              simp only [fS, Nat.reduceAdd, e9, e16]
              go_wp2
              exact ⟨rfl, _, rfl, rfl, Below.refl _ _⟩
            · intro f W hbW hdp
              have e9 : f 9 = .bool false := hdp ⟨9, .guard⟩ (mfl (by simp) rfl)
              have e17 : f 17 = .pointer (some ⟨s.b, 6, none⟩) := hdp ⟨17, .data⟩ (mfl (by simp) rfl)
              have z1 : W.cell? ⟨s.b, 6, none⟩ = some (.pointer (some ⟨s.l, 0, none⟩)) := (Blk.via hbW HKB.out).cell 6
              have z2 := (Blk.via hbW HKB.out).lt
              simp only [fS, Nat.reduceAdd, e9, e17]
              go_wp2
              exact ⟨rfl, _, rfl, rfl, Below.refl _ _⟩
            · intro f W hbW hdp
              have e9 : f 9 = .bool false := hdp ⟨9, .guard⟩ (mfl (by simp) rfl)
              have e18 : f 18 = .pointer (some ⟨s.l, 0, none⟩) := hdp ⟨18, .data⟩ (mfl (by simp) rfl)
              simp only [fS, Nat.reduceAdd, e9, e18]
              go_wp2_with (go_at_call 45; refine (HEN.out _ hbW).mono ?_; rintro e w' ⟨rfl, hb'⟩)
              exact ⟨rfl, _, rfl, rfl, hb'⟩
            · intro f W hbW hdp
              have e9 : f 9 = .bool false := hdp ⟨9, .guard⟩ (mfl (by simp) rfl)
              have e11 : f 11 = .int .i64 ls := hdp ⟨11, .data⟩ (mfl (by simp) rfl)
              have e19 : f 19 = .int .i64 0 := hdp ⟨19, .data⟩ (mfl (by simp) rfl)
              simp only [fS, Nat.reduceAdd, e9, e11, e19]
              go_wp2
              exact ⟨rfl, _, rfl, rfl, Below.refl _ _⟩
            · intro f W hbW hdp
              have e9 : f 9 = .bool false := hdp ⟨9, .data⟩ (mfl (by simp) rfl)
              have e20 : f 20 = .bool true := hdp ⟨20, .data⟩ (mfl (by simp) rfl)
              simp only [fS, Nat.reduceAdd, e9, e20]
              go_wp2
              exact ⟨rfl, _, rfl, rfl, Below.refl _ _⟩
          case fin =>
            intro f W hbW hA
            have e21 : f 21 = .bool true := hA 21 (by simp)
            show wpList Tryz.prog #[] (Exit.then _ _) [] _ _
            simp only [fS, Nat.reduceAdd, e21]
            clear hA e21
            have HRE := hide (HR3.out.trans (StR.of_below HR3.out.2.2 hbW))
            go_wp2
            go_ret
            exact ⟨by rw [HA2.out]; rfl, HRE.out⟩
        · have b2 : decide (0 < ls) = false := decide_eq_false hpos
          have HA2 := hide (show auI s u n = 0 by rw [HAV.out, if_pos (by omega)])
          refine wp_region_inv [fun v _ => v = .agg X, fun v _ => v = .int .i64 (n : Nat), fun v _ => v = .int .i64 (n : Nat), fun v _ => v = .bool false, fun v _ => v = .bool false, fun v _ => v = .agg X, fun v _ => v = .int .i64 ls, fun v _ => v = .bool false, fun v _ => v = .bool false, fun v _ => v = .bool false, fun v _ => v = .agg X, fun v _ => v = .int .i64 ls, fun v _ => v = .pointer (some ⟨vp, 0, none⟩), fun v _ => v = .pointer (some ⟨vp, 0, none⟩), fun v _ => v = .pointer (some ⟨vp, 0, none⟩), fun v _ => v = .pointer (some ⟨s.b, 0, none⟩), fun v _ => v = .pointer (some ⟨s.b, 0, none⟩), fun v _ => v = .pointer (some ⟨s.b, 6, none⟩), fun v _ => v = .pointer (some ⟨s.l, 0, none⟩), fun v _ => v = .int .i64 0, fun v _ => v = .bool false, fun v _ => v = .bool false] (by kernel_rfl) (by kernel_rfl) (by kernel_rfl) ?st ?steps ?fin
          case st =>
            intro i v W W' hWW h
            match i with
            | 0 | 1 | 2 | 3 | 4 | 5 | 6 | 7 | 8 | 9 | 10 | 11 | 12 | 13 | 14 | 15 | 16 | 17 | 18 | 19 | 20 | 21 => exact h
            | (i + 22) => exact h
          case steps =>
            simp only [stepsI]
            refine ⟨?_, ?_, ?_, ?_, ?_, ?_, ?_, ?_, ?_, ?_, ?_, ?_, ?_, ?_, ?_, ?_, ?_, ?_, ?_, ?_, ?_, ?_, trivial⟩
            · intro f W hbW hdp
              have kB := hide (Blk.via hbW KP.out)
              simp only [fS, Nat.reduceAdd]
              refine wpList_load_rowG (by simp [Region.wanted]) 63 (.tmp 7) rfl gp rfl 63 X (0, 0) _ kB.out Tryz.underlying63 rfl HPI.out ?_
              exact ⟨rfl, _, rfl, rfl, Below.refl _ _⟩
            · intro f W hbW hdp
              have e0 : f 0 = .agg X := hdp ⟨0, .data⟩ (mfl (by simp) rfl)
              simp only [fS, Nat.reduceAdd, e0]
              go_wp2_with (go_at_call 91; refine (HNO.out _).mono ?_; rintro e w' ⟨rfl, hb'⟩)
              exact ⟨rfl, _, rfl, rfl, hb'⟩
            · intro f W hbW hdp
              simp only [fS, Nat.reduceAdd]
              go_wp2
              exact ⟨rfl, _, rfl, rfl, Below.refl _ _⟩
            · intro f W hbW hdp
              have e1 : f 1 = .int .i64 (n : Nat) := hdp ⟨1, .data⟩ (mfl (by simp) rfl)
              have e2 : f 2 = .int .i64 (n : Nat) := hdp ⟨2, .data⟩ (mfl (by simp) rfl)
              simp only [fS, Nat.reduceAdd, e1, e2]
              go_wp2
              exact ⟨rfl, _, rfl, rfl, Below.refl _ _⟩
            · intro f W hbW hdp
              have e3 : f 3 = .bool false := hdp ⟨3, .data⟩ (mfl (by simp) rfl)
              simp only [fS, Nat.reduceAdd, e3]
              go_wp2
              exact ⟨rfl, _, rfl, rfl, Below.refl _ _⟩
            · intro f W hbW hdp
              have e4 : f 4 = .bool false := hdp ⟨4, .guard⟩ (mfl (by simp) rfl)
              have kB := hide (Blk.via hbW KP.out)
              simp only [fS, Nat.reduceAdd, e4]
              refine wpList_load_rowG (by simp [Region.wanted, yielded]) 63 (.tmp 7) rfl gp rfl 63 X (0, 0) _ kB.out Tryz.underlying63 rfl HPI.out ?_
              exact ⟨rfl, _, rfl, rfl, Below.refl _ _⟩
            · intro f W hbW hdp
              have e4 : f 4 = .bool false := hdp ⟨4, .guard⟩ (mfl (by simp) rfl)
              have e5 : f 5 = .agg X := hdp ⟨5, .data⟩ (mfl (by simp) rfl)
              simp only [fS, Nat.reduceAdd, e4, e5]
              go_wp2_with (go_at_call 92; refine (HLS.out _).mono ?_; rintro e w' ⟨rfl, hb'⟩)
              exact ⟨rfl, _, rfl, rfl, hb'⟩
            · intro f W hbW hdp
              have e4 : f 4 = .bool false := hdp ⟨4, .guard⟩ (mfl (by simp) rfl)
              have e6 : f 6 = .int .i64 ls := hdp ⟨6, .data⟩ (mfl (by simp) rfl)
              simp only [fS, Nat.reduceAdd, e4, e6]
              go_wp2
              exact ⟨rfl, _, rfl, rfl, Below.refl _ _⟩
            · intro f W hbW hdp
              have e4 : f 4 = .bool false := hdp ⟨4, .data⟩ (mfl (by simp) rfl)
              have e7 : f 7 = .bool false := hdp ⟨7, .data⟩ (mfl (by simp) rfl)
              simp only [fS, Nat.reduceAdd, e4, e7]
              go_wp2
              exact ⟨rfl, _, rfl, rfl, Below.refl _ _⟩
            · intro f W hbW hdp
              have e8 : f 8 = .bool false := hdp ⟨8, .data⟩ (mfl (by simp) rfl)
              simp only [fS, Nat.reduceAdd, e8]
              go_wp2
              exact ⟨rfl, _, rfl, rfl, Below.refl _ _⟩
            · intro f W hbW hdp
              have e9 : f 9 = .bool false := hdp ⟨9, .guard⟩ (mfl (by simp) rfl)
              have kB := hide (Blk.via hbW KP.out)
              simp only [fS, Nat.reduceAdd, e9]
              refine wpList_load_rowG (by simp [Region.wanted, yielded]) 63 (.tmp 7) rfl gp rfl 63 X (0, 0) _ kB.out Tryz.underlying63 rfl HPI.out ?_
              exact ⟨rfl, _, rfl, rfl, Below.refl _ _⟩
            · intro f W hbW hdp
              have e9 : f 9 = .bool false := hdp ⟨9, .guard⟩ (mfl (by simp) rfl)
              have e10 : f 10 = .agg X := hdp ⟨10, .data⟩ (mfl (by simp) rfl)
              simp only [fS, Nat.reduceAdd, e9, e10]
              go_wp2_with (go_at_call 92; refine (HLS.out _).mono ?_; rintro e w' ⟨rfl, hb'⟩)
              exact ⟨rfl, _, rfl, rfl, hb'⟩
            · intro f W hbW hdp
              have e9 : f 9 = .bool false := hdp ⟨9, .guard⟩ (mfl (by simp) rfl)
              simp only [fS, Nat.reduceAdd, e9]
              go_wp2
              exact ⟨rfl, _, rfl, rfl, Below.refl _ _⟩
            · intro f W hbW hdp
              have e9 : f 9 = .bool false := hdp ⟨9, .guard⟩ (mfl (by simp) rfl)
              have e12 : f 12 = .pointer (some ⟨vp, 0, none⟩) := hdp ⟨12, .data⟩ (mfl (by simp) rfl)
              simp only [fS, Nat.reduceAdd, e9, e12]
              go_wp2
              exact ⟨rfl, _, rfl, rfl, Below.refl _ _⟩
            · intro f W hbW hdp
              have e9 : f 9 = .bool false := hdp ⟨9, .guard⟩ (mfl (by simp) rfl)
              have e13 : f 13 = .pointer (some ⟨vp, 0, none⟩) := hdp ⟨13, .data⟩ (mfl (by simp) rfl)
              simp only [fS, Nat.reduceAdd, e9, e13]
              go_wp2
              exact ⟨rfl, _, rfl, rfl, Below.refl _ _⟩
            · intro f W hbW hdp
              have e9 : f 9 = .bool false := hdp ⟨9, .guard⟩ (mfl (by simp) rfl)
              have e14 : f 14 = .pointer (some ⟨vp, 0, none⟩) := hdp ⟨14, .data⟩ (mfl (by simp) rfl)
              have z1 : W.cell? ⟨vp, 0, none⟩ = some (.pointer (some ⟨s.b, 0, none⟩)) := (Blk.via hbW HKV3.out).cell 0
              have z2 := (Blk.via hbW HKV3.out).lt
              simp only [fS, Nat.reduceAdd, e9, e14]
              go_wp2
              exact ⟨rfl, _, rfl, rfl, Below.refl _ _⟩
            · intro f W hbW hdp
              have e9 : f 9 = .bool false := hdp ⟨9, .guard⟩ (mfl (by simp) rfl)
              have e15 : f 15 = .pointer (some ⟨s.b, 0, none⟩) := hdp ⟨15, .data⟩ (mfl (by simp) rfl)
              simp only [fS, Nat.reduceAdd, e9, e15]
              go_wp2
              exact ⟨rfl, _, rfl, rfl, Below.refl _ _⟩
            · intro f W hbW hdp
              have e9 : f 9 = .bool false := hdp ⟨9, .guard⟩ (mfl (by simp) rfl)
              have e16 : f 16 = .pointer (some ⟨s.b, 0, none⟩) := hdp ⟨16, .data⟩ (mfl (by simp) rfl)
              simp only [fS, Nat.reduceAdd, e9, e16]
              go_wp2
              exact ⟨rfl, _, rfl, rfl, Below.refl _ _⟩
            · intro f W hbW hdp
              have e9 : f 9 = .bool false := hdp ⟨9, .guard⟩ (mfl (by simp) rfl)
              have e17 : f 17 = .pointer (some ⟨s.b, 6, none⟩) := hdp ⟨17, .data⟩ (mfl (by simp) rfl)
              have z1 : W.cell? ⟨s.b, 6, none⟩ = some (.pointer (some ⟨s.l, 0, none⟩)) := (Blk.via hbW HKB.out).cell 6
              have z2 := (Blk.via hbW HKB.out).lt
              simp only [fS, Nat.reduceAdd, e9, e17]
              go_wp2
              exact ⟨rfl, _, rfl, rfl, Below.refl _ _⟩
            · intro f W hbW hdp
              have e9 : f 9 = .bool false := hdp ⟨9, .guard⟩ (mfl (by simp) rfl)
              have e18 : f 18 = .pointer (some ⟨s.l, 0, none⟩) := hdp ⟨18, .data⟩ (mfl (by simp) rfl)
              simp only [fS, Nat.reduceAdd, e9, e18]
              go_wp2_with (go_at_call 45; refine (HEN.out _ hbW).mono ?_; rintro e w' ⟨rfl, hb'⟩)
              exact ⟨rfl, _, rfl, rfl, hb'⟩
            · intro f W hbW hdp
              have e9 : f 9 = .bool false := hdp ⟨9, .guard⟩ (mfl (by simp) rfl)
              have e11 : f 11 = .int .i64 ls := hdp ⟨11, .data⟩ (mfl (by simp) rfl)
              have e19 : f 19 = .int .i64 0 := hdp ⟨19, .data⟩ (mfl (by simp) rfl)
              simp only [fS, Nat.reduceAdd, e9, e11, e19]
              go_wp2
              exact ⟨rfl, _, rfl, rfl, Below.refl _ _⟩
            · intro f W hbW hdp
              have e9 : f 9 = .bool false := hdp ⟨9, .data⟩ (mfl (by simp) rfl)
              have e20 : f 20 = .bool false := hdp ⟨20, .data⟩ (mfl (by simp) rfl)
              simp only [fS, Nat.reduceAdd, e9, e20]
              go_wp2
              exact ⟨rfl, _, rfl, rfl, Below.refl _ _⟩
          case fin =>
            intro f W hbW hA
            have e21 : f 21 = .bool false := hA 21 (by simp)
            show wpList Tryz.prog #[] (Exit.then _ _) [] _ _
            simp only [fS, Nat.reduceAdd, e21]
            clear hA e21
            have HRE := hide (HR3.out.trans (StR.of_below HR3.out.2.2 hbW))
            have KPW := hide (Blk.via hbW KP.out)
            clear hbW
            go_wp2
            go_loopw [63] (fun i wr => ∃ k : Nat, k ≤ 7 ∧ i = .int .i64 k ∧ Below W.heap.size W wr) (fun i _ => 7 - (intOf i).toNat)
            case atStart => exact ⟨0, by omega, rfl, Below.refl _ _⟩
            case round =>
              obtain ⟨k, hk, rfl, hbw⟩ := hrel
              by_cases hlt : k < 7
              · have HS1 := hide (HSL.out k hlt)
                have HSM := hide (HSO.out k hlt)
                have kq := hide (Blk.via hbw KPW.out)
                have t1 : (k : Int) < 7 := by omega
                have HBW := hide hbw
                have hz := hbw.size
                clear hbw
                go_wp2_with (refine wpList_load_row rfl 63 (.tmp 7) rfl gp rfl 63 X (0, 0) _ kq.out Tryz.underlying63 rfl HPI.out ?_)
                refine (HS1.out _).mono ?_
                intro e w4 hP
                obtain ⟨x, A2, n2, c2, er, rfl, hby, hor⟩ := slotGP_one hP
                have her : er = 0 := by
                  rcases hor with ⟨h1, _⟩ | ⟨_, h1⟩
                  · have := HSM.out
                    rw [h1] at this
                    cases this
                  · exact h1
                subst her
                have HL4 := hide (HBW.out.trans (hP.2.mono HBW.out.size))
                clear hby hor hP
                obtain ⟨xs, xk, d1, d2, d3, d4, d5⟩ := x
                unfold itemC
                dsimp only
                go_wp2
                go_roundw
                case rel => exact ⟨k + 1, by omega, by go_num, HL4.out.alloc HL4.out.size _⟩
                case measure => simp [intOf]; omega
              · obtain rfl : k = 7 := by omega
                have HBW := hide hbw
                clear hbw
                go_wp2
                go_ret
                exact ⟨by rw [HA2.out]; rfl, HRE.out.trans (StR.of_below HRE.out.2.2 HBW.out)⟩
end Go.Proofs.YtnanlaefehaifaaGreat
namespace Go.Proofs.YtnanlaefehaifaaGreat
open Go.RowKit Go.Maps
theorem auI_in {s : StN} {u no : Nat} (h1 : 1 ≤ no) (h2 : no < u) : auI s u no = 0 ∨ auI s u no = 14 := by
  unfold auI
  rw [if_neg (by omega)]
  split
  · exact .inl rfl
  · exact .inr rfl
def pagesB (s : StN) (u : Nat) : Bool := (from1 u).all (fun no => auI s u no == 0)
theorem pagesB_no {s : StN} {u no : Nat} (h1 : 1 ≤ no) (h2 : no < u) (h : auI s u no ≠ 0) : pagesB s u = false := by
  unfold pagesB
  rw [List.all_eq_false]
  exact ⟨no, mem_from1.2 ⟨h1, h2⟩, by simpa using h⟩
theorem pagesB_yes {s : StN} {u : Nat} (h : ∀ no : Nat, 1 ≤ no → no < u → auI s u no = 0) : pagesB s u = true := by
  unfold pagesB
  rw [List.all_eq_true]
  intro no hm
  simp [h no (mem_from1.1 hm).1 (mem_from1.1 hm).2]
def errI (b : Bool) : Int := bif b then 0 else 14
theorem vPages_any (s : StN) (u : Nat) (hK : StK s u) (hu : u ≤ 100000) (v mi mk : Nat) (pin : List Nat) (keys : List ByteArray) (t : TalD) (w : World) (h : ViewS s w v mi mk u pin keys t) :
    Calls Tryz.prog 88 #[ptrV v] w fun e w' => e = .returned (.int .i64 (errI (pagesB s u))) ∧ StR s w w' := by
  have HV := hide h
  have HPG := hide (fun (no : Int) W (hs : StoreI s W) => auPage_any s u hK no W hs)
  clear h
  unfold ptrV at *
  go_enter Tryz.func88, Tryz.ntmps88
  go_wp2
  go_loopw [3] (fun i wr => ∃ k : Nat, 1 ≤ k ∧ (k ≤ u ∨ k = 1) ∧ i = .int .i64 k ∧ Hid (∀ j : Nat, 1 ≤ j → j < k → auI s u j = 0) ∧ Hid (StR s w wr)) (fun i _ => u - (intOf i).toNat)
  case atStart => exact ⟨1, Nat.le_refl _, .inr rfl, rfl, hide (fun j h1 h2 => absurd h2 (by omega)), hide (StR.refl HV.out.st)⟩
  case round =>
    obtain ⟨k, hk1, hku, rfl, HJ, HR⟩ := hrel
    have HVr := hide (HV.out.st' HR.out)
    have c1 : wr.cell? ⟨v, 1, none⟩ = some (.int .i64 u) := HVr.out.kv.cell 1
    have c0 : wr.cell? ⟨v, 0, none⟩ = some (.pointer (some ⟨s.b, 0, none⟩)) := HVr.out.kv.cell 0
    have cl := HVr.out.kv.lt
    by_cases hlt : k < u
    · have t1 : (k : Int) < u := by omega
      have HP := hide (HPG.out k wr HVr.out.st)
      rcases auI_in (s := s) hk1 hlt with h0 | h0
      · have H0 := hide h0
        rw [h0] at HP
        clear h0
        go_wp2_with (refine HP.out.mono ?_; rintro e w2 ⟨rfl, hR2⟩)
        go_roundw
        case rel =>
          refine ⟨k + 1, by omega, by omega, by go_num, hide fun j h1 h2 => ?_, hide (HR.out.trans hR2)⟩
          rcases Nat.lt_or_ge j k with h | h
          · exact HJ.out j h1 h
          · obtain rfl : j = k := by omega
            exact H0.out
        case measure => simp [intOf]; omega
      · have HF := hide (pagesB_no hk1 hlt (by rw [h0]; omega))
        rw [h0] at HP
        clear h0
        go_wp2_with (refine HP.out.mono ?_; rintro e w2 ⟨rfl, hR2⟩)
        go_ret
        exact ⟨by rw [HF.out]; rfl, HR.out.trans hR2⟩
    · have HT := hide (pagesB_yes (s := s) (u := u) (fun no h1 h2 => HJ.out no h1 (by omega)))
      have t1 : ¬ (k : Int) < u := by omega
      go_wp2
      go_ret
      exact ⟨by rw [HT.out]; rfl, HR.out⟩
def wholeB (u : Nat) (pin : List Nat) : Bool := (from1 u).all (fun q => pin.contains q)
theorem wholeB_no {u no : Nat} {pin : List Nat} (h1 : 1 ≤ no) (h2 : no < u) (h : no ∉ pin) : wholeB u pin = false := by
  unfold wholeB
  rw [List.all_eq_false]
  exact ⟨no, mem_from1.2 ⟨h1, h2⟩, by simpa using h⟩
theorem wholeB_yes {u : Nat} {pin : List Nat} (h : ∀ no : Nat, 1 ≤ no → no < u → no ∈ pin) : wholeB u pin = true := by
  unfold wholeB
  rw [List.all_eq_true]
  intro no hm
  simpa using h no (mem_from1.1 hm).1 (mem_from1.1 hm).2
theorem zero_intV (w : World) : (zeroValue 3).run Tryz.prog w = .ok (.int .i64 0) w := by kernel_rfl
theorem litN_wf {n : Nat} (h : n ≤ 100000) : (Lit.int .i64 (n : Int)).wf = true := wf_no n (by omega)
theorem ViewS.lookP {s : StN} {W : World} {v mi mk : Nat} {u : Int} {pin : List Nat} {keys : List ByteArray} {t : TalD} (h : ViewS s W v mi mk u pin keys t) {n : Nat} (hn : n ≤ 100000) (b : Bool) (hb : b = true ↔ n ∈ pin) :
    ∃ x, (Instr.lookup 150 (.map (some mi)) (.int .i64 (n : Nat)) true).run Tryz.prog W = .ok (.tuple #[x, .bool b]) W := by
  obtain ⟨k, _, hm⟩ := h.hi
  refine hm.look keyInt (key_of (litN_wf hn)) (by simp [WideAt.IsKeyLit]) Tryz.underlying150 zero_intV b ?_
  rw [hb]
  constructor
  · exact fun h => List.mem_map_of_mem h
  · intro h
    obtain ⟨a, ha, e⟩ := List.mem_map.1 h
    rw [← litN_inj e]
    exact ha
theorem vWhole_any (s : StN) (u : Nat) (hu : u ≤ 100000) (v mi mk : Nat) (pin : List Nat) (keys : List ByteArray) (t : TalD) (w : World) (h : ViewS s w v mi mk u pin keys t) :
    Calls Tryz.prog 90 #[ptrV v] w fun e w' => e = .returned (.int .i64 (errI (wholeB u pin))) ∧ w' = w := by
  have HV := hide h
  have c1 : w.cell? ⟨v, 1, none⟩ = some (.int .i64 u) := h.kv.cell 1
  have c2 : w.cell? ⟨v, 2, none⟩ = some (.map (some mi)) := h.kv.cell 2
  have cl := h.kv.lt
  clear h
  unfold ptrV at *
  go_enter Tryz.func90, Tryz.ntmps90
  go_wp2
  go_loopw [3] (fun i wr => wr = w ∧ ∃ k : Nat, 1 ≤ k ∧ (k ≤ u ∨ k = 1) ∧ i = .int .i64 k ∧ Hid (∀ j : Nat, 1 ≤ j → j < k → j ∈ pin)) (fun i _ => u - (intOf i).toNat)
  case atStart => exact ⟨rfl, 1, Nat.le_refl _, .inr rfl, rfl, hide (fun j h1 h2 => absurd h2 (by omega))⟩
  case round =>
    obtain ⟨rfl, k, hk1, hku, rfl, HJ⟩ := hrel
    by_cases hlt : k < u
    · have t1 : (k : Int) < u := by omega
      by_cases hin : k ∈ pin
      · have HIN := hide hin
        obtain ⟨x, hx⟩ := HV.out.lookP (n := k) (by omega) true (by simp [hin])
        clear hin
        go_wp2
        go_roundw
        case rel =>
          refine ⟨by trivial, k + 1, by omega, by omega, by go_num, hide fun j h1 h2 => ?_⟩
          rcases Nat.lt_or_ge j k with h | h
          · exact HJ.out j h1 h
          · obtain rfl : j = k := by omega
            exact HIN.out
        case measure => simp [intOf]; omega
      · have HF := hide (wholeB_no hk1 hlt hin)
        obtain ⟨x, hx⟩ := HV.out.lookP (n := k) (by omega) false (by simp [hin])
        clear hin
        go_wp2
        go_ret
        exact ⟨by rw [HF.out]; rfl, rfl⟩
    · have HT := hide (wholeB_yes (u := u) (pin := pin) (fun no h1 h2 => HJ.out no h1 (by omega)))
      have t1 : ¬ (k : Int) < u := by omega
      go_wp2
      go_ret
      exact ⟨by rw [HT.out]; rfl, rfl⟩
end Go.Proofs.YtnanlaefehaifaaGreat
