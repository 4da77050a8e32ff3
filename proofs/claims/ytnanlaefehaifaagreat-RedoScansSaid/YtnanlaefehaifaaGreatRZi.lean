/-
  WALKS OF THE PROGRAM: wal.Log.Append.
-/
import Derived.Test.YtnanlaefehaifaaGreatRZh
import Derived.WalkSpells
namespace Go.Proofs.YtnanlaefehaifaaGreat
open Go.RowKit

/-- A log in memory: its object, its device, its bytes, its places, its records. -/
structure LogS (W : World) (l d m L : Nat) (limit forced : Int) (sv mv lv pv : Value) (bs : List UInt8) (zs : List Int) (k : Nat) (f : Int → Option Value) (stale head sure fuse o : Int) : Prop where
  kl : Blk W l 97 (logC d limit 0 forced m pv)
  kd : Blk W d 107 (devC sv mv lv stale head sure fuse o)
  ol : OwnB W L lv bs
  op : W.ownsRow L 3 1 pv zs.length (zs.map (Value.int .i64))
  mf : MapF W m k f
theorem LogS.via {W W' : World} {l d m L : Nat} {limit forced : Int} {sv mv lv pv : Value} {bs : List UInt8} {zs : List Int} {k : Nat} {f : Int → Option Value} {stale head sure fuse o : Int} (h : LogS W l d m L limit forced sv mv lv pv bs zs k f stale head sure fuse o) (hb : Below W.heap.size W W') : LogS W' l d m L limit forced sv mv lv pv bs zs k f stale head sure fuse o :=
  ⟨Blk.via hb h.kl, Blk.via hb h.kd, h.ol.via hb, own_via h.op hb, World.ownsMap.kept' h.mf hb⟩
/-- What wal.Append leaves: a record that was refused, or one more. -/
def AppP (w : World) (l d m L : Nat) (limit forced : Int) (sv mv lv pv : Value) (bs : List UInt8) (zs : List Int) (k : Nat) (f : Int → Option Value) (stale head sure fuse : Int) (x : RecV) (e : Ending) (w' : World) : Prop :=
  (((e = .returned (.tuple #[.int .i64 0, .int .i64 1]) ∧ ¬ plainR x) ∨ (e = .returned (.tuple #[.int .i64 0, .int .i64 9]) ∧ (plainR x → limit < bs.length + 33))) ∧ Below w.heap.size w w') ∨
  ∃ (bs2 : List UInt8) (lv' pv' : Value) (y : RecV) (L1 H1 : Nat) (o' : Int), e = .returned (.tuple #[.int .i64 (head + (bs.length + bs2.length : Nat)), .int .i64 0]) ∧ 6 ≤ bs2.length ∧ bs2.length ≤ 65537 ∧ bs.length + bs2.length ≤ limit ∧ okR x ∧ (plainR x → bs2.length = 33) ∧
    LogS w' l d m L limit forced sv mv lv' pv' (bs ++ bs2) (zs ++ [head + (bs.length + bs2.length : Nat)]) (k + 1) (fun q => if q = head + (bs.length + bs2.length : Nat) then some (recV y) else f q) stale head sure fuse o' ∧
    y.kind = x.kind ∧ y.txn = x.txn ∧ RecSm y ∧ RecIn w' L1 H1 y ∧ w.heap.size ≤ L1 ∧ H1 ≤ w'.heap.size ∧
    (∀ q, lv'.ownBlock = some q → q < L1) ∧ (∀ q, pv'.ownBlock = some q → q < L1 ∨ H1 ≤ q) ∧
    (lv'.ownBlock = lv.ownBlock ∨ ∃ g, lv'.ownBlock = some g ∧ w.heap.size ≤ g) ∧ (pv'.ownBlock = pv.ownBlock ∨ ∃ g, pv'.ownBlock = some g ∧ w.heap.size ≤ g) ∧
    Turn (fun q => q = l ∨ q = d ∨ q = m ∨ some q = lv.ownBlock ∨ some q = pv.ownBlock) w w'
set_option maxHeartbeats 12800000 in
set_option maxRecDepth 100000 in
theorem walAppend_any (l d m L : Nat) (limit forced : Int) (sv mv lv pv : Value) (bs : List UInt8) (zs : List Int) (k : Nat) (f : Int → Option Value) (stale head sure fuse o : Int) (x : RecV) (B : Nat) (w : World)
    (hS : LogS w l d m L limit forced sv mv lv pv bs zs k f stale head sure fuse o) (hL : L ≤ w.heap.size) (hlim : 0 ≤ limit ∧ limit ≤ 2000000) (hh : 0 ≤ head ∧ head ≤ 10000000) (hbs : bs.length ≤ 2000000) (hzs : zs.length ≤ 1000) (hk : k ≤ 1000) (hx : RecSm x) (hB : B ≤ w.heap.size) (hBd : B ≤ d) (hBL : B ≤ L) (ha : RecOk w B x) :
    Calls Tryz.prog 10 #[.pointer (some ⟨l, 0, none⟩), recV x, .int .i64 0] w (AppP w l d m L limit forced sv mv lv pv bs zs k f stale head sure fuse x) := by
  have HPUT := hide (fun W (hb : Below w.heap.size w W) => recPut_any x B W hx (Nat.le_trans hB hb.size) (ha.below hb hB))
  obtain ⟨Al, cl, rfl, junk⟩ := own_slice hS.ol
  clear junk
  have HS := hide hS
  have hl0 : (0 : Int) ≤ limit := hlim.1
  have hl2 : limit ≤ 2000000 := hlim.2
  have HRO := hide ha
  obtain ⟨⟨⟨Ap, cp, hpv, _⟩, _⟩, hu⟩ := ha
  obtain ⟨Au, nu, cu, huv, junk⟩ := hu
  clear junk
  obtain ⟨kd, tx, pr, nx, ps, pvv, un⟩ := x
  obtain ⟨yu1, yu2, yu3, yu4, ⟨d1, d2, d3, d4, d5⟩, yuv, yu7⟩ := un
  dsimp only at *
  subst hpv huv
  unfold recV at *
  dsimp only at *
  obtain ⟨np, hnp⟩ : ∃ np, np = ps.length := ⟨_, rfl⟩
  rw [← hnp] at HPUT ⊢
  have HNP := hide hnp
  have hh1 := hh.1
  have hh2 := hh.2
  have HDL := hide hS.kd.lt
  clear hS hnp hlim hh
  obtain ⟨Post, hPost⟩ : ∃ Post, Post = AppP w l d m L limit forced sv mv (.slice Al bs.length cl) pv bs zs k f stale head sure fuse ⟨kd, tx, pr, nx, ps, .slice Ap np cp, ⟨yu1, yu2, yu3, yu4, ⟨d1, d2, d3, d4, d5⟩, .slice Au nu cu, yu7⟩⟩ := ⟨_, rfl⟩
  rw [← hPost]
  have HPO := hide hPost
  clear hPost
  go_enter Tryz.func10, Tryz.ntmps10
  go_upto_region 1 with (fail)
  refine gen1 (R := fun W => Code.wp _ _ _ _ W) (fun W1 kb hb1 hz1 => ?_)
  have p0 : W1.cell? ⟨w.heap.size, 0, none⟩ = some _ := kb.cell 0
  have p1 : W1.cell? ⟨w.heap.size, 1, none⟩ = some _ := kb.cell 1
  have p2 : W1.cell? ⟨w.heap.size, 2, none⟩ = some _ := kb.cell 2
  have p3 : W1.cell? ⟨w.heap.size, 3, none⟩ = some _ := kb.cell 3
  have p4 : W1.cell? ⟨w.heap.size, 4, none⟩ = some _ := kb.cell 4
  have p5 : W1.cell? ⟨w.heap.size, 5, none⟩ = some _ := kb.cell 5
  have p6 : W1.cell? ⟨w.heap.size, 6, none⟩ = some _ := kb.cell 6
  have p7 : W1.cell? ⟨w.heap.size, 7, none⟩ = some _ := kb.cell 7
  have p8 : W1.cell? ⟨w.heap.size, 8, none⟩ = some _ := kb.cell 8
  have p9 : W1.cell? ⟨w.heap.size, 9, none⟩ = some _ := kb.cell 9
  have p10 : W1.cell? ⟨w.heap.size, 10, none⟩ = some _ := kb.cell 10
  have p11 : W1.cell? ⟨w.heap.size, 11, none⟩ = some _ := kb.cell 11
  have p12 : W1.cell? ⟨w.heap.size, 12, none⟩ = some _ := kb.cell 12
  have p13 : W1.cell? ⟨w.heap.size, 13, none⟩ = some _ := kb.cell 13
  have p14 : W1.cell? ⟨w.heap.size, 14, none⟩ = some _ := kb.cell 14
  have HS1 := hide (HS.out.via hb1)
  have KB := hide kb
  have HB1 := hide hb1
  clear kb
  go_wp2_with fail
  refine (HPUT.out W1 hb1).mono ?_
  rintro e W2 ⟨b2, hcase, A2, c2, rfl, _, ho2, hr2, hb2⟩
  obtain ⟨n2, hn2⟩ : ∃ n2, n2 = b2.length := ⟨_, rfl⟩
  rw [← hn2] at hcase ho2 hr2 ⊢
  have HB2 := hide (below_via hb1 hb2 hb1.size)
  have HS2 := hide (HS1.out.via hb2)
  have KB2 := hide (Blk.via hb2 KB.out)
  have HR2 := hide hr2
  have HN2 := hide hn2
  clear ho2 hr2 hb2 hb1 hn2 p0 p1 p2 p3 p4 p5 p6 p7 p8 p9 p10 p11 p12 p13 p14
  rcases hcase with ⟨h0, hnp⟩ | ⟨h6, h65, hok, hp33⟩
  · subst h0
    have HNPL := hide hnp
    clear hnp
    go_wp2
    rw [HPO.out]
    exact .inl ⟨.inl ⟨rfl, HNPL.out⟩, HB2.out⟩
  · have HOK := hide hok
    have H33 := hide hp33
    clear hok hp33
    go_wp2_with fail
    refine (walRoom_any l d limit 0 forced m pv sv mv Al bs.length cl stale head sure fuse o W2 hh1 (by omega) (by omega) (by omega) (by omega) hl0 (by omega) HS2.out.kl HS2.out.kd).mono ?_
    rintro e W3 ⟨rfl, hb3⟩
    obtain ⟨n1, hn1⟩ : ∃ n1, n1 = bs.length := ⟨_, rfl⟩
    rw [← hn1]
    have HN1 := hide hn1
    have hn1b : n1 ≤ 2000000 := by omega
    have HB3 := hide (below_via HB2.out hb3 HB2.out.size)
    have HS3 := hide (HS2.out.via hb3)
    have KB3 := hide (Blk.via hb3 KB2.out)
    have HR3 := hide (HR2.out.below hb3 (Nat.le_refl _))
    have hz23 := hb3.size
    clear hb3 hn1
    have l0 : W3.cell? ⟨l, 0, none⟩ = some (.pointer (some ⟨d, 0, none⟩)) := HS3.out.kl.cell 0
    by_cases hfull : limit < n1 + n2
    · go_wp2
      rw [HPO.out]
      refine .inl ⟨.inr ⟨rfl, fun h => ?_⟩, HB3.out⟩
      have h1 := H33.out h
      have h2 := HN1.out
      omega
    · have hroom : ¬ (limit - (n1 : Int) - 0 - (n2 : Int) < 0) := by omega
      go_wp2_with fail
      refine (devAppend_any d L W2.heap.size A2 n2 c2 b2 sv mv (.slice Al bs.length cl) bs stale head sure fuse o W3 (by have := HB3.out.size; omega) hz23 (by omega) (by omega) HS3.out.kd HS3.out.ol HN2.out HR3.out).mono ?_
      rintro e W4 ⟨rfl, lv4, o4, kd4, ol4, hT4, hloc4⟩
      have keep : ∀ {q : Nat} {cs : Array Value} {t : TypeId}, Blk W3 q t cs → t ≠ 107 → t ≠ 5 → Blk W4 q t cs := fun {q cs t} kk h1 h2 => (hT4.block q kk.lt (by
        rintro (h | h)
        · exact kk.ne_ (show Blk W3 q 107 _ from h ▸ HS3.out.kd) h1 rfl
        · obtain ⟨cur, hc⟩ := row_obj HS3.out.ol h.symm
          exact kk.ne_ (show Blk W3 q 5 cur from hc) h2 rfl)).trans kk
      have kl4 := keep HS3.out.kl (by decide) (by decide)
      have KB4 := hide (keep KB3.out (by decide) (by decide))
      have op4 : W4.ownsRow L 3 1 pv zs.length (zs.map (Value.int .i64)) := row_keep HS3.out.op (fun q hq => by
        obtain ⟨cur, hc⟩ := row_obj HS3.out.op hq
        exact (keep (show Blk W3 q 3 cur from hc) (by decide) (by decide)).trans (show Blk W3 q 3 cur from hc).symm)
      have mf4 : MapF W4 m k f := HS3.out.mf.kept (hT4.block m HS3.out.mf.lt (by
        rintro (h | h)
        · exact HS3.out.mf.ne (show W3.heap[m]? = _ from h ▸ HS3.out.kd) rfl
        · obtain ⟨cur, hc⟩ := row_obj HS3.out.ol h.symm
          exact HS3.out.mf.ne hc rfl))
      have HT4 := hide hT4
      have HLOC4 := hide hloc4
      have HS4 := hide (show LogS W4 l d m L limit forced sv mv lv4 pv (bs ++ b2) zs k f stale head sure fuse o4 from ⟨kl4, kd4, ol4, op4, mf4⟩)
      have hro4 : RecOk W4 B _ := HRO.out.keep (fun p hp => World.cell?_of_block ((hT4.block p.block (by have := HB3.out.size; omega) (by
        rintro (h | h)
        · omega
        · have := (HS3.out.ol.lt p.block h.symm).1
          omega)).trans (HB3.out.block p.block (by omega))))
      have HRO4 := hide hro4
      clear keep kl4 kd4 ol4 op4 mf4 hT4 hloc4 l0 hro4
      go_wp2_with fail
      obtain ⟨A4, c4, rfl, junk⟩ := own_slice HS4.out.ol
      clear junk
      refine (walEnd_any l d limit 0 forced m pv sv mv A4 (bs ++ b2).length c4 stale head sure fuse o4 W4 hh1 (by omega) (by have h1 := HN1.out; have h2 := HN2.out; rw [List.length_append]; omega) HS4.out.kl HS4.out.kd).mono ?_
      rintro e W5 ⟨rfl, hb5⟩
      have hpl5 : ((bs ++ b2).length : Int) = (n1 : Int) + n2 := by have h1 := HN1.out; have h2 := HN2.out; rw [List.length_append]; omega
      rw [hpl5]
      have HS5 := hide (HS4.out.via hb5)
      have HRO5 := hide (HRO4.out.below hb5 (by have := HT4.out.size; have := HB3.out.size; omega))
      have kb5 := Blk.via hb5 KB4.out
      have HZ5 := hide hb5.size
      have HB5 := hide hb5
      have p0 : W5.cell? ⟨w.heap.size, 0, none⟩ = some _ := kb5.cell 0
      have p1 : W5.cell? ⟨w.heap.size, 1, none⟩ = some _ := kb5.cell 1
      have p2 : W5.cell? ⟨w.heap.size, 2, none⟩ = some _ := kb5.cell 2
      have p3 : W5.cell? ⟨w.heap.size, 3, none⟩ = some _ := kb5.cell 3
      have p4 : W5.cell? ⟨w.heap.size, 4, none⟩ = some _ := kb5.cell 4
      have p5 : W5.cell? ⟨w.heap.size, 5, none⟩ = some _ := kb5.cell 5
      have p6 : W5.cell? ⟨w.heap.size, 6, none⟩ = some _ := kb5.cell 6
      have p7 : W5.cell? ⟨w.heap.size, 7, none⟩ = some _ := kb5.cell 7
      have p8 : W5.cell? ⟨w.heap.size, 8, none⟩ = some _ := kb5.cell 8
      have p9 : W5.cell? ⟨w.heap.size, 9, none⟩ = some _ := kb5.cell 9
      have p10 : W5.cell? ⟨w.heap.size, 10, none⟩ = some _ := kb5.cell 10
      have p11 : W5.cell? ⟨w.heap.size, 11, none⟩ = some _ := kb5.cell 11
      have p12 : W5.cell? ⟨w.heap.size, 12, none⟩ = some _ := kb5.cell 12
      have p13 : W5.cell? ⟨w.heap.size, 13, none⟩ = some _ := kb5.cell 13
      have p14 : W5.cell? ⟨w.heap.size, 14, none⟩ = some _ := kb5.cell 14
      have l4 : W5.cell? ⟨l, 4, none⟩ = some (.map (some m)) := HS5.out.kl.cell 4
      clear hb5 kb5 hpl5
      have hmn : ∀ W : World, (binOp BinOp.eql 95 (Value.map (some m)) (Value.map none)).run Tryz.prog W = .ok (.bool false) W := fun W => run_eql_map_nil W 95 3 41 (some m) Tryz.underlying95
      have HOWN := hide (own_any _ B W5 hx (by have := HZ5.out; have := HT4.out.size; have := HB3.out.size; omega) HRO5.out)
      unfold recV at HOWN
      dsimp only at HOWN
      rw [← HNP.out] at HOWN
      go_wp2_with fail
      refine HOWN.out.mono ?_
      rintro e W6 ⟨y, rfl, hyk, hyt, hys, hyi, hb6⟩
      have HS6 := hide (HS5.out.via hb6)
      have HYI := hide hyi
      have HY := hide (And.intro hyk (And.intro hyt hys))
      have hz6 := hb6.size
      have HB6 := hide hb6
      obtain ⟨pl, hpl⟩ : ∃ pl, pl = head + ((n1 : Int) + n2) := ⟨_, rfl⟩
      rw [← hpl]
      have HPL := hide hpl
      have hplw : (Lit.int .i64 pl).wf = true := WalkArith.wf_i64 ⟨by omega, by omega⟩
      clear hyk hyt hys hyi hb6 hpl p0 p1 p2 p3 p4 p5 p6 p7 p8 p9 p10 p11 p12 p13 p14 l4 HOWN
      go_wp2_with fail
      refine (walAdd_any l d L m k limit 0 forced pv zs f pl y W6 (by have := HZ5.out; have := HT4.out.size; have := HB3.out.size; omega) (by omega) (by omega) hplw HS6.out.kl HS6.out.op HS6.out.mf W6.heap.size HYI.out.ok).mono ?_
      rintro e W7 ⟨⟨v7, rfl⟩, pv7, kl7, op7, mf7, hT7, hloc7⟩
      have l2 : W7.cell? ⟨l, 2, none⟩ = some (.int .i64 0) := kl7.cell 2
      have f2 := kl7.frozen 2
      have ll := kl7.lt
      have HKL7 := hide kl7
      have HOP7 := hide op7
      have HMF7 := hide mf7
      have HT7 := hide hT7
      have HLOC7 := hide hloc7
      clear kl7 op7 mf7 hT7 hloc7
      go_wp2_with fail
      rw [HPO.out]
      have h1 := HN1.out
      have h2 := HN2.out
      have hpl' : head + ((bs.length + b2.length : Nat) : Int) = pl := by have h3 := HPL.out; omega
      have keep7 : ∀ {q : Nat} {cs : Array Value} {t : TypeId}, Blk W6 q t cs → t ≠ 97 → t ≠ 3 → Blk W7 q t cs := fun {q cs t} kk g1 g2 => (HT7.out.block q kk.lt (by
        rintro (h | h | h)
        · exact kk.ne_ (show Blk W6 q 97 _ from h ▸ HS6.out.kl) g1 rfl
        · exact HS6.out.mf.ne kk h
        · obtain ⟨cur, hc⟩ := row_obj HS6.out.op h.symm
          exact kk.ne_ (show Blk W6 q 3 cur from hc) g2 rfl)).trans kk
      have kd7 := keep7 HS6.out.kd (by decide) (by decide)
      have ol7 : OwnB W7 L (.slice A4 (bs ++ b2).length c4) (bs ++ b2) := HS6.out.ol.keep (fun q hq => by
        obtain ⟨cur, hc⟩ := row_obj HS6.out.ol hq
        exact (keep7 (show Blk W6 q 5 cur from hc) (by decide) (by decide)).trans (show Blk W6 q 5 cur from hc).symm)
      have hLS : LogS (W7.setCell ⟨l, 2, none⟩ (.int .i64 0)) l d m L limit forced sv mv (.slice A4 (bs ++ b2).length c4) pv7 (bs ++ b2) (zs ++ [pl]) (k + 1) (fun q => if q = pl then some (recV y) else f q) stale head sure fuse o4 :=
        ⟨HKL7.out.set_ 2 _, kd7.far (p := ⟨l, 2, none⟩) (kd7.ne_ HKL7.out (by decide)) _, ol7.far HKL7.out (by decide) _, own_farK (by rw [List.length_append]; exact HOP7.out) HKL7.out (by decide) _, HMF7.out.kept (Below.heap_setCell W7 ⟨l, 2, none⟩ _ m (fun e => HMF7.out.ne HKL7.out e.symm))⟩
      refine .inr ⟨b2, .slice A4 (bs ++ b2).length c4, pv7, y, W5.heap.size, W6.heap.size, o4, ?_⟩
      rw [hpl']
      refine ⟨rfl, by omega, by omega, by omega, HOK.out, fun h => by rw [← h2]; exact H33.out h, hLS, HY.out.1, HY.out.2.1, HY.out.2.2, ?_, ?_, ?_, ?_, ?_, ?_, ?_, ?_⟩
      all_goals
        have s1 := HB3.out.size
        have s2 := HT4.out.size
        have s3 := HZ5.out
        have s4 := HB6.out.size
        have s5 := HT7.out.size
      · exact HYI.out.keep (fun q g1 g2 => (Below.heap_setCell W7 ⟨l, 2, none⟩ _ q (fun e => by
          have e : q = l := e
          have := HS5.out.kl.lt
          omega)).trans (HT7.out.block q g2 (by
          rintro (h | h | h)
          · have := HS5.out.kl.lt
            omega
          · have := HS5.out.mf.lt
            omega
          · have := (World.ownsRow.lt HS5.out.op q h.symm).2
            omega)))
      · omega
      · simp only [World.setCell, Array.size_modify]
        omega
      · exact fun q hq => (HS5.out.ol.lt q hq).2
      · intro q hq
        rcases HLOC7.out with h | ⟨g, h, hg⟩
        · rw [h] at hq
          exact .inl (World.ownsRow.lt HS5.out.op q hq).2
        · rw [h] at hq
          injection hq with hq
          exact .inr (by omega)
      · rcases HLOC4.out with h | ⟨g, h, hg⟩
        · exact .inl h
        · exact .inr ⟨g, h, by omega⟩
      · rcases HLOC7.out with h | ⟨g, h, hg⟩
        · exact .inl h
        · exact .inr ⟨g, h, by omega⟩
      · exact Turn.set (S := fun q => q = l ∨ q = d ∨ q = m ∨ some q = (Value.slice Al bs.length cl).ownBlock ∨ some q = pv.ownBlock) ((Turn.of_below HB3.out).trans ((HT4.out.mono (fun q _ hq => by
          rcases hq with h | h
          · exact .inr (.inl h)
          · exact .inr (.inr (.inr (.inl h))))).trans ((Turn.of_below HB5.out).trans ((Turn.of_below HB6.out).trans (HT7.out.mono (fun q _ hq => by
          rcases hq with h | h | h
          · exact .inl h
          · exact .inr (.inr (.inl h))
          · exact .inr (.inr (.inr (.inr h))))))))) (p := ⟨l, 2, none⟩) (.inl (.inl rfl)) _
end Go.Proofs.YtnanlaefehaifaaGreat
