/-
  Texts of this claim, joined: YO, YQ.
-/
import Derived.Test.YtdbgppknggaooaaGreatDoorBk14
set_option maxHeartbeats 6400000
set_option maxRecDepth 100000
namespace Go.Proofs.YtdbgppknggaooaaGreatDoor.Vm
open Go Go.RowKit
noncomputable def keyN (v : AV) : Option Nat :=
  match intA v with
  | some p => bif is64 p.1 then natOf p.2 else none
  | none => none
noncomputable def notIn (k : Nat) : List Ent → Bool
  | [] => true
  | e :: r =>
    match keyN e.1 with
    | some k' => !(Nat.beq k k') && notIn k r
    | none => false
noncomputable def freshE (b clock : Nat) : List Ent → Bool
  | [] => Nat.blt b clock
  | e :: r => !(Nat.beq b e.2.2) && freshE b clock r
noncomputable def lastS (pn : Nat) (v : SlV) : M Nat :=
  match v with
  | .mk n off len _ es =>
    bif Nat.beq es 512 && (Nat.blt 0 len && (Nat.ble len 1000000 && !(Nat.beq n pn))) then M.bind (rowM n) fun q => M.bind (M.of (loadC q.2 (Nat.add off (Nat.mul (Nat.sub len 1) 512)) 512) "sync: page") fun cs => M.of (pageA (.agg cs)) "sync: bytes"
    else M.fail "sync: pages"
noncomputable def lastK (pn : Nat) (k : SlK) : M Nat :=
  match k with
  | .some v => lastS pn v
  | _ => M.fail "sync: pages"
noncomputable def lastPage (pn : Nat) (v : AV) : M Nat := M.bind (M.of (slA v) "sync: pages") fun k => lastK pn k
theorem of_ok2 {α : Type} {o : Option α} {e : String} {b : α} {s s' : St} (h : M.of o e s = .ok b s') : o = some b ∧ s = s' := ⟨(M.of_ok.1 h).1, (M.of_ok.1 h).2.symm⟩
noncomputable def syncE (pn off len clock : Nat) : List Ent → M Unit
  | [] => M.pure ()
  | e :: r => M.bind (M.of (keyN e.1) "sync: key") fun k =>
    bif Nat.blt k len && (notIn k r && freshE e.2.2 clock r) then
      M.bind (lastPage pn e.2.1) fun m => M.bind (rowM pn) fun q => M.bind (M.of (storeC q.2 (Nat.add off (Nat.mul k 512)) 512 [.bytes 512 m]) "sync: place") fun cs => M.bind (setM pn (some (.row q.1 cs))) fun _ => syncE pn off len clock r
    else M.fail "sync: entries"
noncomputable def syncV (p mn : Nat) (q : List Ent × Nat) (v : SlV) : M AV :=
  match v with
  | .mk n off len _ es => bif Nat.beq es 512 && !(Nat.beq p n) then M.bind (rowM n) fun _ => M.bind (syncE n off len q.2 q.1) fun _ => M.bind (setM mn (some (.map [] q.2))) fun _ => M.pure undefA else M.fail "sync: pages"
noncomputable def syncS (p mn : Nat) (q : List Ent × Nat) (k : SlK) : M AV :=
  match k with
  | .some v => syncV p mn q v
  | _ => M.fail "sync: pages"
noncomputable def syncO : List AV → M AV
  | [] => M.fail "sync"
  | a :: r =>
    match r with
    | [] => M.bind (M.of (addrA a) "sync: device") fun p => M.bind (loadI false 1 (.ptr p.1 p.2)) fun pv => M.bind (loadI false 1 (.ptr p.1 (Nat.add p.2 1))) fun mv =>
      M.bind (M.of (mapA mv) "sync: map") fun m => M.bind (M.of m "sync: nil") fun mn => M.bind (mapM mn) fun q => M.bind (M.of (slA pv) "sync: slice") fun k => syncS p.1 mn q k
    | _ :: _ => M.fail "sync"
theorem Loc.lastPage (pn : Nat) (v : AV) : Loc (lastPage pn v) := by
  refine Loc.bind (Loc.of _ _) fun k => ?_
  unfold lastK
  split
  · unfold lastS
    split
    exact Loc.cond (Loc.bind (Loc.rowM _) fun _ => Loc.bind (Loc.of _ _) fun _ => Loc.of _ _) (Loc.fail _)
  · exact Loc.fail _
theorem Loc.syncE (pn off len clock : Nat) : ∀ l, Loc (syncE pn off len clock l)
  | [] => Loc.pure _
  | _ :: r => Loc.bind (Loc.of _ _) fun _ => Loc.cond (Loc.bind (Loc.lastPage _ _) fun _ => Loc.bind (Loc.rowM _) fun _ => Loc.bind (Loc.of _ _) fun _ => Loc.bind (Loc.setM _ _) fun _ => Loc.syncE pn off len clock r) (Loc.fail _)
theorem Loc.syncS (p mn : Nat) (q : List Ent × Nat) (k : SlK) : Loc (syncS p mn q k) := by
  unfold Go.Proofs.YtdbgppknggaooaaGreatDoor.Vm.syncS
  split
  · unfold Go.Proofs.YtdbgppknggaooaaGreatDoor.Vm.syncV
    split
    exact Loc.cond (Loc.bind (Loc.rowM _) fun _ => Loc.bind (Loc.syncE _ _ _ _ _) fun _ => Loc.bind (Loc.setM _ _) fun _ => Loc.pure _) (Loc.fail _)
  · exact Loc.fail _
theorem Loc.syncO (args : List AV) : Loc (syncO args) := by
  unfold Go.Proofs.YtdbgppknggaooaaGreatDoor.Vm.syncO
  split
  · exact Loc.fail _
  · split
    · exact Loc.bind (Loc.of _ _) fun _ => Loc.bind (Loc.loadI _ _ _) fun _ => Loc.bind (Loc.loadI _ _ _) fun _ => Loc.bind (Loc.of _ _) fun _ => Loc.bind (Loc.of _ _) fun _ => Loc.bind (Loc.mapM _) fun _ => Loc.bind (Loc.of _ _) fun _ => Loc.syncS _ _ _ _
    · exact Loc.fail _
theorem spl_get {α : Type} (l us : List α) (o j : Nat) (h : o + us.length ≤ l.length) : (l.take o ++ (us ++ l.drop (o + us.length)))[j]? = if j < o then l[j]? else if j < o + us.length then us[j - o]? else l[j]? := by
  have h1 : (l.take o).length = o := by rw [List.length_take]; omega
  by_cases a : j < o
  · rw [if_pos a, List.getElem?_append_left (by omega), List.getElem?_take_of_lt a]
  · rw [if_neg a, List.getElem?_append_right (by omega), h1]
    by_cases b : j < o + us.length
    · rw [if_pos b, List.getElem?_append_left (by omega)]
    · rw [if_neg b, List.getElem?_append_right (by omega), List.getElem?_drop]
      congr 1
      omega
theorem spl_length {α : Type} (l us : List α) (o : Nat) (h : o + us.length ≤ l.length) : (l.take o ++ (us ++ l.drop (o + us.length))).length = l.length := by
  rw [List.length_append, List.length_append, List.length_take, List.length_drop]
  omega
section
variable {ρ : Ren} {s s' : St} {w w' : World}
theorem WRel.congr {h h' : Tr AObj} (hw : WRel ρ h w) (e : ∀ n, h'.get n = h.get n) : WRel ρ h' w :=
  ⟨fun n o hn => hw.at_ n o (by rw [← e]; exact hn), fun n m p q hn hm => hw.inj n m p q (by rw [← e]; exact hn) (by rw [← e]; exact hm)⟩
theorem Stp.congr {s1 s2 : St} {ρ' : Ren} (h : Stp s s1 ρ ρ' w w') (e : ∀ n, s2.h.get n = s1.h.get n) (hc : s2.c = s1.c) : Stp s s2 ρ ρ' w w' :=
  ⟨fun n hn => h.ext n (by rw [← hc]; exact hn), h.le, h.os, h.tape, h.output, h.size, h.block, fun q ⟨n, p, h1, h2, h3⟩ => h.own q ⟨n, p, by rw [← e]; exact h1, h2, h3⟩⟩
theorem keyN_rel {v : AV} {k : Nat} {u : Value} (h : keyN v = some k) (hu : VRel ρ v u) : u = .int .i64 (k : Int) := by
  unfold keyN at h
  cases hp : intA v with
  | none => rw [hp] at h; cases h
  | some p =>
    rw [hp] at h
    simp only at h
    cases hk : is64 p.1 with
    | false => rw [bif_false _ _ hk] at h; cases h
    | true =>
      rw [bif_true _ _ hk] at h
      have := intA_rel hp hu
      rw [is64_true hk] at this
      rw [this]
      obtain ⟨k0, i⟩ := p
      cases i with
      | ofNat m => simp only [natOf, Option.some.injEq] at h; subst h; rfl
      | negSucc m => cases h
theorem loadI_cell {n off : Nat} {v : AV} {p : Nat × Nat × Nat} (h : loadI false 1 (.ptr n off) s = .ok v s') (hw : WRel ρ s.h w) (hp : ρ n = some p) :
    ∃ e cs, s.h.get n = some (.row e cs) ∧ ∃ (vs : Array Value) (u : Value), Blk w p.1 e vs ∧ vs[p.2.1 + off]? = some u ∧ VRel ρ v u ∧ Alike s s' := by
  unfold loadI at h
  obtain ⟨p0, s1, h1, h2⟩ := M.bind_ok.1 h
  obtain ⟨ha0, rfl⟩ := of_ok2 h1
  injection ha0 with ha0
  subst ha0
  obtain ⟨q, s2, h3, h4⟩ := M.bind_ok.1 h2
  obtain ⟨g1, _, ha⟩ := rowM_ok h3
  obtain ⟨l, s3, h5, h6⟩ := M.bind_ok.1 h4
  obtain ⟨hl, rfl⟩ := of_ok2 h5
  obtain ⟨ho, rfl⟩ := of_ok2 h6
  obtain ⟨ob, hb, vs, kn, jk, rfl, hs, hd, hc⟩ := hw.row g1 hp
  obtain ⟨f1, f2⟩ := loadC_rel hl hc
  obtain ⟨u, e1, e2⟩ := oneA_rel ho f1
  refine ⟨q.1, q.2, g1, vs, u, hb, ?_, e2, ha⟩
  have e3 : ((kn.drop off).take 1)[0]? = some u := by rw [e1]; rfl
  rw [List.getElem?_take_of_lt (by omega), List.getElem?_drop, Nat.add_zero] at e3
  have e4 : (vs.toList.drop p.2.1)[off]? = some u := by rw [hd, List.getElem?_append_left (by omega)]; exact e3
  rw [List.getElem?_drop] at e4
  simpa using e4
theorem lastPage_ok {pn m : Nat} {v : AV} {u : Value} {p : Nat × Nat × Nat} (h : lastPage pn v s = .ok m s') (hw : WRel ρ s.h w) (hp : ρ pn = some p) (hs : (s.h.get pn).isSome = true) (hu : VRel ρ v u) : Alike s s' ∧ m < 2 ^ (8 * 512) ∧
    ∃ b o l cap t, ∃ cs : Array Value, u = .slice (some ⟨b, o, none⟩) l cap ∧ 0 < l ∧ l ≤ 1000000 ∧ b ≠ p.1 ∧ Blk w b t cs ∧ ∀ i x, ((unpack 512 m).map byteV)[i]? = some x → cs[o + (l - 1) * 512 + i]? = some x := by
  unfold lastPage at h
  obtain ⟨k, s1, h1, h2⟩ := M.bind_ok.1 h
  obtain ⟨hsl, rfl⟩ := of_ok2 h1
  cases k with
  | nil => exact ((M.fail_ok (s := s)).1 h2).elim
  | empty => exact ((M.fail_ok (s := s)).1 h2).elim
  | some sv =>
    obtain ⟨n, off, len, cap, es⟩ := sv
    have h : lastS pn (.mk n off len cap es) s = .ok m s' := h2
    unfold lastS at h
    simp only at h
    cases hb : (Nat.beq es 512 && (Nat.blt 0 len && (Nat.ble len 1000000 && !(Nat.beq n pn)))) with
    | false => rw [bif_false _ _ hb] at h; exact (M.fail_ok.1 h).elim
    | true =>
      rw [bif_true _ _ hb] at h
      simp only [Bool.and_eq_true, Bool.not_eq_true'] at hb
      obtain ⟨b1, b2, b3, b4⟩ := hb
      obtain ⟨q, s2, h3, h4⟩ := M.bind_ok.1 h
      obtain ⟨g1, _, ha⟩ := rowM_ok h3
      obtain ⟨l, s3, h5, h6⟩ := M.bind_ok.1 h4
      obtain ⟨hl, rfl⟩ := of_ok2 h5
      obtain ⟨hm, rfl⟩ := of_ok2 h6
      obtain ⟨pq, c, k1, k2, k3, _⟩ := slA_rel hsl hu
      obtain ⟨ob, hb, vs, kn, jk, rfl, hsz, hd, hc⟩ := hw.row g1 k1
      obtain ⟨f1, f2⟩ := loadC_rel hl hc
      have f3 : VRel ρ (.agg l) (.agg ((kn.drop (Nat.add off (Nat.mul (Nat.sub len 1) 512))).take 512).toArray) := ⟨_, rfl, by simpa using f1⟩
      obtain ⟨f4, f5⟩ := pageA_rel hm f3
      unfold pgV at f4
      injection f4 with f4
      have f6 : (kn.drop (Nat.add off (Nat.mul (Nat.sub len 1) 512))).take 512 = (unpack 512 m).map byteV := by simpa using congrArg Array.toList f4
      refine ⟨ha, f5, pq.1, pq.2.1 + off, len, c, q.1, vs, k2, blt_true.1 b2, ble_true.1 b3, fun e => ?_, hb, fun i x hx => ?_⟩
      · have := hw.inj n pn pq p (by rw [g1]; rfl) hs k1 hp e
        rw [this, Nat.beq_refl] at b4
        cases b4
      · rw [← f6] at hx
        have hi : i < 512 := by
          have := (List.getElem?_eq_some_iff.1 hx).1
          rw [List.length_take] at this
          omega
        rw [List.getElem?_take_of_lt hi, List.getElem?_drop] at hx
        have e0 : Nat.add off (Nat.mul (Nat.sub len 1) 512) = off + (len - 1) * 512 := rfl
        rw [e0] at hx
        have hlt := (List.getElem?_eq_some_iff.1 hx).1
        have e4 : (vs.toList.drop pq.2.1)[off + (len - 1) * 512 + i]? = some x := by rw [hd, List.getElem?_append_left hlt]; exact hx
        rw [List.getElem?_drop] at e4
        rw [← Array.getElem?_toList, ← e4]
        congr 1
        omega
theorem notIn_rel {k : Nat} : ∀ {l : List Ent} {ms : List MapEntry}, notIn k l = true → ERel ρ l ms → ∀ x ∈ ms, ∀ k' : Nat, x.key = .int .i64 (k' : Int) → k' ≠ k
  | [], ms, _, h, x, hx, _, _ => by rw [show ms = [] from h] at hx; cases hx
  | e :: r, ms, h, ⟨y, l', e1, h2, h3, h4, h5⟩, x, hx, k', hk => by
    subst e1
    unfold notIn at h
    cases hkn : keyN e.1 with
    | none => rw [hkn] at h; cases h
    | some k2 =>
      rw [hkn] at h
      simp only [Bool.and_eq_true, Bool.not_eq_true'] at h
      rcases List.mem_cons.1 hx with rfl | hx
      · have := keyN_rel hkn h2
        rw [this] at hk
        injection hk with _ hk
        intro e
        have : k = k2 := by omega
        rw [this, Nat.beq_refl] at h
        cases h.1
      · exact notIn_rel h.2 h5 x hx k' hk
theorem freshE_rel {b clock : Nat} : ∀ {l : List Ent} {ms : List MapEntry}, freshE b clock l = true → ERel ρ l ms → b < clock ∧ ∀ x ∈ ms, x.born ≠ b
  | [], ms, h, e => ⟨blt_true.1 h, fun x hx => by rw [show ms = [] from e] at hx; cases hx⟩
  | e :: r, ms, h, ⟨y, l', e1, h2, h3, h4, h5⟩ => by
    subst e1
    unfold freshE at h
    simp only [Bool.and_eq_true, Bool.not_eq_true'] at h
    obtain ⟨g1, g2⟩ := freshE_rel h.2 h5
    refine ⟨g1, fun x hx => ?_⟩
    rcases List.mem_cons.1 hx with rfl | hx
    · rw [h4]
      intro e
      rw [e, Nat.beq_refl] at h
      cases h.1
    · exact g2 x hx
theorem SyE.of {w1 : World} {g go n : Nat} {G G1 T : Array Value} {x : MapEntry} {k : Nat} {us : List UInt8} (h : SyE w1 g go n G1 T x k us) (hG : G1.size = G.size) (hw : ∀ q, q ≠ g → w1.heap[q]? = w.heap[q]?) : SyE w g go n G T x k us := by
  obtain ⟨h1, h2, h3, h4, h5, b, o, l, cap, t, cs, h6, h7, h8, h9, h10, h11⟩ := h
  exact ⟨h1, h2, by rw [← hG]; exact h3, h4, h5, b, o, l, cap, t, cs, h6, h7, h8, h9, (hw b h9).symm.trans h10, h11⟩
theorem syncE_ok {pn off len clock : Nat} {p : Nat × Nat × Nat} (hp : ρ pn = some p) : ∀ (l : List Ent) (ms : List MapEntry) (s s' : St) (w : World) (e : TypeId) (cs : List AV) (A kn jk : List Value), ERel ρ l ms → syncE pn off len clock l s = .ok () s' → WRel ρ s.h w → s.h.get pn = some (.row e cs) →
    Blk w p.1 e (A ++ (kn ++ jk)).toArray → A.length = p.2.1 → CRel ρ cs kn → kn.length + jk.length = p.2.2 →
    ∃ cs' kn', s'.c = s.c ∧ (∀ n, s'.h.get n = if n = pn then some (.row e cs') else s.h.get n) ∧ CRel ρ cs' kn' ∧ kn'.length = kn.length ∧
      (∀ x ∈ ms, ∃ k us, SyE w p.1 (p.2.1 + off) len (A ++ (kn ++ jk)).toArray (A ++ (kn' ++ jk)).toArray x k us) ∧ (∀ i : Nat, (¬ ∃ x ∈ ms, Cov (p.2.1 + off) x i) → (A ++ (kn' ++ jk)).toArray[i]? = (A ++ (kn ++ jk)).toArray[i]?) ∧
      (∀ x ∈ ms, x.born < clock) ∧ (ms.map (·.born)).Nodup
  | [], ms, s, s', w, e, cs, A, kn, jk, hE, h, hw, hr, kg, hA, hc, hz => by
    obtain ⟨_, rfl⟩ := M.pure_ok.1 h
    obtain rfl : ms = [] := hE
    refine ⟨cs, kn, rfl, fun n => ?_, hc, rfl, fun x hx => (by cases hx), fun _ _ => rfl, fun x hx => (by cases hx), List.nodup_nil⟩
    by_cases hn : n = pn
    · rw [if_pos hn, hn]; exact hr
    · rw [if_neg hn]
  | en :: r, ms, s, s', w, e, cs, A, kn, jk, ⟨x, l', hms, hx1, hx2, hx3, hE⟩, h, hw, hr, kg, hA, hc, hz => by
    subst hms
    unfold syncE at h
    obtain ⟨k, s1, h1, h2⟩ := M.bind_ok.1 h
    obtain ⟨hk, rfl⟩ := of_ok2 h1
    cases hb : (Nat.blt k len && (notIn k r && freshE en.2.2 clock r)) with
    | false => rw [bif_false _ _ hb] at h2; exact (M.fail_ok.1 h2).elim
    | true =>
      rw [bif_true _ _ hb] at h2
      simp only [Bool.and_eq_true] at hb
      obtain ⟨b1, b2, b3⟩ := hb
      obtain ⟨m, s2, h3, h4⟩ := M.bind_ok.1 h2
      obtain ⟨al, hm, b, o, l, cap, t, cq, f1, f2, f3, f4, f5, f6⟩ := lastPage_ok h3 hw hp (by rw [hr]; rfl) hx2
      obtain ⟨q, s3, h5, h6⟩ := M.bind_ok.1 h4
      obtain ⟨g1, _, g2⟩ := rowM_ok h5
      obtain ⟨cs1, s4, h7, h8⟩ := M.bind_ok.1 h6
      obtain ⟨hst, rfl⟩ := of_ok2 h7
      obtain ⟨_, s5, h9, h10⟩ := M.bind_ok.1 h8
      obtain ⟨_, rfl⟩ := setM_ok.1 h9
      rw [al.1, hr] at g1
      injection g1 with g1
      injection g1 with g1 g3
      subst g1 g3
      have hkey := keyN_rel hk hx1
      have hlk := blt_true.1 b1
      obtain ⟨st1, st2⟩ := storeC_rel hst hc (show CRel ρ [.bytes 512 m] ((unpack 512 m).map byteV) from CRel.bytes_iff.2 ⟨[], by rw [List.append_nil]; rfl, hm, CRel.nil⟩)
      have e0 : Nat.add off (Nat.mul k 512) = off + k * 512 := rfl
      rw [e0] at st1 st2
      have hul : ((unpack 512 m).map byteV).length = 512 := by rw [List.length_map, unpack_length]
      have hsl := spl_length kn ((unpack 512 m).map byteV) (off + k * 512) (by rw [hul]; exact st2)
      have hsg := fun j => spl_get kn ((unpack 512 m).map byteV) (off + k * 512) j (by rw [hul]; exact st2)
      rw [hul] at hsl hsg
      generalize hkn1 : kn.take (off + k * 512) ++ ((unpack 512 m).map byteV ++ kn.drop (off + k * 512 + 512)) = kn1 at st1 hsl hsg
      have hgl : p.1 < w.heap.size := heap_at kg
      have hon : Only p.1 w { w with heap := w.heap.setIfInBounds p.1 (.cells (A ++ (kn1 ++ jk)).toArray q.1 (0, 0)) } := ⟨rfl, rfl, rfl, by simp, fun q hq => by simp [Ne.symm hq]⟩
      have hal2 := al.trans g2
      have hsr := set_rel (s := s) (s' := .mk (s.h.put pn (some (.row q.1 cs1))) s.c s.r s.w) (o := .row q.1 cs1) hw (by rw [hr]; rfl) hp rfl hon (ob := .cells (A ++ (kn1 ++ jk)).toArray q.1 (0, 0)) (by simp [hgl]) ⟨_, kn1, jk, rfl, by simp [hA]; omega, by rw [← hA]; simp, st1⟩
      have hget : ∀ n, (s3.h.put pn (some (.row q.1 cs1))).get n = (s.h.put pn (some (.row q.1 cs1))).get n := fun n => by rw [hal2.1]
      obtain ⟨cs', kn', i1, i2, i3, i4, i5, i6, i7, i8⟩ := syncE_ok hp r l' _ s' { w with heap := w.heap.setIfInBounds p.1 (.cells (A ++ (kn1 ++ jk)).toArray q.1 (0, 0)) } q.1 cs1 A kn1 jk hE h10 (hsr.1.congr hget) (by show (s3.h.put pn (some (.row q.1 cs1))).get pn = _; rw [Tr.get_put, if_pos rfl]) (by unfold Blk; simp [hgl]) hA st1 (by omega)
      have hsz : ((A ++ (kn1 ++ jk)).toArray).size = ((A ++ (kn ++ jk)).toArray).size := by simp; omega
      have hsz' : ((A ++ (kn' ++ jk)).toArray).size = ((A ++ (kn ++ jk)).toArray).size := by simp; omega
      have hkeep : ∀ i : Nat, ¬ (p.2.1 + off + k * 512 ≤ i ∧ i < p.2.1 + off + k * 512 + 512) → (A ++ (kn1 ++ jk)).toArray[i]? = (A ++ (kn ++ jk)).toArray[i]? := fun i hi => by
        rw [List.getElem?_toArray, List.getElem?_toArray]
        rcases Nat.lt_or_ge i A.length with h | h
        · rw [List.getElem?_append_left h, List.getElem?_append_left h]
        · rw [List.getElem?_append_right h, List.getElem?_append_right h]
          rcases Nat.lt_or_ge (i - A.length) kn.length with h' | h'
          · rw [List.getElem?_append_left (by omega), List.getElem?_append_left h', hsg]
            split
            · rfl
            · rw [if_neg (by omega)]
          · rw [List.getElem?_append_right (by omega), List.getElem?_append_right h', hsl]
      have hown : ∀ i x, ((unpack 512 m).map byteV)[i]? = some x → (A ++ (kn1 ++ jk)).toArray[p.2.1 + off + k * 512 + i]? = some x := fun i x hx => by
        have hi : i < 512 := by have := (List.getElem?_eq_some_iff.1 hx).1; omega
        rw [List.getElem?_toArray, List.getElem?_append_right (by omega), List.getElem?_append_left (by omega), hsg, if_neg (by omega), if_pos (by omega), ← hx]
        congr 1
        omega
      have hdis : ∀ i, p.2.1 + off + k * 512 ≤ i → i < p.2.1 + off + k * 512 + 512 → ¬ ∃ y ∈ l', Cov (p.2.1 + off) y i := fun i g3 g4 ⟨y, hy, k', g5, g6, g7⟩ => by
        have := notIn_rel b2 hE y hy k' g5
        omega
      obtain ⟨fr1, fr2⟩ := freshE_rel b3 hE
      refine ⟨cs', kn', by rw [i1]; exact hal2.2, fun n => ?_, i3, by omega, fun y hy => ?_, fun i hi => ?_, fun y hy => ?_, ?_⟩
      · rw [i2]
        split
        · rfl
        · rename_i hne
          show (s3.h.put pn (some (.row q.1 cs1))).get n = _
          rw [Tr.get_put, if_neg hne, hal2.1]
      · rcases List.mem_cons.1 hy with rfl | hy
        · refine ⟨k, unpack 512 m, hkey, hlk, ?_, unpack_length _ _, fun i u hu => ?_, b, o, l, cap, t, cq, f1, f2, f3, f4, f5, f6⟩
          · simp [hA]; omega
          · have hi : i < 512 := by have := (List.getElem?_eq_some_iff.1 hu).1; omega
            rw [i6 _ (hdis _ (by omega) (by omega))]
            exact hown i u hu
        · obtain ⟨k2, us2, g3⟩ := i5 y hy
          exact ⟨k2, us2, g3.of hsz (fun q hq => by simp [Ne.symm hq])⟩
      · rw [i6 i (fun ⟨y, hy, hc⟩ => hi ⟨y, List.mem_cons_of_mem _ hy, hc⟩)]
        refine hkeep i (fun hin => hi ⟨x, List.mem_cons_self, k, hkey, hin.1, hin.2⟩)
      · rcases List.mem_cons.1 hy with rfl | hy
        · rw [hx3]; exact fr1
        · exact i7 y hy
      · rw [List.map_cons, List.nodup_cons]
        refine ⟨fun hin => ?_, i8⟩
        obtain ⟨y, hy, hyb⟩ := List.mem_map.1 hin
        exact fr2 y hy (hyb.trans hx3)
theorem sync_ok {args : List AV} {v : AV} (h : syncO args s = .ok v s') : CallOK Tryz.prog 116 args s v s' := by
  unfold syncO at h
  split at h
  · exact (M.fail_ok.1 h).elim
  · rename_i a r
    split at h
    · intro ρ w us n hw hf hu
      obtain ⟨u, r', e, v1, v2⟩ := LRel.cons_iff.1 hu
      rw [LRel.nil_iff.1 v2] at e
      obtain ⟨pa, s1, h1, h2⟩ := M.bind_ok.1 h
      obtain ⟨ha, rfl⟩ := of_ok2 h1
      obtain ⟨d, hd, rfl⟩ := addrA_rel ha v1
      obtain rfl : us = #[.pointer (some ⟨d.1, d.2.1 + pa.2, none⟩)] := Array.ext' e
      obtain ⟨pv, s2, h3, h4⟩ := M.bind_ok.1 h2
      obtain ⟨ed, cd, hdr, D, u0, kd, c1, r0, al1⟩ := loadI_cell h3 hw hd
      obtain ⟨mv, s3, h5, h6⟩ := M.bind_ok.1 h4
      obtain ⟨ed', cd', hdr', D', u1, kd', c2, r1, al2⟩ := loadI_cell h5 (hw.alike al1) hd
      have kdd := kd
      unfold Blk at kd kd'
      rw [kd] at kd'
      injection kd' with kd'
      injection kd' with kd1 kd2
      subst kd1 kd2
      obtain ⟨mo, s4, h7, h8⟩ := M.bind_ok.1 h6
      obtain ⟨hmo, rfl⟩ := of_ok2 h7
      obtain ⟨mn, s5, h9, h10⟩ := M.bind_ok.1 h8
      obtain ⟨hmn, rfl⟩ := of_ok2 h9
      subst hmn
      obtain ⟨pm, hpm, rfl⟩ := mapA_rel hmo r1
      obtain ⟨q, s6, h11, h12⟩ := M.bind_ok.1 h10
      have al12 := al1.trans al2
      obtain ⟨gm, gmc, al3⟩ := mapM_ok h11
      obtain ⟨es, hes, hE⟩ := (hw.alike al12).map gm hpm
      obtain ⟨sk, s7, h13, h14⟩ := M.bind_ok.1 h12
      obtain ⟨hsk, rfl⟩ := of_ok2 h13
      have al := al12.trans al3
      cases sk with
      | nil => exact ((M.fail_ok (s := s6)).1 h14).elim
      | empty => exact ((M.fail_ok (s := s6)).1 h14).elim
      | some sv =>
        obtain ⟨pn, off, len, cap, es0⟩ := sv
        have h15 : syncV pa.1 mn q (.mk pn off len cap es0) s6 = .ok v s' := h14
        unfold syncV at h15
        simp only at h15
        cases hb : (Nat.beq es0 512 && !(Nat.beq pa.1 pn)) with
        | false => rw [bif_false _ _ hb] at h15; exact (M.fail_ok.1 h15).elim
        | true =>
          rw [bif_true _ _ hb] at h15
          simp only [Bool.and_eq_true, Bool.not_eq_true'] at hb
          obtain ⟨pg, cc, hpg, rfl, _, _⟩ := slA_rel hsk r0
          obtain ⟨q7, s7, h20, h21⟩ := M.bind_ok.1 h15
          obtain ⟨gr, _, al4⟩ := rowM_ok h20
          obtain ⟨_, s8, h16, h17⟩ := M.bind_ok.1 h21
          obtain ⟨_, s9, h18, h19⟩ := M.bind_ok.1 h17
          obtain ⟨rfl, rfl⟩ := M.pure_ok.1 h19
          obtain ⟨_, hs9⟩ := setM_ok.1 h18
          have al7 := al.trans al4
          rw [al.1] at gr
          rw [al12.1] at gm
          obtain ⟨ob, kg, vs, kn, jk, rfl, hsz, hdr2, hc⟩ := hw.row gr hpg
          obtain ⟨A, hA⟩ : ∃ A : List Value, A = vs.toList.take pg.2.1 := ⟨_, rfl⟩
          have hAl : A.length = pg.2.1 := by rw [hA, List.length_take, Array.length_toList]; omega
          obtain rfl : vs = (A ++ (kn ++ jk)).toArray := Array.ext' (by rw [hA, ← hdr2]; simp)
          have hkj : kn.length + jk.length = pg.2.2 := by simp [hAl] at hsz; omega
          obtain ⟨cs', kn', i1, i2, i3, i4, i5, i6, i7, i8⟩ := syncE_ok hpg q.1 es.toList s7 s8 w q7.1 q7.2 A kn jk hE h16 (hw.alike al7) (by rw [al7.1]; exact gr) kg hAl hc hkj
          have hdg : d.1 ≠ pg.1 := fun e => by
            have := hw.inj pa.1 pn d pg (by rw [hdr]; rfl) (by rw [gr]; rfl) hd hpg e
            rw [this, Nat.beq_refl] at hb
            cases hb.2
          have hmp : mn ≠ pn := fun e => by
            rw [e, gr] at gm
            cases gm
          have hgl := heap_at kg
          have hml := heap_at hes
          have hgm : pg.1 ≠ pm.1 := fun e => by
            rw [← e, kg] at hes
            cases hes
          refine callsIn_wide.2 ((sync_any w d.1 (d.2.1 + pa.2) pg.1 (pg.2.1 + off) len cc pm.1 ed q7.1 D _ (A ++ (kn' ++ jk)).toArray es q.2 kdd c1 (by rw [Nat.add_assoc]; exact c2) hdg kg hes (by simp; omega) i6 i5 i7 i8).mono ?_)
          rintro e w' ⟨rfl, hbel⟩
          have hset1 := set_rel (s := s) (s' := .mk (s.h.put pn (some (.row q7.1 cs'))) s.c s.r s.w) (o := .row q7.1 cs') (w' := { w with heap := w.heap.setIfInBounds pg.1 (.cells (A ++ (kn' ++ jk)).toArray q7.1 (0, 0)) }) hw (by rw [gr]; rfl) hpg rfl ⟨rfl, rfl, rfl, by simp, fun q hq => by simp [Ne.symm hq]⟩ (ob := .cells (A ++ (kn' ++ jk)).toArray q7.1 (0, 0)) (by simp [hgl]) ⟨_, kn', jk, rfl, by simp [hAl]; omega, by rw [← hAl]; simp, i3⟩
          have hset2 := set_rel (s := .mk (s.h.put pn (some (.row q7.1 cs'))) s.c s.r s.w) (s' := .mk ((s.h.put pn (some (.row q7.1 cs'))).put mn (some (.map [] q.2))) s.c s.r s.w) (o := .map [] q.2) (w' := syW w pg.1 pm.1 q7.1 (A ++ (kn' ++ jk)).toArray q.2) hset1.1 (by show ((s.h.put pn (some (.row q7.1 cs'))).get mn).isSome = true; rw [Tr.get_put, if_neg hmp, gm]; rfl) hpm rfl ⟨rfl, rfl, rfl, by simp [syW], fun q hq => by simp [syW, Ne.symm hq]⟩ (ob := .map #[] q.2) (by simp [syW, hml]) ⟨#[], rfl, rfl⟩
          have hbr := below_rel hset2.1 hbel
          have hget : ∀ n, s'.h.get n = ((s.h.put pn (some (.row q7.1 cs'))).put mn (some (.map [] q.2))).get n := fun n => by
            rw [hs9]
            show (s8.h.put mn _).get n = _
            rw [Tr.get_put, Tr.get_put, Tr.get_put, i2, al7.1]
          refine ⟨ρ, undef, rfl, undef_rel, hbr.1.congr hget, ?_⟩
          exact (Stp.trans (Stp.trans hset1.2 hset2.2 (Nat.le_refl _) (Nat.le_refl _)) hbr.2 (Nat.le_refl _) (Nat.le_refl _)).congr hget (by rw [hs9]; exact i1.trans al7.2)
    · exact (M.fail_ok.1 h).elim
end
end Go.Proofs.YtdbgppknggaooaaGreatDoor.Vm
namespace Go.Proofs.YtdbgppknggaooaaGreatDoor.Vm
open Go Go.RowKit
noncomputable def bytesK (k : SlK) : M (List UInt8) :=
  match k with
  | .nil => M.pure []
  | .empty => M.pure []
  | .some v =>
    match v with
    | .mk n off len _ es => bif Nat.beq es 1 then M.bind (rowM n) fun q => M.bind (M.of (loadC q.2 off len) "bytes: cells") fun cs => M.of (bytesOfC cs) "bytes" else M.fail "bytes: size"
noncomputable def crcL : List UInt8 → Nat → Nat
  | [], s => s
  | b :: r, s => forceN (crc1 s b.toNat) fun s => crcL r s
theorem crcL_eq : ∀ (l : List UInt8) (s : Nat), crcL l s = l.foldl stepR s
  | [], _ => rfl
  | b :: r, s => by rw [crcL, forceN_eq, crcL_eq r, List.foldl_cons, crc1_eq]
noncomputable def is32 : IntKind → Bool
  | .u32 => true
  | _ => false
theorem is32_true {k : IntKind} (h : is32 k = true) : k = .u32 := by cases k <;> first | rfl | cases h
noncomputable def moreV (s : Nat) (l : List UInt8) : M AV := bif Nat.ble s 4294967295 && Nat.ble l.length 1000000 then forceN (Nat.sub 4294967295 (crcL l (Nat.sub 4294967295 s))) fun r => M.pure (.int .u32 (.ofNat r)) else M.fail "more: great"
noncomputable def moreO : List AV → M AV
  | [] => M.fail "more"
  | a :: r =>
    match r with
    | [] => M.fail "more"
    | b :: r =>
      match r with
      | [] => M.bind (M.of (intA a) "more: sum") fun p => M.bind (M.of (natOf p.2) "more: sum") fun s => bif is32 p.1 then M.bind (M.of (slA b) "more: slice") fun k => M.bind (bytesK k) fun l => moreV s l else M.fail "more: sum"
      | _ :: _ => M.fail "more"
noncomputable def numV (l : List UInt8) (at_ width : Nat) : M AV := bif Nat.ble l.length 1000000 && (Nat.ble at_ 1000000 && Nat.ble width 1000000) then
    bif Nat.ble 1 width && (Nat.ble width 8 && Nat.ble (Nat.add at_ width) l.length) then forceI (numI (cutB l at_ width)) fun r => M.pure (.tuple [.int .i64 r, .bool true]) else M.pure (.tuple [.int .i64 0, .bool false])
  else M.fail "num: great"
noncomputable def numO : List AV → M AV
  | [] => M.fail "num"
  | a :: r =>
    match r with
    | [] => M.fail "num"
    | b :: r =>
      match r with
      | [] => M.fail "num"
      | c :: r =>
        match r with
        | [] => M.bind (M.of (keyN b) "num: at") fun at_ => M.bind (M.of (keyN c) "num: width") fun width => M.bind (M.of (slA a) "num: slice") fun k => M.bind (bytesK k) fun l => numV l at_ width
        | _ :: _ => M.fail "num"
theorem Loc.bytesK (k : SlK) : Loc (bytesK k) := by
  unfold Go.Proofs.YtdbgppknggaooaaGreatDoor.Vm.bytesK
  split
  · exact Loc.pure _
  · exact Loc.pure _
  · split
    exact Loc.cond (Loc.bind (Loc.rowM _) fun _ => Loc.bind (Loc.of _ _) fun _ => Loc.of _ _) (Loc.fail _)
theorem Loc.moreO (args : List AV) : Loc (moreO args) := by
  unfold Go.Proofs.YtdbgppknggaooaaGreatDoor.Vm.moreO
  split
  · exact Loc.fail _
  · split
    · exact Loc.fail _
    · split
      · refine Loc.bind (Loc.of _ _) fun _ => Loc.bind (Loc.of _ _) fun _ => Loc.cond (Loc.bind (Loc.of _ _) fun _ => Loc.bind (Loc.bytesK _) fun _ => ?_) (Loc.fail _)
        unfold moreV
        rw [forceN_eq]
        exact Loc.cond (Loc.pure _) (Loc.fail _)
      · exact Loc.fail _
theorem Loc.numO (args : List AV) : Loc (numO args) := by
  unfold Go.Proofs.YtdbgppknggaooaaGreatDoor.Vm.numO
  split
  · exact Loc.fail _
  · split
    · exact Loc.fail _
    · split
      · exact Loc.fail _
      · split
        · refine Loc.bind (Loc.of _ _) fun _ => Loc.bind (Loc.of _ _) fun _ => Loc.bind (Loc.of _ _) fun _ => Loc.bind (Loc.bytesK _) fun _ => ?_
          unfold numV
          rw [forceI_eq]
          exact Loc.cond (Loc.cond (Loc.pure _) (Loc.pure _)) (Loc.fail _)
        · exact Loc.fail _
section
variable {ρ : Ren} {s s' : St} {w w' : World}
theorem bytesK_rel {a : AV} {k : SlK} {l : List UInt8} {u : Value} (hk : slA a = some k) (h : bytesK k s = .ok l s') (hu : VRel ρ a u) (hw : WRel ρ s.h w) : Alike s s' ∧ ∃ A n c, u = .slice A n c ∧ n ≤ c ∧ n = l.length ∧ Reads w w.heap.size 1 A n (l.map byteV) := by
  have hr := slA_rel hk hu
  unfold bytesK at h
  cases k with
  | nil =>
    obtain ⟨rfl, rfl⟩ := M.pure_ok.1 h
    obtain rfl : u = .slice none 0 0 := hr
    exact ⟨Alike.refl _, none, 0, 0, rfl, Nat.le_refl _, rfl, Reads.none_⟩
  | empty =>
    obtain ⟨rfl, rfl⟩ := M.pure_ok.1 h
    obtain ⟨a0, c0, rfl⟩ := hr
    exact ⟨Alike.refl _, some a0, 0, c0, rfl, Nat.zero_le _, rfl, by simp, fun hn => absurd hn (by omega)⟩
  | some v =>
    obtain ⟨n, off, len, cap, es⟩ := v
    simp only at h
    cases he : Nat.beq es 1 with
    | false => rw [bif_false _ _ he] at h; exact (M.fail_ok.1 h).elim
    | true =>
      rw [bif_true _ _ he] at h
      obtain ⟨q, s2, h3, h4⟩ := M.bind_ok.1 h
      obtain ⟨g1, _, ha⟩ := rowM_ok h3
      obtain ⟨cs, s3, h5, h6⟩ := M.bind_ok.1 h4
      obtain ⟨hl, rfl⟩ := of_ok2 h5
      obtain ⟨hb, rfl⟩ := of_ok2 h6
      obtain ⟨p, c, k1, rfl, k3, _⟩ := hr
      obtain ⟨ob, hob, vs, kn, jk, rfl, hsz, hd, hc⟩ := hw.row g1 k1
      obtain ⟨f1, f2⟩ := loadC_rel hl hc
      have f3 := bytesOfC_rel hb f1
      have hlen : l.length = len := by
        have := congrArg List.length f3
        rw [List.length_take, List.length_drop, List.length_map] at this
        omega
      refine ⟨ha, _, len, c, rfl, k3, hlen.symm, by rw [List.length_map, Nat.mul_one]; exact hlen, fun hn => ⟨_, rfl, heap_at hob, fun j x hx => ?_⟩⟩
      have hx2 := hx
      rw [← f3] at hx2
      have hj : j < len := by have := (List.getElem?_eq_some_iff.1 hx).1; rw [List.length_map] at this; omega
      rw [List.getElem?_take_of_lt hj, List.getElem?_drop] at hx2
      have e4 : (vs.toList.drop p.2.1)[off + j]? = some x := by rw [hd, List.getElem?_append_left (by omega)]; exact hx2
      rw [List.getElem?_drop] at e4
      rw [add_plain]
      have hcell := Blk.cell (show Blk w p.1 q.1 vs from hob) (p.2.1 + off + j)
      rw [hcell, ← Array.getElem?_toList, ← e4]
      congr 1
      omega
theorem natOf_eq {z : Int} {n : Nat} (h : natOf z = some n) : z = (n : Int) := by
  cases z with
  | ofNat m => simp only [natOf, Option.some.injEq] at h; subst h; rfl
  | negSucc m => cases h
theorem more_ok {args : List AV} {v : AV} (h : moreO args s = .ok v s') : CallOK Tryz.prog 221 args s v s' := by
  unfold moreO at h
  split at h
  · exact (M.fail_ok.1 h).elim
  · rename_i a r
    split at h
    · exact (M.fail_ok.1 h).elim
    · rename_i b r
      split at h
      · intro ρ w us n hw hf hu
        obtain ⟨p, s1, h1, h2⟩ := M.bind_ok.1 h
        obtain ⟨hp, rfl⟩ := of_ok2 h1
        obtain ⟨m, s2, h3, h4⟩ := M.bind_ok.1 h2
        obtain ⟨hm, rfl⟩ := of_ok2 h3
        cases hk : is32 p.1 with
        | false => rw [bif_false _ _ hk] at h4; exact (M.fail_ok.1 h4).elim
        | true =>
          rw [bif_true _ _ hk] at h4
          obtain ⟨k, s3, h5, h6⟩ := M.bind_ok.1 h4
          obtain ⟨hsl, rfl⟩ := of_ok2 h5
          obtain ⟨l, s4, h7, h8⟩ := M.bind_ok.1 h6
          obtain ⟨u, r', e, g1, g2⟩ := LRel.cons_iff.1 hu
          obtain ⟨u2, r2, rfl, g3, g4⟩ := LRel.cons_iff.1 g2
          rw [LRel.nil_iff.1 g4] at e
          have hu1 := intA_rel hp g1
          rw [is32_true hk, natOf_eq hm] at hu1
          obtain ⟨al, A, nn, c, rfl, hnc, hnl, hrd⟩ := bytesK_rel hsl h7 g3 hw
          obtain rfl : us = #[.int .u32 (m : Int), .slice A nn c] := Array.ext' (by rw [e, hu1])
          unfold moreV at h8
          cases hb : (Nat.ble m 4294967295 && Nat.ble l.length 1000000) with
          | false => rw [bif_false _ _ hb] at h8; exact (M.fail_ok.1 h8).elim
          | true =>
            rw [bif_true _ _ hb, forceN_eq] at h8
            obtain ⟨rfl, rfl⟩ := M.pure_ok.1 h8
            rw [Bool.and_eq_true] at hb
            have hb1 := ble_true.1 hb.1
            have hb2 := ble_true.1 hb.2
            refine callsIn_wide.2 ((more_any m A nn c l w.heap.size w (by omega) (Nat.le_refl _) (by omega) hnl hrd).mono ?_)
            rintro e w' ⟨rfl, hbel⟩
            have hbr := below_rel hw hbel
            refine ⟨ρ, _, rfl, ?_, hbr.1.alike al, hbr.2.thenAlike al⟩
            rw [moreD_eq]
            unfold moreR
            rw [crcL_eq]
            rfl
      · exact (M.fail_ok.1 h).elim
theorem num_no (A : Option Addr) (n c at_ width : Nat) (w : World) (ha : at_ ≤ 1000000) (hw : width ≤ 1000000) (h : ¬ (1 ≤ width ∧ width ≤ 8 ∧ at_ + width ≤ n)) :
    Calls Tryz.prog 109 #[.slice A n c, .int .i64 (at_ : Nat), .int .i64 (width : Nat)] w fun e w' => e = .returned (.tuple #[.int .i64 0, .bool false]) ∧ w' = w := by
  by_cases h1 : 1 ≤ width ∧ width ≤ 8
  · have HW := hide (wide_any (width : Nat) true (by simp; omega) w)
    have a2 : (0 : Int) ≤ at_ := by omega
    by_cases h2 : at_ ≤ n
    · have a1 : (at_ : Int) ≤ n := by omega
      have a3 : (n : Int) - at_ < width := by omega
      clear h h1 h2
      go_enter Tryz.func109, Tryz.ntmps109
      go_wp2_with (go_at_call 170; refine HW.out.mono ?_; rintro e w' ⟨rfl, hw'⟩; obtain rfl := hw'.symm)
      go_ret2
      exact ⟨rfl, rfl⟩
    · have a1 : (n : Int) < at_ := by omega
      clear h h1 h2
      go_enter Tryz.func109, Tryz.ntmps109
      go_wp2_with (go_at_call 170; refine HW.out.mono ?_; rintro e w' ⟨rfl, hw'⟩; obtain rfl := hw'.symm)
      go_ret2
      exact ⟨rfl, rfl⟩
  · have HW := hide (wide_any (width : Nat) false (by simp; omega) w)
    clear h h1
    go_enter Tryz.func109, Tryz.ntmps109
    go_wp2_with (go_at_call 170; refine HW.out.mono ?_; rintro e w' ⟨rfl, hw'⟩; obtain rfl := hw'.symm)
    go_ret2
    exact ⟨rfl, rfl⟩
theorem num_ok {args : List AV} {v : AV} (h : numO args s = .ok v s') : CallOK Tryz.prog 109 args s v s' := by
  unfold numO at h
  split at h
  · exact (M.fail_ok.1 h).elim
  · rename_i a r
    split at h
    · exact (M.fail_ok.1 h).elim
    · rename_i b r
      split at h
      · exact (M.fail_ok.1 h).elim
      · rename_i c r
        split at h
        · intro ρ w us n hw hf hu
          obtain ⟨at_, s1, h1, h2⟩ := M.bind_ok.1 h
          obtain ⟨ha, rfl⟩ := of_ok2 h1
          obtain ⟨width, s2, h3, h4⟩ := M.bind_ok.1 h2
          obtain ⟨hwd, rfl⟩ := of_ok2 h3
          obtain ⟨k, s3, h5, h6⟩ := M.bind_ok.1 h4
          obtain ⟨hsl, rfl⟩ := of_ok2 h5
          obtain ⟨l, s4, h7, h8⟩ := M.bind_ok.1 h6
          obtain ⟨u, r', e, g1, g2⟩ := LRel.cons_iff.1 hu
          obtain ⟨u2, r2, rfl, g3, g4⟩ := LRel.cons_iff.1 g2
          obtain ⟨u3, r3, rfl, g5, g6⟩ := LRel.cons_iff.1 g4
          rw [LRel.nil_iff.1 g6] at e
          obtain ⟨al, A, nn, cp, rfl, hnc, hnl, hrd⟩ := bytesK_rel hsl h7 g1 hw
          obtain rfl := keyN_rel ha g3
          obtain rfl := keyN_rel hwd g5
          obtain rfl : us = #[.slice A nn cp, .int .i64 (at_ : Int), .int .i64 (width : Int)] := Array.ext' e
          unfold numV at h8
          cases hg : (Nat.ble l.length 1000000 && (Nat.ble at_ 1000000 && Nat.ble width 1000000)) with
          | false => rw [bif_false _ _ hg] at h8; exact (M.fail_ok.1 h8).elim
          | true =>
            rw [bif_true _ _ hg] at h8
            simp only [Bool.and_eq_true] at hg
            obtain ⟨b4, b5, b6⟩ := hg
            have b4 := ble_true.1 b4
            have b5 := ble_true.1 b5
            have b6 := ble_true.1 b6
            cases hb : (Nat.ble 1 width && (Nat.ble width 8 && Nat.ble (Nat.add at_ width) l.length)) with
            | false =>
              rw [bif_false _ _ hb] at h8
              obtain ⟨rfl, rfl⟩ := M.pure_ok.1 h8
              have hno : ¬ (1 ≤ width ∧ width ≤ 8 ∧ at_ + width ≤ nn) := fun ⟨x1, x2, x3⟩ => by
                rw [ble_true.2 x1, ble_true.2 x2, ble_true.2 (show Nat.add at_ width ≤ l.length by rw [← hnl]; exact x3)] at hb
                cases hb
              refine callsIn_wide.2 ((num_no A nn cp at_ width w b5 b6 hno).mono ?_)
              rintro e w' ⟨rfl, rfl⟩
              exact ⟨ρ, _, rfl, tup2 rfl rfl, hw.alike al, Stp.alike al⟩
            | true =>
              rw [bif_true _ _ hb, forceI_eq] at h8
              obtain ⟨rfl, rfl⟩ := M.pure_ok.1 h8
              simp only [Bool.and_eq_true] at hb
              obtain ⟨b1, b2, b3⟩ := hb
              have b1 := ble_true.1 b1
              have b2 := ble_true.1 b2
              have b3 : at_ + width ≤ l.length := ble_true.1 b3
              refine callsIn_wide.2 ((num_any A nn cp l at_ width w.heap.size w (by omega) hnc hnl hrd b1 b2 (by omega)).mono ?_)
              rintro e w' ⟨rfl, rfl⟩
              exact ⟨ρ, _, rfl, tup2 rfl rfl, hw.alike al, Stp.alike al⟩
        · exact (M.fail_ok.1 h).elim
end
end Go.Proofs.YtdbgppknggaooaaGreatDoor.Vm
