/-
  WHO WAS NOT DONE, plainly: what redo.Losers keeps of each transaction, and that the reference's list is the same. No program.
-/
import Derived.Test.YtnanlaefehaifaaGreatMem
namespace Go.Proofs.YtnanlaefehaifaaGreat
open Go.RowKit

/-- A record that was written: its place, its kind, its transaction. -/
structure EntD where
  lsn : Int
  kind : Int
  txn : Int
/-- An api.Txn. -/
structure TxD where
  id : Int
  first : Int
  last : Int
  kept : Int
/-- What redo.Losers keeps of a transaction. -/
structure TrD where
  tx : TxD
  did : Bool
  over : Bool
def tx1 (head : Int) (o : Option TrD) (e : EntD) : TxD := match o with
  | some t => ⟨t.tx.id, t.tx.first, e.lsn, t.tx.kept⟩
  | none => ⟨e.txn, head, e.lsn, 0⟩
def did1 (o : Option TrD) (e : EntD) : Bool := (match o with | some t => t.did | none => false) || decide (e.kind = 1 ∨ e.kind = 2)
def over1 (o : Option TrD) (e : EntD) : Bool := (match o with | some t => t.over | none => false) || decide (e.kind = 3 ∨ e.kind = 4)
def tr1 (head : Int) (o : Option TrD) (e : EntD) : TrD := ⟨tx1 head o e, did1 o e, over1 o e⟩
/-- The place at which the next record begins. -/
def headD (head : Int) (L : List EntD) : Int := match L.getLast? with | some e => e.lsn | none => head
theorem headD_snoc (head : Int) (L : List EntD) (e : EntD) : headD head (L ++ [e]) = e.lsn := by simp [headD]
def stepM (st : Int × (Int → Option TrD)) (e : EntD) : Int × (Int → Option TrD) := (e.lsn, fun t => if t = e.txn then some (tr1 st.1 (st.2 t) e) else st.2 t)
/-- What is known behind these records. -/
def knownP (head : Int) (L : List EntD) : Int × (Int → Option TrD) := L.foldl stepM (head, fun _ => none)
def known (head : Int) (L : List EntD) : Int → Option TrD := (knownP head L).2
theorem knownP_fst (head : Int) (L : List EntD) : (knownP head L).1 = headD head L := by
  rcases L.eq_nil_or_concat with rfl | ⟨l, e, rfl⟩
  · rfl
  · simp [knownP, headD, stepM]
theorem known_nil (head : Int) : known head [] = fun _ => none := rfl
theorem known_snoc (head : Int) (L : List EntD) (e : EntD) : known head (L ++ [e]) = fun t => if t = e.txn then some (tr1 (headD head L) (known head L t) e) else known head L t := by
  rw [← knownP_fst]
  simp [known, knownP, stepM]
theorem snoc_ind {α : Type} {p : List α → Prop} (h0 : p []) (h1 : ∀ l e, p l → p (l ++ [e])) : ∀ l, p l := by
  intro l
  have : ∀ n, ∀ l : List α, l.length = n → p l := by
    intro n
    induction n with
    | zero => intro l hl; rw [List.eq_nil_of_length_eq_zero hl]; exact h0
    | succ n ih =>
      intro l hl
      rcases l.eq_nil_or_concat with rfl | ⟨l', e, rfl⟩
      · simp at hl
      · rw [List.concat_eq_append] at *
        exact h1 _ _ (ih l' (by simpa using hl))
  exact this _ l rfl
/-- What is known, record by record. -/
theorem known_facts (head : Int) (L : List EntD) (hk : ∀ e ∈ L, 1 ≤ e.kind ∧ e.kind ≤ 4) (t : Int) :
    (known head L t = none ↔ ∀ e ∈ L, e.txn ≠ t) ∧ ∀ tr, known head L t = some tr → tr.tx.id = t ∧ tr.tx.kept = 0 ∧ (tr.over = true ↔ ∃ e ∈ L, e.txn = t ∧ 2 < e.kind) ∧ (tr.did = true ↔ ∃ e ∈ L, e.txn = t ∧ e.kind ≤ 2) := by
  revert hk
  refine snoc_ind (p := fun L => (∀ e ∈ L, 1 ≤ e.kind ∧ e.kind ≤ 4) → (known head L t = none ↔ ∀ e ∈ L, e.txn ≠ t) ∧ ∀ tr, known head L t = some tr → tr.tx.id = t ∧ tr.tx.kept = 0 ∧ (tr.over = true ↔ ∃ e ∈ L, e.txn = t ∧ 2 < e.kind) ∧ (tr.did = true ↔ ∃ e ∈ L, e.txn = t ∧ e.kind ≤ 2)) ?_ ?_ L
  · intro _
    simp [known_nil]
  · intro L e ih hk
    obtain ⟨h0, h1⟩ := ih (fun x hx => hk x (List.mem_append_left _ hx))
    have hke := hk e (by simp)
    rw [known_snoc]
    by_cases ht : t = e.txn
    · simp only [if_pos ht]
      refine ⟨⟨fun h => by simp at h, fun h => absurd ht.symm (h e (by simp))⟩, fun tr htr => ?_⟩
      injection htr with htr
      subst htr
      cases ho : known head L t with
      | none =>
        have hn := h0.1 ho
        refine ⟨ht.symm, rfl, ?_, ?_⟩
        · simp only [tr1, over1, Bool.false_or, decide_eq_true_eq]
          constructor
          · intro h; exact ⟨e, by simp, ht.symm, by omega⟩
          · rintro ⟨x, hx, hxt, hx2⟩
            rcases List.mem_append.1 hx with hx | hx
            · exact absurd hxt (hn x hx)
            · obtain rfl : x = e := by simpa using hx
              omega
        · simp only [tr1, did1, Bool.false_or, decide_eq_true_eq]
          constructor
          · intro h; exact ⟨e, by simp, ht.symm, by omega⟩
          · rintro ⟨x, hx, hxt, hx2⟩
            rcases List.mem_append.1 hx with hx | hx
            · exact absurd hxt (hn x hx)
            · obtain rfl : x = e := by simpa using hx
              omega
      | some tr =>
        obtain ⟨g1, g2, g3, g4⟩ := h1 tr ho
        refine ⟨g1, g2, ?_, ?_⟩
        · simp only [tr1, over1, Bool.or_eq_true, decide_eq_true_eq, g3]
          constructor
          · rintro (⟨x, hx, h⟩ | h)
            · exact ⟨x, List.mem_append_left _ hx, h⟩
            · exact ⟨e, by simp, ht.symm, by omega⟩
          · rintro ⟨x, hx, hxt, hx2⟩
            rcases List.mem_append.1 hx with hx | hx
            · exact .inl ⟨x, hx, hxt, hx2⟩
            · obtain rfl : x = e := by simpa using hx
              exact .inr (by omega)
        · simp only [tr1, did1, Bool.or_eq_true, decide_eq_true_eq, g4]
          constructor
          · rintro (⟨x, hx, h⟩ | h)
            · exact ⟨x, List.mem_append_left _ hx, h⟩
            · exact ⟨e, by simp, ht.symm, by omega⟩
          · rintro ⟨x, hx, hxt, hx2⟩
            rcases List.mem_append.1 hx with hx | hx
            · exact .inl ⟨x, hx, hxt, hx2⟩
            · obtain rfl : x = e := by simpa using hx
              exact .inr (by omega)
    · simp only [if_neg ht]
      have hne : ∀ x ∈ L ++ [e], x.txn = t → x ∈ L := by
        intro x hx hxt
        rcases List.mem_append.1 hx with hx | hx
        · exact hx
        · obtain rfl : x = e := by simpa using hx
          exact absurd hxt.symm ht
      refine ⟨h0.trans ⟨fun h x hx hxt => h x (hne x hx hxt) hxt, fun h x hx => h x (List.mem_append_left _ hx)⟩, fun tr htr => ?_⟩
      obtain ⟨g1, g2, g3, g4⟩ := h1 tr htr
      refine ⟨g1, g2, g3.trans ⟨?_, ?_⟩, g4.trans ⟨?_, ?_⟩⟩
      · rintro ⟨x, hx, h⟩; exact ⟨x, List.mem_append_left _ hx, h⟩
      · rintro ⟨x, hx, h⟩; exact ⟨x, hne x hx h.1, h⟩
      · rintro ⟨x, hx, h⟩; exact ⟨x, List.mem_append_left _ hx, h⟩
      · rintro ⟨x, hx, h⟩; exact ⟨x, hne x hx h.1, h⟩
/-- Has a transaction a record that says that it was done? -/
def overR (L : List EntD) (t : Int) : Bool := L.any fun e => decide (e.txn = t) && decide (2 < e.kind)
theorem overR_iff {L : List EntD} {t : Int} : overR L t = true ↔ ∃ e ∈ L, e.txn = t ∧ 2 < e.kind := by simp [overR]
/-- A transaction that was not done. -/
def isLos (head : Int) (L : List EntD) (t : Int) : Bool := match known head L t with | some tr => tr.did && !tr.over | none => false
def losT (head : Int) (L : List EntD) (t : Int) : TxD := match known head L t with | some tr => tr.tx | none => ⟨t, 0, 0, 0⟩
theorem losT_id (head : Int) (L : List EntD) (hk : ∀ e ∈ L, 1 ≤ e.kind ∧ e.kind ≤ 4) (t : Int) : (losT head L t).id = t := by
  unfold losT
  cases h : known head L t with
  | none => rfl
  | some tr => exact ((known_facts head L hk t).2 tr h).1
/-- The transactions that were not done, in the reference's words: rising numbers, each of them known, none of them over. -/
structure RefL (head : Int) (L : List EntD) (k : Nat) (out : List TxD) : Prop where
  rise : out.Pairwise fun a b => a.id < b.id
  mem : ∀ x, x ∈ out ↔ (overR L x.id = false ∧ ∃ tr, known head (L.take k) x.id = some tr ∧ tr.tx = x)
theorem RefL.start (head : Int) (L : List EntD) : RefL head L 0 [] := ⟨List.Pairwise.nil, fun x => by simp [known_nil]⟩
/-- The place of a number in a rising list. -/
def plcT (out : List TxD) (t : Int) : Nat := (out.takeWhile fun x => decide (x.id < t)).length
theorem RefL.skip {head : Int} {L : List EntD} {k : Nat} {out : List TxD} {e : EntD} (h : RefL head L k out) (he : L[k]? = some e) (ho : overR L e.txn = true) : RefL head L (k + 1) out := by
  obtain ⟨hk, e1⟩ := List.getElem?_eq_some_iff.1 he
  refine ⟨h.rise, fun x => (h.mem x).trans ?_⟩
  rw [List.take_succ_eq_append_getElem hk, e1, known_snoc]
  constructor
  · rintro ⟨h1, tr, h2, h3⟩
    refine ⟨h1, tr, ?_, h3⟩
    have hne : x.id ≠ e.txn := fun e' => by rw [e', ho] at h1; cases h1
    simp only [if_neg hne]
    exact h2
  · rintro ⟨h1, tr, h2, h3⟩
    have hne : x.id ≠ e.txn := fun e' => by rw [e', ho] at h1; cases h1
    simp only [if_neg hne] at h2
    exact ⟨h1, tr, h2, h3⟩
theorem over_of_kind {L : List EntD} {k : Nat} {e : EntD} (he : L[k]? = some e) (h : 2 < e.kind) : overR L e.txn = true := overR_iff.2 ⟨e, List.mem_of_getElem? he, rfl, h⟩
/-- A transaction that stands in the list: its last place is another one. -/
theorem RefL.upd {head : Int} {L : List EntD} {k p : Nat} {out : List TxD} {e : EntD} {x : TxD} (h : RefL head L k out) (he : L[k]? = some e) (ho : overR L e.txn = false) (hx : out[p]? = some x) (hid : x.id = e.txn) :
    RefL head L (k + 1) (out.set p ⟨x.id, x.first, e.lsn, x.kept⟩) := by
  obtain ⟨hk, e1⟩ := List.getElem?_eq_some_iff.1 he
  obtain ⟨hp, ex⟩ := List.getElem?_eq_some_iff.1 hx
  have hpw := List.pairwise_iff_getElem.1 h.rise
  refine ⟨?_, fun y => ?_⟩
  · rw [List.pairwise_iff_getElem]
    intro i j hi hj hij
    simp only [List.length_set] at hi hj
    have hh := hpw i j hi hj hij
    rw [List.getElem_set, List.getElem_set]
    by_cases h1 : p = i
    · subst h1
      rw [if_pos rfl, if_neg (by omega)]
      rw [ex] at hh
      exact hh
    · rw [if_neg h1]
      by_cases h2 : p = j
      · subst h2
        rw [if_pos rfl]
        rw [ex] at hh
        exact hh
      · rw [if_neg h2]
        exact hh
  · rw [List.take_succ_eq_append_getElem hk, e1, known_snoc]
    obtain ⟨_, tr, hkn, htx⟩ := (h.mem x).1 (List.mem_of_getElem? hx)
    have hmem : y ∈ out.set p ⟨x.id, x.first, e.lsn, x.kept⟩ ↔ (y = ⟨x.id, x.first, e.lsn, x.kept⟩ ∨ (y ∈ out ∧ y.id ≠ x.id)) := by
      rw [List.mem_iff_getElem]
      constructor
      · rintro ⟨i, hi, rfl⟩
        simp only [List.length_set] at hi
        rw [List.getElem_set]
        by_cases h1 : p = i
        · exact .inl (by rw [if_pos h1])
        · rw [if_neg h1]
          refine .inr ⟨List.getElem_mem hi, fun e' => ?_⟩
          rcases Nat.lt_or_gt_of_ne h1 with h2 | h2
          · have := hpw p i hp hi h2
            rw [ex, e'] at this
            omega
          · have := hpw i p hi hp h2
            rw [ex, e'] at this
            omega
      · rintro (rfl | ⟨hy, hne⟩)
        · exact ⟨p, by simpa using hp, by simp⟩
        · obtain ⟨i, hi, rfl⟩ := List.mem_iff_getElem.1 hy
          refine ⟨i, by simpa using hi, ?_⟩
          rw [List.getElem_set, if_neg]
          rintro rfl
          exact hne (by rw [ex])
    rw [hmem]
    by_cases hyt : y.id = e.txn
    · simp only [if_pos hyt]
      have hkn2 : known head (L.take k) y.id = some tr := by rw [hyt, ← hid]; exact hkn
      rw [hkn2]
      constructor
      · rintro (rfl | ⟨_, hne⟩)
        · refine ⟨by rw [← hid] at ho; exact ho, _, rfl, ?_⟩
          simp [tr1, tx1, htx]
        · exact absurd (hyt.trans hid.symm) hne
      · rintro ⟨_, tr', e', e''⟩
        injection e' with e'
        subst e' e''
        exact .inl (by simp [tr1, tx1, htx])
    · simp only [if_neg hyt]
      rw [← h.mem y]
      constructor
      · rintro (rfl | ⟨hy, _⟩)
        · exact absurd hid hyt
        · exact hy
      · intro hy
        exact .inr ⟨hy, fun e' => hyt (e'.trans hid)⟩
/-- A transaction that does not stand in the list: it comes in at its place. -/
theorem RefL.ins {head : Int} {L : List EntD} {k p : Nat} {out : List TxD} {e : EntD} (h : RefL head L k out) (hk4 : ∀ e ∈ L, 1 ≤ e.kind ∧ e.kind ≤ 4) (he : L[k]? = some e) (ho : overR L e.txn = false) (hp : p ≤ out.length)
    (hlo : ∀ i x, i < p → out[i]? = some x → x.id < e.txn) (hhi : ∀ i x, p ≤ i → out[i]? = some x → e.txn < x.id) :
    RefL head L (k + 1) (out.take p ++ ⟨e.txn, headD head (L.take k), e.lsn, 0⟩ :: out.drop p) := by
  obtain ⟨hk, e1⟩ := List.getElem?_eq_some_iff.1 he
  have hlo' : ∀ x ∈ out.take p, x.id < e.txn := by
    intro x hx
    obtain ⟨i, hi, rfl⟩ := List.mem_iff_getElem.1 hx
    rw [List.length_take] at hi
    rw [List.getElem_take]
    exact hlo i _ (by omega) (List.getElem?_eq_getElem _)
  have hhi' : ∀ x ∈ out.drop p, e.txn < x.id := by
    intro x hx
    obtain ⟨i, hi, rfl⟩ := List.mem_iff_getElem.1 hx
    rw [List.length_drop] at hi
    rw [List.getElem_drop]
    exact hhi (p + i) _ (by omega) (List.getElem?_eq_getElem _)
  have hnone : known head (L.take k) e.txn = none := by
    cases hh : known head (L.take k) e.txn with
    | none => rfl
    | some tr =>
      obtain ⟨g1, _⟩ := (known_facts head (L.take k) (fun x hx => hk4 x (List.mem_of_mem_take hx)) e.txn).2 tr hh
      have hin : tr.tx ∈ out := (h.mem _).2 ⟨by rw [g1]; exact ho, tr, by rw [g1]; exact hh, rfl⟩
      rw [← List.take_append_drop p out] at hin
      rcases List.mem_append.1 hin with hin | hin
      · have := hlo' _ hin; omega
      · have := hhi' _ hin; omega
  have hrise := h.rise
  rw [← List.take_append_drop p out] at hrise
  obtain ⟨r1, r2, r3⟩ := List.pairwise_append.1 hrise
  refine ⟨List.pairwise_append.2 ⟨r1, List.pairwise_cons.2 ⟨fun x hx => hhi' x hx, r2⟩, fun x hx y hy => ?_⟩, fun y => ?_⟩
  · rcases List.mem_cons.1 hy with rfl | hy
    · exact hlo' x hx
    · exact r3 x hx y hy
  · rw [List.take_succ_eq_append_getElem hk, e1, known_snoc]
    have hmem : y ∈ out.take p ++ ⟨e.txn, headD head (L.take k), e.lsn, 0⟩ :: out.drop p ↔ (y = ⟨e.txn, headD head (L.take k), e.lsn, 0⟩ ∨ y ∈ out) := by
      conv => rhs; rw [← List.take_append_drop p out]
      simp only [List.mem_append, List.mem_cons]
      constructor
      · rintro (h | h | h)
        · exact .inr (.inl h)
        · exact .inl h
        · exact .inr (.inr h)
      · rintro (h | h | h)
        · exact .inr (.inl h)
        · exact .inl h
        · exact .inr (.inr h)
    rw [hmem]
    by_cases hyt : y.id = e.txn
    · simp only [if_pos hyt]
      rw [hyt, hnone]
      constructor
      · rintro (rfl | hy)
        · exact ⟨ho, _, rfl, rfl⟩
        · obtain ⟨_, tr, hkn, _⟩ := (h.mem y).1 hy
          rw [hyt, hnone] at hkn
          cases hkn
      · rintro ⟨_, tr', e', e''⟩
        injection e' with e'
        subst e' e''
        exact .inl rfl
    · simp only [if_neg hyt]
      rw [← h.mem y]
      constructor
      · rintro (rfl | hy)
        · exact absurd rfl hyt
        · exact hy
      · exact .inr
/-- The two lists are one. -/
theorem RefL.same {head : Int} {L : List EntD} {out : List TxD} {ts : List Int} (h : RefL head L L.length out) (hk : ∀ e ∈ L, 1 ≤ e.kind ∧ e.kind ≤ 4) (hs : ts.Pairwise (· < ·)) (hm : ∀ t, t ∈ ts ↔ isLos head L t = true) :
    out = ts.map (losT head L) := by
  have hid := losT_id head L hk
  have hpw : (ts.map (losT head L)).Pairwise fun a b => a.id < b.id := by
    rw [List.pairwise_map]
    exact hs.imp fun {a b} hab => by rw [hid, hid]; exact hab
  have hmem : ∀ x, x ∈ out ↔ x ∈ ts.map (losT head L) := by
    intro x
    rw [h.mem x, List.take_length, List.mem_map]
    constructor
    · rintro ⟨h1, tr, h2, h3⟩
      obtain ⟨_, hf⟩ := known_facts head L hk x.id
      obtain ⟨g1, g2, g3, g4⟩ := hf tr h2
      refine ⟨x.id, (hm _).2 ?_, by simp [losT, h2, h3]⟩
      have hov : tr.over = false := by
        cases hb : tr.over with
        | false => rfl
        | true => rw [overR_iff.2 (g3.1 hb)] at h1; cases h1
      have hdid : tr.did = true := by
        refine g4.2 ?_
        have hne : ¬ ∀ e ∈ L, e.txn ≠ x.id := fun hn => by
          rw [(known_facts head L hk x.id).1.2 hn] at h2; cases h2
        apply Classical.byContradiction
        intro hno
        apply hne
        intro e he het
        rcases (by omega : 2 < e.kind ∨ e.kind ≤ 2) with h5 | h5
        · rw [overR_iff.2 ⟨e, he, het, h5⟩] at h1; cases h1
        · exact hno ⟨e, he, het, h5⟩
      simp [isLos, h2, hov, hdid]
    · rintro ⟨t, ht, rfl⟩
      have h1 := (hm t).1 ht
      rw [hid]
      unfold isLos at h1
      cases hh : known head L t with
      | none => rw [hh] at h1; cases h1
      | some tr =>
        rw [hh] at h1
        simp only [Bool.and_eq_true, Bool.not_eq_true'] at h1
        obtain ⟨g1, g2, g3, g4⟩ := (known_facts head L hk t).2 tr hh
        refine ⟨?_, tr, rfl, by simp [losT, hh]⟩
        cases hb : overR L t with
        | false => rfl
        | true => rw [g3.2 (overR_iff.1 hb)] at h1; exact absurd h1.2 (by decide)
  have nd : ∀ {l : List TxD}, (l.Pairwise fun a b => a.id < b.id) → l.Nodup := fun h => h.imp fun {a b} hab e => by subst e; omega
  have hperm : out.Perm (ts.map (losT head L)) := (List.perm_ext_iff_of_nodup (nd h.rise) (nd hpw)).2 hmem
  exact hperm.eq_of_pairwise (fun a b _ _ h1 h2 => by omega) h.rise hpw
/-- Whose commits were written. -/
def commitsD (L : List EntD) : List Int := (L.filter fun e => decide (e.kind = 3)).map EntD.txn
theorem commitsD_snoc (L : List EntD) (e : EntD) : commitsD (L ++ [e]) = commitsD L ++ (if e.kind = 3 then [e.txn] else []) := by
  unfold commitsD
  rw [List.filter_append, List.map_append]
  by_cases h : e.kind = 3 <;> simp [h]
theorem commitsD_length (L : List EntD) : (commitsD L).length ≤ L.length := by
  unfold commitsD
  rw [List.length_map]
  exact List.length_filter_le _ _
end Go.Proofs.YtnanlaefehaifaaGreat
