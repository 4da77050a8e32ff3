/-
  Texts of this claim, joined: VS.
-/
import Derived.Test.YtnanlaefehaifaaGreatBo21
set_option maxHeartbeats 6400000
set_option maxRecDepth 100000
namespace Go.Proofs.YtnanlaefehaifaaGreat.Vm
open Go
def TS.has (t : TS) (n : Nat) : Prop := ∃ m, (n / 256, m) ∈ t ∧ m.testBit (n % 256) = true
theorem addT_has : ∀ (t : TS) (c b n : Nat), TS.has (addT t c b) n ↔ TS.has t n ∨ (n / 256 = c ∧ b.testBit (n % 256) = true)
  | [], c, b, n => by
    simp only [addT, TS.has, List.mem_singleton, List.not_mem_nil, false_and, exists_false, false_or, Prod.mk.injEq]
    exact ⟨fun ⟨m, ⟨h1, h2⟩, h3⟩ => ⟨h1, by rw [← h2]; exact h3⟩, fun ⟨h1, h2⟩ => ⟨b, ⟨h1, rfl⟩, h2⟩⟩
  | (c', m) :: r, c, b, n => by
    unfold addT
    simp only [forceN_eq]
    cases hb : Nat.beq c c' with
    | true =>
      have hc := beq_true.1 hb
      subst hc
      simp only [cond_true, TS.has, List.mem_cons, Prod.mk.injEq]
      constructor
      · rintro ⟨k, ⟨h1, h2⟩ | h1, h3⟩
        · subst h2
          rw [show (Nat.lor m b) = m ||| b from rfl, Nat.testBit_or, Bool.or_eq_true] at h3
          rcases h3 with h3 | h3
          · exact .inl ⟨m, .inl ⟨h1, rfl⟩, h3⟩
          · exact .inr ⟨h1, h3⟩
        · exact .inl ⟨k, .inr h1, h3⟩
      · rintro (⟨k, ⟨h1, h2⟩ | h1, h3⟩ | ⟨h1, h3⟩)
        · subst h2
          exact ⟨_, .inl ⟨h1, rfl⟩, by rw [show (Nat.lor k b) = k ||| b from rfl, Nat.testBit_or, h3, Bool.true_or]⟩
        · exact ⟨k, .inr h1, h3⟩
        · exact ⟨_, .inl ⟨h1, rfl⟩, by rw [show (Nat.lor m b) = m ||| b from rfl, Nat.testBit_or, h3, Bool.or_true]⟩
    | false =>
      have ih := addT_has r c b n
      simp only [cond_false, TS.has, List.mem_cons, Prod.mk.injEq] at ih ⊢
      constructor
      · rintro ⟨k, h1 | h1, h3⟩
        · exact .inl ⟨k, .inl h1, h3⟩
        · rcases ih.1 ⟨k, h1, h3⟩ with ⟨k, h1, h3⟩ | h
          · exact .inl ⟨k, .inr h1, h3⟩
          · exact .inr h
      · rintro (⟨k, h1 | h1, h3⟩ | h)
        · exact ⟨k, .inl h1, h3⟩
        · obtain ⟨k, h1, h3⟩ := ih.2 (.inl ⟨k, h1, h3⟩)
          exact ⟨k, .inr h1, h3⟩
        · obtain ⟨k, h1, h3⟩ := ih.2 (.inr h)
          exact ⟨k, .inr h1, h3⟩
theorem bit_one (k j : Nat) : (Nat.shiftLeft 1 k).testBit j = true ↔ j = k := by
  rw [show Nat.shiftLeft 1 k = 1 <<< k from rfl, Nat.testBit_shiftLeft]
  constructor
  · intro h
    rw [Bool.and_eq_true] at h
    have h1 := of_decide_eq_true h.1
    have h2 := h.2
    rw [Nat.testBit_one_eq_true_iff_self_eq_zero] at h2
    omega
  · rintro rfl
    simp
theorem add_has (t : TS) (n m : Nat) : (t.add n).has m ↔ t.has m ∨ m = n := by
  unfold TS.add
  rw [addT_has, show Nat.mod n 256 = n % 256 from rfl, show Nat.div n 256 = n / 256 from rfl, bit_one]
  constructor
  · rintro (h | ⟨h1, h2⟩)
    · exact .inl h
    · exact .inr (by omega)
  · rintro (h | rfl)
    · exact .inl h
    · exact .inr ⟨rfl, rfl⟩
theorem or_has : ∀ (a b : TS) (n : Nat), (TS.or a b).has n ↔ a.has n ∨ b.has n
  | [], b, n => by simp [TS.or, TS.has]
  | (c, m) :: r, b, n => by
    unfold TS.or
    simp only [addT_has, or_has r b n]
    simp only [TS.has, List.mem_cons, Prod.mk.injEq]
    constructor
    · rintro ((⟨k, h1, h2⟩ | h) | ⟨h1, h2⟩)
      · exact .inl ⟨k, .inr h1, h2⟩
      · exact .inr h
      · exact .inl ⟨m, .inl ⟨h1, rfl⟩, h2⟩
    · rintro (⟨k, ⟨h1, rfl⟩ | h1, h2⟩ | h)
      · exact .inr ⟨h1, h2⟩
      · exact .inl (.inl ⟨k, h1, h2⟩)
      · exact .inl (.inr h)
theorem meets1_no : ∀ {t : TS} {c m m' : Nat}, meets1 c m t = false → (c, m') ∈ t → Nat.land m m' = 0
  | [], _, _, _, _, h => by cases h
  | (c', k) :: r, c, m, m', h, hm => by
    unfold meets1 at h
    simp only at h
    cases hb : Nat.beq c c' with
    | true =>
      rw [bif_true _ _ hb, Bool.or_eq_false_iff] at h
      rcases List.mem_cons.1 hm with e | e
      · injection e with _ e2
        subst e2
        have := h.1
        cases hz : Nat.beq (Nat.land m m') 0 with
        | true => exact beq_true.1 hz
        | false => rw [hz] at this; cases this
      · exact meets1_no h.2 e
    | false =>
      rw [bif_false _ _ hb] at h
      rcases List.mem_cons.1 hm with e | e
      · injection e with e1 _
        rw [beq_true.2 e1] at hb
        cases hb
      · exact meets1_no h e
theorem meets_no : ∀ {a b : TS} {n : Nat}, meets a b = false → a.has n → b.has n → False
  | [], _, _, _, ⟨_, h, _⟩, _ => by cases h
  | (c, m) :: r, b, n, h, ⟨k, h1, h2⟩, ⟨k', h3, h4⟩ => by
    unfold meets at h
    rw [Bool.or_eq_false_iff] at h
    rcases List.mem_cons.1 h1 with e | e
    · injection e with e1 e2
      subst e2
      rw [← e1] at h
      have h5 := meets1_no h.1 h3
      have h6 : (Nat.land k k').testBit (n % 256) = true := by
        rw [show Nat.land k k' = k &&& k' from rfl, Nat.testBit_and, h2, h4]
        rfl
      rw [h5, Nat.zero_testBit] at h6
      cases h6
    · exact meets_no h.2 ⟨k, e, h2⟩ ⟨k', h3, h4⟩
structure LocAt {α : Type} (m : M α) (h : Tr AObj) (c : Nat) (r w : TS) (a : α) (h' : Tr AObj) (c' : Nat) (r' w' : TS) : Prop where
  grow : c ≤ c'
  rsub : ∀ n, r.has n → r'.has n
  wsub : ∀ n, w.has n → w'.has n
  fresh : ∀ n, c ≤ n → n < c' → w'.has n
  keep : ∀ n, ¬ w'.has n → h'.get n = h.get n
  wlt : ∀ n, w'.has n → w.has n ∨ n < c'
  again : ∀ (h2 : Tr AObj) (r2 w2 : TS), (∀ n, n < c → r'.has n ∨ w'.has n → h2.get n = h.get n) → ∃ h2' r2' w2', m (.mk h2 c r2 w2) = .ok a (.mk h2' c' r2' w2') ∧ (r2 = r → w2 = w → r2' = r' ∧ w2' = w') ∧
    (∀ n, n < c' → w'.has n → h2'.get n = h'.get n) ∧ ∀ n, ¬ w'.has n → h2'.get n = h2.get n
def Loc {α : Type} (m : M α) : Prop := ∀ h c r w a h' c' r' w', m (.mk h c r w) = .ok a (.mk h' c' r' w') → LocAt m h c r w a h' c' r' w'
section
variable {α β : Type}
theorem Loc.same {m : M α} (hm : ∀ s a s', m s = .ok a s' → s' = s ∧ ∀ s2, m s2 = .ok a s2) : Loc m := by
  intro h c r w a h' c' r' w' hr
  obtain ⟨h1, h2⟩ := hm _ _ _ hr
  injection h1 with e1 e2 e3 e4
  subst e1 e2 e3 e4
  exact ⟨Nat.le_refl _, fun _ h => h, fun _ h => h, fun n h1 h2 => by omega, fun _ _ => rfl, fun _ h => .inl h, fun g2 r2 w2 ha => ⟨g2, r2, w2, h2 _, fun e1 e2 => ⟨e1, e2⟩, fun n h1 h2 => ha n h1 (.inr h2), fun _ _ => rfl⟩⟩
theorem Loc.pure (a : α) : Loc (M.pure a) := Loc.same fun s b s' h => by
  obtain ⟨rfl, rfl⟩ := M.pure_ok.1 h
  exact ⟨rfl, fun _ => rfl⟩
theorem Loc.fail (e : String) : Loc (M.fail e : M α) := fun _ _ _ _ _ _ _ _ _ h => (M.fail_ok.1 h).elim
theorem Loc.of (o : Option α) (e : String) : Loc (M.of o e) := Loc.same fun s b s' h => by
  obtain ⟨rfl, rfl⟩ := M.of_ok.1 h
  exact ⟨rfl, fun _ => rfl⟩
theorem Loc.bind {m : M α} {k : α → M β} (hm : Loc m) (hk : ∀ a, Loc (k a)) : Loc (M.bind m k) := by
  intro h c r w b h' c' r' w' hr
  obtain ⟨a, ⟨h1, c1, r1, w1⟩, e1, e2⟩ := M.bind_ok.1 hr
  have l1 := hm _ _ _ _ _ _ _ _ _ e1
  have l2 := hk a _ _ _ _ _ _ _ _ _ e2
  refine ⟨Nat.le_trans l1.grow l2.grow, fun n hn => l2.rsub n (l1.rsub n hn), fun n hn => l2.wsub n (l1.wsub n hn), fun n g1 g2 => ?_, fun n hn => ?_, fun n hn => ?_, fun h2 r2 w2 ha => ?_⟩
  · rcases Nat.lt_or_ge n c1 with g | g
    · exact l2.wsub n (l1.fresh n g1 g)
    · exact l2.fresh n g g2
  · rw [l2.keep n hn, l1.keep n (fun e => hn (l2.wsub n e))]
  · rcases l2.wlt n hn with g | g
    · exact (l1.wlt n g).imp id (fun g => Nat.lt_of_lt_of_le g l2.grow)
    · exact .inr g
  · obtain ⟨h2', r2', w2', f1, f2, f3, f4⟩ := l1.again h2 r2 w2 (fun n hn hh => ha n hn (hh.imp (l2.rsub n) (l2.wsub n)))
    obtain ⟨h3, r3, w3, k1, k2, k3, k4⟩ := l2.again h2' r2' w2' (fun n hn hh => by
      by_cases hw : w1.has n
      · exact f3 n hn hw
      · have hnc : n < c := Nat.lt_of_not_le fun g => hw (l1.fresh n g hn)
        rw [f4 n hw, l1.keep n hw]
        exact ha n hnc hh)
    refine ⟨h3, r3, w3, M.bind_ok.2 ⟨a, _, f1, k1⟩, fun e1 e2 => ?_, k3, fun n hn => ?_⟩
    · obtain ⟨g1, g2⟩ := f2 e1 e2
      exact k2 g1 g2
    · rw [k4 n hn, f4 n (fun e => hn (l2.wsub n e))]
theorem Loc.getM (n : Nat) : Loc (getM n) := by
  intro h c r w a h' c' r' w' hr
  obtain ⟨g1, g2, g3⟩ := getM_ok.1 hr
  injection g3 with e1 e2 e3 e4
  simp only [St.h, St.c, St.r, St.w] at *
  subst e1 e2 e3 e4
  refine ⟨Nat.le_refl _, fun m hm => (add_has r n m).2 (.inl hm), fun _ h => h, fun n h1 h2 => by omega, fun _ _ => rfl, fun _ h => .inl h, fun h2 r2 w2 ha => ⟨h2, r2.add n, w2, ?_, fun e1 e2 => ⟨by rw [e1], e2⟩, fun m h1 h2 => ha m h1 (.inr h2), fun _ _ => rfl⟩⟩
  exact getM_ok.2 ⟨g1, by rw [← g2]; exact ha n g1 (.inl ((add_has r n n).2 (.inr rfl))), rfl⟩
theorem Loc.setM (n : Nat) (o : Option AObj) : Loc (setM n o) := by
  intro h c r w a h' c' r' w' hr
  obtain ⟨g1, g3⟩ := setM_ok.1 hr
  injection g3 with e1 e2 e3 e4
  simp only [St.h, St.c, St.r, St.w] at *
  subst e1 e2 e3 e4
  refine ⟨Nat.le_refl _, fun _ h => h, fun m hm => (add_has w n m).2 (.inl hm), fun n h1 h2 => by omega, fun m hm => ?_, fun m hm => ((add_has w n m).1 hm).imp id (fun e => by rw [e]; exact g1), fun h2 r2 w2 ha => ⟨h2.put n o, r2, w2.add n, setM_ok.2 ⟨g1, rfl⟩, fun e1 e2 => ⟨e1, by rw [e2]⟩, fun m h1 hw => ?_, fun m hm => ?_⟩⟩
  · rw [Tr.get_put, if_neg (fun e => hm ((add_has w n m).2 (.inr e)))]
  · rw [Tr.get_put, Tr.get_put]
    by_cases e : m = n
    · rw [if_pos e, if_pos e]
    · rw [if_neg e, if_neg e]
      exact ha m h1 (.inr hw)
  · rw [Tr.get_put, if_neg (fun e => hm ((add_has w n m).2 (.inr e)))]
theorem Loc.newM (o : AObj) : Loc (newM o) := by
  intro h c r w a h' c' r' w' hr
  obtain ⟨g1, g3⟩ := newM_ok.1 hr
  injection g3 with e1 e2 e3 e4
  simp only [St.h, St.c, St.r, St.w] at *
  subst g1 e1 e2 e3 e4
  refine ⟨Nat.le_succ _, fun _ h => h, fun m hm => (add_has w a m).2 (.inl hm), fun m h1 h2 => (add_has w a m).2 (.inr (by omega)), fun m hm => ?_, fun m hm => ((add_has w a m).1 hm).imp id (fun e => by omega), fun h2 r2 w2 ha => ⟨h2.put a (some o), r2, w2.add a, newM_ok.2 ⟨rfl, rfl⟩, fun e1 e2 => ⟨e1, by rw [e2]⟩, fun m h1 hw => ?_, fun m hm => ?_⟩⟩
  · rw [Tr.get_put, if_neg (fun e => hm ((add_has w a m).2 (.inr e)))]
  · rw [Tr.get_put, Tr.get_put]
    by_cases e : m = a
    · rw [if_pos e, if_pos e]
    · rw [if_neg e, if_neg e]
      exact ha m (by omega) (.inr hw)
  · rw [Tr.get_put, if_neg (fun e => hm ((add_has w a m).2 (.inr e)))]
theorem touched_ok {m : M α} {h h' : Tr AObj} {c c' : Nat} {r w r' w' : TS} {q : α × TS × TS} (hr : touched m (.mk h c r w) = .ok q (.mk h' c' r' w')) : m (.mk h c [] []) = .ok q.1 (.mk h' c' q.2.1 q.2.2) ∧ r' = TS.or q.2.1 r ∧ w' = TS.or q.2.2 w := by
  unfold touched at hr
  simp only at hr
  cases hm : m (.mk h c [] []) with
  | err e => rw [hm] at hr; cases hr
  | ok a s' =>
    obtain ⟨h1, c1, r1, w1⟩ := s'
    rw [hm] at hr
    injection hr with e1 e2
    subst e1
    injection e2 with f1 f2 f3 f4
    subst f1 f2 f3 f4
    exact ⟨rfl, rfl, rfl⟩
theorem Loc.touched {m : M α} (hm : Loc m) : Loc (touched m) := by
  intro h c r w q h' c' r' w' hr
  obtain ⟨a, ra, wa⟩ := q
  obtain ⟨g1, g2, g3⟩ := touched_ok hr
  simp only at g1 g2 g3
  subst g2 g3
  have l := hm _ _ _ _ _ _ _ _ _ g1
  refine ⟨l.grow, fun n hn => (or_has _ _ n).2 (.inr hn), fun n hn => (or_has _ _ n).2 (.inr hn), fun n h1 h2 => (or_has _ _ n).2 (.inl (l.fresh n h1 h2)), fun n hn => l.keep n (fun e => hn ((or_has _ _ n).2 (.inl e))), fun n hn => ?_, fun h2 r2 w2 ha => ?_⟩
  · rcases (or_has _ _ n).1 hn with g | g
    · rcases l.wlt n g with ⟨_, g, _⟩ | g
      · cases g
      · exact .inr g
    · exact .inl g
  obtain ⟨h2', r2', w2', f1, f2, f3, f4⟩ := l.again h2 [] [] (fun n hn hh => ha n hn (hh.imp (fun e => (or_has _ _ n).2 (.inl e)) (fun e => (or_has _ _ n).2 (.inl e))))
  obtain ⟨e1, e2⟩ := f2 rfl rfl
  subst e1 e2
  refine ⟨h2', TS.or r2' r2, TS.or w2' w2, by unfold Go.Proofs.YtnanlaefehaifaaGreat.Vm.touched; simp only [f1], fun e1 e2 => ⟨by rw [e1], by rw [e2]⟩, fun n h1 hw => ?_, fun n hn => f4 n (fun e => hn ((or_has _ _ n).2 (.inl e)))⟩
  by_cases e : w2'.has n
  · exact f3 n h1 e
  · have hnc : n < c := Nat.lt_of_not_le fun g => e (l.fresh n g h1)
    rw [f4 n e, l.keep n e]
    exact ha n hnc (.inr hw)
theorem Loc.congr {m m' : M α} (h : Loc m) (e : m' = m) : Loc m' := e ▸ h
end
end Go.Proofs.YtnanlaefehaifaaGreat.Vm
