/-
  WALK: act.Same of any two acts.
-/
import Derived.Test.YtgokkbocboonnaaDoorAXa
import Derived.Test.YtgokkbocboonnaaDoorAXb
import Derived.Test.YtgokkbocboonnaaDoorAXc
import Derived.Test.YtgokkbocboonnaaDoorAXd
namespace Go.Proofs.YtgokkbocboonnaaDoor
open Go.RowKit Go.Lib

theorem actEq_alt (a b : ActD) : actEq a b = ((a.act == b.act) && ((a.client == b.client) && ((a.n == b.n) && ((a.op.act == b.op.act) && ((a.op.key.toList == b.op.key.toList) && ((a.op.data == b.op.data) && ((a.op.lo == b.op.lo) && ((a.op.hi == b.op.hi) && ((a.op.n == b.op.n) && (numsEq a.pages b.pages && (a.log == b.log))))))))))) := by
  unfold actEq opEq
  ac_rfl
theorem aSame_any (a b : ActV) (B : Nat) (w : World) (hB : B ≤ w.heap.size) (ha : ActOk w B a) (hb : ActOk w B b) (hla : a.d.pages.length ≤ 1000000) (hlb : b.d.pages.length ≤ 1000000) :
    Calls Tryd.prog 16 #[actV a, actV b] w fun e w' => e = .returned (.bool (actEq a.d b.d)) ∧ Below w.heap.size w w' := by
  obtain ⟨a, av, ap⟩ := a
  obtain ⟨b, bv, bp⟩ := b
  obtain ⟨⟨A1, n1, c1, e1, _, _, _, _, ha1⟩, A, ca, ha2, ha3, ha4⟩ := ha
  obtain ⟨⟨A1', n1', c1', e1', _, _, _, _, hb1⟩, A', cb, hb2, hb3, hb4⟩ := hb
  dsimp only at *
  subst ha2 hb2 e1 e1'
  unfold actV
  dsimp only
  rw [actEq_alt]
  cases h1 : (a.act == b.act)
  · simpa only [Bool.true_and, Bool.false_and, Bool.and_false, Bool.and_true] using aSame_0 a b A1 A1' A A' n1 c1 n1' c1' a.pages.length ca b.pages.length cb B w hB ha1 hb1 ha4 hb4 hla hlb h1
  cases h2 : (a.client == b.client)
  · simpa only [Bool.true_and, Bool.false_and, Bool.and_false, Bool.and_true] using aSame_1 a b A1 A1' A A' n1 c1 n1' c1' a.pages.length ca b.pages.length cb B w hB ha1 hb1 ha4 hb4 hla hlb h1 h2
  cases h3 : (a.n == b.n)
  · simpa only [Bool.true_and, Bool.false_and, Bool.and_false, Bool.and_true] using aSame_2 a b A1 A1' A A' n1 c1 n1' c1' a.pages.length ca b.pages.length cb B w hB ha1 hb1 ha4 hb4 hla hlb h1 h2 h3
  cases h4 : (a.op.act == b.op.act)
  · simpa only [Bool.true_and, Bool.false_and, Bool.and_false, Bool.and_true] using aSame_3 a b A1 A1' A A' n1 c1 n1' c1' a.pages.length ca b.pages.length cb B w hB ha1 hb1 ha4 hb4 hla hlb h1 h2 h3 h4
  cases h5 : (a.op.key.toList == b.op.key.toList)
  · simpa only [Bool.true_and, Bool.false_and, Bool.and_false, Bool.and_true] using aSame_4 a b A1 A1' A A' n1 c1 n1' c1' a.pages.length ca b.pages.length cb B w hB ha1 hb1 ha4 hb4 hla hlb h1 h2 h3 h4 h5
  cases hd : (a.op.data == b.op.data)
  · simpa only [Bool.true_and, Bool.false_and, Bool.and_false, Bool.and_true] using aSame_5 a b A1 A1' A A' n1 c1 n1' c1' a.pages.length ca b.pages.length cb B w hB ha1 hb1 ha4 hb4 hla hlb h1 h2 h3 h4 h5 hd
  cases h6 : (a.op.lo == b.op.lo)
  · simpa only [Bool.true_and, Bool.false_and, Bool.and_false, Bool.and_true] using aSame_6 a b A1 A1' A A' n1 c1 n1' c1' a.pages.length ca b.pages.length cb B w hB ha1 hb1 ha4 hb4 hla hlb h1 h2 h3 h4 h5 hd h6
  cases h7 : (a.op.hi == b.op.hi)
  · simpa only [Bool.true_and, Bool.false_and, Bool.and_false, Bool.and_true] using aSame_7 a b A1 A1' A A' n1 c1 n1' c1' a.pages.length ca b.pages.length cb B w hB ha1 hb1 ha4 hb4 hla hlb h1 h2 h3 h4 h5 hd h6 h7
  cases h8 : (a.op.n == b.op.n)
  · simpa only [Bool.true_and, Bool.false_and, Bool.and_false, Bool.and_true] using aSame_8 a b A1 A1' A A' n1 c1 n1' c1' a.pages.length ca b.pages.length cb B w hB ha1 hb1 ha4 hb4 hla hlb h1 h2 h3 h4 h5 hd h6 h7 h8
  cases hn : numsEq a.pages b.pages
  · simpa only [Bool.true_and, Bool.false_and, Bool.and_false, Bool.and_true] using aSame_9 a b A1 A1' A A' n1 c1 n1' c1' a.pages.length ca b.pages.length cb B w hB ha1 hb1 ha4 hb4 hla hlb h1 h2 h3 h4 h5 hd h6 h7 h8 hn
  cases h9 : (a.log == b.log)
  · simpa only [Bool.true_and, Bool.false_and, Bool.and_false, Bool.and_true] using aSame_10 a b A1 A1' A A' n1 c1 n1' c1' a.pages.length ca b.pages.length cb B w hB ha1 hb1 ha4 hb4 hla hlb h1 h2 h3 h4 h5 hd h6 h7 h8 hn h9
  simpa only [Bool.and_true, Bool.true_and] using aSame_11 a b A1 A1' A A' n1 c1 n1' c1' a.pages.length ca b.pages.length cb B w hB ha1 hb1 ha4 hb4 hla hlb h1 h2 h3 h4 h5 hd h6 h7 h8 hn h9
end Go.Proofs.YtgokkbocboonnaaDoor
