/-
  WALK: act.Same, cases 0, 1, 2.
-/
import Derived.Test.YtgokkbocboonnaaDoorAW
namespace Go.Proofs.YtgokkbocboonnaaDoor
open Go.RowKit Go.Lib

set_option maxHeartbeats 6400000 in
theorem aSame_0 (a b : ActD) (A1 A1' A A' : Option Addr) (n1 c1 n1' c1' m1 ca m1' cb : Nat) (B : Nat) (w : World) (hB : B ≤ w.heap.size) (ha1 : Reads w B 1 A1 n1 (a.op.data.map byteV)) (hb1 : Reads w B 1 A1' n1' (b.op.data.map byteV)) (ha4 : Ints w B A m1 a.pages) (hb4 : Ints w B A' m1' b.pages) (hla : m1 ≤ 1000000) (hlb : m1' ≤ 1000000)  (h1 : (a.act == b.act) = false) :
    Calls Tryd.prog 16 #[.agg #[.int .i64 a.act, .int .i64 a.client, .int .i64 a.op.act, .string a.op.key, .slice A1 n1 c1, .int .i64 a.op.lo, .int .i64 a.op.hi, .int .i64 a.op.n, .int .i64 a.n, .slice A m1 ca, .int .i64 a.log], .agg #[.int .i64 b.act, .int .i64 b.client, .int .i64 b.op.act, .string b.op.key, .slice A1' n1' c1', .int .i64 b.op.lo, .int .i64 b.op.hi, .int .i64 b.op.n, .int .i64 b.n, .slice A' m1' cb, .int .i64 b.log]] w fun e w' => e = .returned (.bool false) ∧ Below w.heap.size w w' := by
  have HS := hide (fun W (hW : Below w.heap.size w W) => bEqual_any A1 A1' n1 c1 n1' c1' a.op.data b.op.data B W (ha1.below hW hB) (hb1.below hW hB))
  have HN := hide (fun W (hW : Below w.heap.size w W) => sEqual_any A A' m1 ca m1' cb a.pages b.pages B W hla hlb (ha4.below hW hB) (hb4.below hW hB))
  have hb0 := below2 w (.cells #[.int .i64 a.act, .int .i64 a.client, .int .i64 a.op.act, .string a.op.key, .slice A1 n1 c1, .int .i64 a.op.lo, .int .i64 a.op.hi, .int .i64 a.op.n, .int .i64 a.n, .slice A m1 ca, .int .i64 a.log] 30) (.cells #[.int .i64 b.act, .int .i64 b.client, .int .i64 b.op.act, .string b.op.key, .slice A1' n1' c1', .int .i64 b.op.lo, .int .i64 b.op.hi, .int .i64 b.op.n, .int .i64 b.n, .slice A' m1' cb, .int .i64 b.log] 30)
  clear ha1 ha4 hb1 hb4
  go_enter Tryd.func16, Tryd.ntmps16
  go_wp2
  go_ret
  exact ⟨rfl, hb0⟩
set_option maxHeartbeats 6400000 in
theorem aSame_1 (a b : ActD) (A1 A1' A A' : Option Addr) (n1 c1 n1' c1' m1 ca m1' cb : Nat) (B : Nat) (w : World) (hB : B ≤ w.heap.size) (ha1 : Reads w B 1 A1 n1 (a.op.data.map byteV)) (hb1 : Reads w B 1 A1' n1' (b.op.data.map byteV)) (ha4 : Ints w B A m1 a.pages) (hb4 : Ints w B A' m1' b.pages) (hla : m1 ≤ 1000000) (hlb : m1' ≤ 1000000) (h1 : (a.act == b.act) = true) (h2 : (a.client == b.client) = false) :
    Calls Tryd.prog 16 #[.agg #[.int .i64 a.act, .int .i64 a.client, .int .i64 a.op.act, .string a.op.key, .slice A1 n1 c1, .int .i64 a.op.lo, .int .i64 a.op.hi, .int .i64 a.op.n, .int .i64 a.n, .slice A m1 ca, .int .i64 a.log], .agg #[.int .i64 b.act, .int .i64 b.client, .int .i64 b.op.act, .string b.op.key, .slice A1' n1' c1', .int .i64 b.op.lo, .int .i64 b.op.hi, .int .i64 b.op.n, .int .i64 b.n, .slice A' m1' cb, .int .i64 b.log]] w fun e w' => e = .returned (.bool false) ∧ Below w.heap.size w w' := by
  have HS := hide (fun W (hW : Below w.heap.size w W) => bEqual_any A1 A1' n1 c1 n1' c1' a.op.data b.op.data B W (ha1.below hW hB) (hb1.below hW hB))
  have HN := hide (fun W (hW : Below w.heap.size w W) => sEqual_any A A' m1 ca m1' cb a.pages b.pages B W hla hlb (ha4.below hW hB) (hb4.below hW hB))
  have hb0 := below2 w (.cells #[.int .i64 a.act, .int .i64 a.client, .int .i64 a.op.act, .string a.op.key, .slice A1 n1 c1, .int .i64 a.op.lo, .int .i64 a.op.hi, .int .i64 a.op.n, .int .i64 a.n, .slice A m1 ca, .int .i64 a.log] 30) (.cells #[.int .i64 b.act, .int .i64 b.client, .int .i64 b.op.act, .string b.op.key, .slice A1' n1' c1', .int .i64 b.op.lo, .int .i64 b.op.hi, .int .i64 b.op.n, .int .i64 b.n, .slice A' m1' cb, .int .i64 b.log] 30)
  clear ha1 ha4 hb1 hb4
  go_enter Tryd.func16, Tryd.ntmps16
  go_wp2
  go_ret
  exact ⟨rfl, hb0⟩
set_option maxHeartbeats 6400000 in
theorem aSame_2 (a b : ActD) (A1 A1' A A' : Option Addr) (n1 c1 n1' c1' m1 ca m1' cb : Nat) (B : Nat) (w : World) (hB : B ≤ w.heap.size) (ha1 : Reads w B 1 A1 n1 (a.op.data.map byteV)) (hb1 : Reads w B 1 A1' n1' (b.op.data.map byteV)) (ha4 : Ints w B A m1 a.pages) (hb4 : Ints w B A' m1' b.pages) (hla : m1 ≤ 1000000) (hlb : m1' ≤ 1000000) (h1 : (a.act == b.act) = true) (h2 : (a.client == b.client) = true) (h3 : (a.n == b.n) = false) :
    Calls Tryd.prog 16 #[.agg #[.int .i64 a.act, .int .i64 a.client, .int .i64 a.op.act, .string a.op.key, .slice A1 n1 c1, .int .i64 a.op.lo, .int .i64 a.op.hi, .int .i64 a.op.n, .int .i64 a.n, .slice A m1 ca, .int .i64 a.log], .agg #[.int .i64 b.act, .int .i64 b.client, .int .i64 b.op.act, .string b.op.key, .slice A1' n1' c1', .int .i64 b.op.lo, .int .i64 b.op.hi, .int .i64 b.op.n, .int .i64 b.n, .slice A' m1' cb, .int .i64 b.log]] w fun e w' => e = .returned (.bool false) ∧ Below w.heap.size w w' := by
  have HS := hide (fun W (hW : Below w.heap.size w W) => bEqual_any A1 A1' n1 c1 n1' c1' a.op.data b.op.data B W (ha1.below hW hB) (hb1.below hW hB))
  have HN := hide (fun W (hW : Below w.heap.size w W) => sEqual_any A A' m1 ca m1' cb a.pages b.pages B W hla hlb (ha4.below hW hB) (hb4.below hW hB))
  have hb0 := below2 w (.cells #[.int .i64 a.act, .int .i64 a.client, .int .i64 a.op.act, .string a.op.key, .slice A1 n1 c1, .int .i64 a.op.lo, .int .i64 a.op.hi, .int .i64 a.op.n, .int .i64 a.n, .slice A m1 ca, .int .i64 a.log] 30) (.cells #[.int .i64 b.act, .int .i64 b.client, .int .i64 b.op.act, .string b.op.key, .slice A1' n1' c1', .int .i64 b.op.lo, .int .i64 b.op.hi, .int .i64 b.op.n, .int .i64 b.n, .slice A' m1' cb, .int .i64 b.log] 30)
  clear ha1 ha4 hb1 hb4
  go_enter Tryd.func16, Tryd.ntmps16
  go_wp2
  go_ret
  exact ⟨rfl, hb0⟩
end Go.Proofs.YtgokkbocboonnaaDoor
