/-
  WALKS: moneyerref03: numbers as two parts: norm, Of, Join, Take, Less, Int.
-/
import Derived.Test.YteidmdnhkgcnoaaProg
import Derived.Test.YteidmdnhkgcnoaaMem
import Derived.Deep.QuietTactic
import Derived.BigQuiet
namespace Go.Proofs.Yteidmdnhkgcnoaa
open Go.RowKit

theorem norm_step (h l : Int) : (h - 1) + (l + 4294967296) / 4294967296 = h + l / 4294967296 ∧ (l + 4294967296) % 4294967296 = l % 4294967296 := by omega

theorem of_parts (n : Int) : (n - n.tmod 4294967296).tdiv 4294967296 + (n.tmod 4294967296) / 4294967296 = n / 4294967296 ∧ (n.tmod 4294967296) % 4294967296 = n % 4294967296 ∧ -4294967296 < n.tmod 4294967296 ∧ n.tmod 4294967296 < 4294967296 := by
  by_cases hn : 0 ≤ n
  · rw [Int.tmod_eq_emod_of_nonneg hn, Int.tdiv_eq_ediv_of_nonneg (by omega)]
    omega
  · obtain ⟨m, rfl⟩ : ∃ m : Int, n = -m := ⟨-n, by omega⟩
    rw [Int.neg_tmod, Int.tmod_eq_emod_of_nonneg (by omega), show -m - -(m % 4294967296) = -(m - m % 4294967296) by omega, Int.neg_tdiv, Int.tdiv_eq_ediv_of_nonneg (by omega)]
    omega

end Go.Proofs.Yteidmdnhkgcnoaa
