/-
  WALK: moneyerref09.Same, of two lists that read alike.
-/
import Derived.Test.YtkhpkclkjklccaaGreatDoorMem
import Derived.Test.YtkhpkclkjklccaaGreatDoorWC
import Derived.Test.YtkhpkclkjklccaaGreatDoorQin
namespace Go.Proofs.YtkhpkclkjklccaaGreatDoor
open Go.RowKit BigFrame
end Go.Proofs.YtkhpkclkjklccaaGreatDoor
