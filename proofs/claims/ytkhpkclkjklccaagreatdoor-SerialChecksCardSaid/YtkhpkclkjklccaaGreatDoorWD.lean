/-
  WALK: moneyerref33.SameDid, of two lists that read alike.
-/
import Derived.Test.YtkhpkclkjklccaaGreatDoorWC
namespace Go.Proofs.YtkhpkclkjklccaaGreatDoor
open Go.RowKit
end Go.Proofs.YtkhpkclkjklccaaGreatDoor
