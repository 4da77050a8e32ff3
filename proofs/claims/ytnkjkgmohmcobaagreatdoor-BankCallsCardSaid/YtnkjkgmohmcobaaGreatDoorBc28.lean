/-
  Texts of this claim, joined: Zi.
-/
import Derived.Test.YtnkjkgmohmcobaaGreatDoorBc21
set_option maxHeartbeats 6400000
set_option maxRecDepth 100000
namespace Go.Proofs.YtnkjkgmohmcobaaGreatDoor.Vm
open Go Go.RowKit
theorem lvP4 (o:Obj):cutR lvPN4 [0,1,6,7,8,10,18,19,20,21,22,23,24,25,26,27,28,29,30,31,32,33,34,35,36,37,38,39,40,41,42] (runL envT (evN envT 3000) (List.replicate 60 lvB) (.mk (ofT 43 lvPT3) 43 []) (.mk (ofH (lvPH3 o)) 2418 [] []))=some (lvPH4 o,lvPT4,2778,43):=by kernel_rfl
end Go.Proofs.YtnkjkgmohmcobaaGreatDoor.Vm
