/-
  Texts of this claim, joined: Zj.
-/
import Derived.Test.YtnkjkgmohmcobaaGreatDoorBc21
set_option maxHeartbeats 6400000
set_option maxRecDepth 100000
namespace Go.Proofs.YtnkjkgmohmcobaaGreatDoor.Vm
open Go Go.RowKit
theorem lvP5 (o:Obj):cutR lvPN5 [0,1,6,7,8,10,18,19,20,21,22,23,24,25,26,27,28,29,30,31,32,33,34,35,36,37,38,39,40,41,42] (runL envT (evN envT 3000) (List.replicate 60 lvB) (.mk (ofT 43 lvPT4) 43 []) (.mk (ofH (lvPH4 o)) 2778 [] []))=some (lvPH5 o,lvPT5,3138,43):=by kernel_rfl
end Go.Proofs.YtnkjkgmohmcobaaGreatDoor.Vm
