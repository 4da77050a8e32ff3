/-
  Texts of this claim, joined: Zf.
-/
import Derived.Test.YtnkjkgmohmcobaaGreatDoorBc21
set_option maxHeartbeats 6400000
set_option maxRecDepth 100000
namespace Go.Proofs.YtnkjkgmohmcobaaGreatDoor.Vm
open Go Go.RowKit
theorem lvP0 (o:Obj):cutR lvPN0 [0,1,6,7,8] (runL envT (evN envT 3000) (lvL.take 4) (.mk (args0 .nil 0 [.ptr 188 0,.int .i64 0,.agg [.int .i64 1,.str ⟨#[98]⟩,.nilslice,.int .i64 0,.int .i64 0,.int .i64 0]]) Tryz.f20.ntmps []) (.mk (ofH (lvH4 o)) 1293 [] []))=some (lvPH0 o,lvPT0,1298,43):=by kernel_rfl
theorem lvP1 (o:Obj):cutR lvPN1 [0,1,6,7,8,10,18,19,20,21,22,23,24,25,26,27,28,29,30,31,32,33,34,35,36,37,38,39,40,41,42] (runL envT (evN envT 3000) (List.replicate 60 lvB) (.mk (ofT 43 lvPT0) 43 []) (.mk (ofH (lvPH0 o)) 1298 [] []))=some (lvPH1 o,lvPT1,1698,43):=by kernel_rfl
end Go.Proofs.YtnkjkgmohmcobaaGreatDoor.Vm
