/-
  Texts of this claim, joined: ZD.
-/
import Derived.Test.YtnkjkgmohmcobaaGreatDoorBc21
set_option maxHeartbeats 6400000
set_option maxRecDepth 100000
namespace Go.Proofs.YtnkjkgmohmcobaaGreatDoor.Vm
open Go Go.RowKit
theorem lvA4 (o:Obj):cutV lvN4 ((evN envT 3000).call 20 [.ptr 188 0,.int .i64 1,.agg [.int .i64 1,.str ⟨#[98]⟩,.nilslice,.int .i64 0,.int .i64 0,.int .i64 0]] (.mk (ofH (lvH3 o)) 727 [] []))=some (.tuple [.agg [.int .i64 0,.int .i64 0,.nilslice,.int .i64 0,.int .i64 0,.int .i64 0],.bool true],lvH4 o,1293):=by kernel_rfl
end Go.Proofs.YtnkjkgmohmcobaaGreatDoor.Vm
