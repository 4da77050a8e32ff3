/-
  Texts of this claim, joined: ZC.
-/
import Derived.Test.YtnkjkgmohmcobaaGreatDoorBc21
set_option maxHeartbeats 6400000
set_option maxRecDepth 100000
namespace Go.Proofs.YtnkjkgmohmcobaaGreatDoor.Vm
open Go Go.RowKit
theorem lvA2 (o:Obj):cutV lvN2 ((evN envT 3000).call 20 [.ptr 188 0,.int .i64 0,.agg [.int .i64 1,.str ⟨#[97]⟩,.nilslice,.int .i64 0,.int .i64 0,.int .i64 0]] (.mk (ofH (lvH1 o)) 204 [] []))=some (.tuple [.agg [.int .i64 0,.int .i64 0,.nilslice,.int .i64 0,.int .i64 0,.int .i64 0],.bool true],lvH2 o,712):=by kernel_rfl
end Go.Proofs.YtnkjkgmohmcobaaGreatDoor.Vm
