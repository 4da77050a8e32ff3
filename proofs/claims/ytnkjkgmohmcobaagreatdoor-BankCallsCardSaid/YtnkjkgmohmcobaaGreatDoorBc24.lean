/-
  Texts of this claim, joined: ZE.
-/
import Derived.Test.YtnkjkgmohmcobaaGreatDoorBc21
set_option maxHeartbeats 6400000
set_option maxRecDepth 100000
namespace Go.Proofs.YtnkjkgmohmcobaaGreatDoor.Vm
open Go Go.RowKit
theorem lvA6 (o:Obj):cutV lvN6 ((evN envT 3000).call 20 [.ptr 188 0,.int .i64 1,.agg [.int .i64 1,.str ⟨#[97]⟩,.nilslice,.int .i64 0,.int .i64 0,.int .i64 0]] (.mk (ofH (lvH5 o)) 3139 [] []))=some (.tuple [.agg [.int .i64 10,.int .i64 0,.nilslice,.int .i64 0,.int .i64 0,.int .i64 0],.bool true],lvH6 o,3957):=by kernel_rfl
end Go.Proofs.YtnkjkgmohmcobaaGreatDoor.Vm
