/- Closed facts of the whole translation, proved once for all statements of the seat. -/
import Derived.Test.YtlgbdpabcbcmcaaGreatDoorLN6
set_option linter.unusedSimpArgs false
set_option linter.unusedVariables false
namespace Go.Proofs.YtlgbdpabcbcmcaaGreatDoor
open Go.AM
set_option maxRecDepth 100000
theorem yLt:Tryz.prog.stopsHeard=true:=by kernel_rfl
theorem yLu:Tryz.prog.mayEnter=true:=by kernel_rfl
theorem yLr:Tryz.prog.liftsFinal=Rows.localDownRow.lifted:=by kernel_rfl
theorem yQm:Tryz.prog.make=some Rows.localDownRow.make:=by kernel_rfl
theorem yQn:Tryz.prog.plainKeys=Rows.localDownRow.plainKeys:=by kernel_rfl
theorem yQl:mapsRowed Tryz.prog=true:=by kernel_rfl
theorem yLq:Tryz.prog.stops=[]:=by kernel_rfl
theorem yLs:Tryz.prog.stopKnobs=[]:=by kernel_rfl
end Go.Proofs.YtlgbdpabcbcmcaaGreatDoor
