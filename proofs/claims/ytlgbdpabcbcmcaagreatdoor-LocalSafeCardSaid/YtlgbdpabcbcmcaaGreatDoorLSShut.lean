/- Closed facts of the whole translation, proved once for all statements of the seat. -/
import Derived.Test.YtlgbdpabcbcmcaaGreatDoorLS5
set_option linter.unusedSimpArgs false
set_option linter.unusedVariables false
namespace Go.Proofs.YtlgbdpabcbcmcaaGreatDoor
open Go.AM
set_option maxRecDepth 100000
theorem yLp : Tryz.prog.stopsHeard = true := by kernel_rfl
theorem yLq : Tryz.prog.mayEnter = true := by kernel_rfl
theorem yLn : Tryz.prog.liftsFinal = Rows.localDownRow.lifted := by kernel_rfl
theorem yQj : Tryz.prog.make = some Rows.localDownRow.make := by kernel_rfl
theorem yQk : Tryz.prog.plainKeys = Rows.localDownRow.plainKeys := by kernel_rfl
theorem yQi : mapsRowed Tryz.prog = true := by kernel_rfl
theorem yLm : Tryz.prog.stops = [] := by kernel_rfl
theorem yLo : Tryz.prog.stopKnobs = [] := by kernel_rfl
end Go.Proofs.YtlgbdpabcbcmcaaGreatDoor
