/- Closed facts of the whole translation, proved once for all statements of the seat. -/
import Derived.Test.YtlgbdpabcbcmcaaGreatDoorLD6
set_option linter.unusedSimpArgs false
set_option linter.unusedVariables false
namespace Go.Proofs.YtlgbdpabcbcmcaaGreatDoor
open Go.AM
set_option maxRecDepth 100000
theorem yLx : Tryz.prog.stopsHeard = true := by kernel_rfl
theorem yLy : Tryz.prog.mayEnter = true := by kernel_rfl
theorem yLv : Tryz.prog.liftsFinal = Rows.localDownRow.lifted := by kernel_rfl
theorem yQr : Tryz.prog.make = some Rows.localDownRow.make := by kernel_rfl
theorem yQs : Tryz.prog.plainKeys = Rows.localDownRow.plainKeys := by kernel_rfl
theorem yQq : mapsRowed Tryz.prog = true := by kernel_rfl
theorem yLu : Tryz.prog.stops = [] := by kernel_rfl
theorem yLw : Tryz.prog.stopKnobs = [] := by kernel_rfl
end Go.Proofs.YtlgbdpabcbcmcaaGreatDoor
