/- Closed facts of the whole translation, proved once for all statements of the seat. -/
import Derived.Test.YtlgbdpabcbcmcaaGreatDoorLQ5
set_option linter.unusedSimpArgs false
set_option linter.unusedVariables false
namespace Go.Proofs.YtlgbdpabcbcmcaaGreatDoor
open Go.AM
set_option maxRecDepth 100000
theorem yLj : Tryz.prog.stopsHeard = true := by kernel_rfl
theorem yLk : Tryz.prog.mayEnter = true := by kernel_rfl
theorem yLh : Tryz.prog.liftsFinal = Rows.localDownRow.lifted := by kernel_rfl
theorem yQe : Tryz.prog.make = some Rows.localDownRow.make := by kernel_rfl
theorem yQf : Tryz.prog.plainKeys = Rows.localDownRow.plainKeys := by kernel_rfl
theorem yQd : mapsRowed Tryz.prog = true := by kernel_rfl
theorem yLg : Tryz.prog.stops = [] := by kernel_rfl
theorem yLi : Tryz.prog.stopKnobs = [] := by kernel_rfl
end Go.Proofs.YtlgbdpabcbcmcaaGreatDoor
