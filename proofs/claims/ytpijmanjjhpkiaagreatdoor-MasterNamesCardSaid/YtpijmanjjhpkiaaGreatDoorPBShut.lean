/- Closed facts of the whole translation, proved once for all statements of the seat. -/
import Derived.Test.YtpijmanjjhpkiaaGreatDoorPB4
set_option linter.unusedSimpArgs false
set_option linter.unusedVariables false
namespace Go.Proofs.YtpijmanjjhpkiaaGreatDoor
open Go.AM
set_option maxRecDepth 100000
theorem shut_heard : Tryz.prog.stopsHeard = true := by kernel_rfl
theorem shut_enter : Tryz.prog.mayEnter = true := by kernel_rfl
theorem shut_lifts : Tryz.prog.liftsFinal = Rows.masterRestsRow.lifted := by kernel_rfl
theorem shut_make : Tryz.prog.make = some Rows.masterRestsRow.make := by kernel_rfl
theorem shut_keys : Tryz.prog.plainKeys = Rows.masterRestsRow.plainKeys := by kernel_rfl
theorem shut_maps : mapsRowed Tryz.prog = true := by kernel_rfl
theorem shut_stops : Tryz.prog.stops = [] := by kernel_rfl
theorem shut_knobs : Tryz.prog.stopKnobs = [] := by kernel_rfl
end Go.Proofs.YtpijmanjjhpkiaaGreatDoor
