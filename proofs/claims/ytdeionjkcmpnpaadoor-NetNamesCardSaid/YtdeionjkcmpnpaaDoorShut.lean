/- Closed facts of the whole translation, proved once for all statements of the seat. -/
import Derived.Test.YtdeionjkcmpnpaaDoorTied
set_option linter.unusedSimpArgs false
set_option linter.unusedVariables false
namespace Go.Proofs.YtdeionjkcmpnpaaDoor
open Go.AM
set_option maxRecDepth 100000
theorem shut_heard : Tryd.prog.stopsHeard = true := by kernel_rfl
theorem shut_enter : Tryd.prog.mayEnter = true := by kernel_rfl
theorem shut_lifts : Tryd.prog.liftsFinal = Rows.splitWishesRow.lifted := by kernel_rfl
theorem shut_make : Tryd.prog.make = some Rows.splitWishesRow.make := by kernel_rfl
theorem shut_keys : Tryd.prog.plainKeys = Rows.splitWishesRow.plainKeys := by kernel_rfl
theorem shut_maps : mapsRowed Tryd.prog = true := by kernel_rfl
theorem shut_stops : Tryd.prog.stops = [] := by kernel_rfl
theorem shut_knobs : Tryd.prog.stopKnobs = [] := by kernel_rfl
end Go.Proofs.YtdeionjkcmpnpaaDoor
