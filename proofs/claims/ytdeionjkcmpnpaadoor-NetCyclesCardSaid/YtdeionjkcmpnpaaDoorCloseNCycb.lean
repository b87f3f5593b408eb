
/- The statement NetCycles: the row without its ties. -/
import Derived.Test.YtdeionjkcmpnpaaDoorCloseNCyc
set_option linter.unusedSimpArgs false
set_option linter.unusedVariables false
namespace Go.Proofs.YtdeionjkcmpnpaaDoor
open Go.AM
set_option maxRecDepth 100000

theorem ncyl_place : Tryd.prog.inPlace 7 = Rows.netCyclesRow.inPlace := by kernel_rfl
theorem ncyl_followed : Tryd.prog.unfollowed 7 = Rows.netCyclesRow.unfollowed := by kernel_rfl
theorem ncyl_recurses : Tryd.prog.recurses 7 = Rows.netCyclesRow.recurses := by kernel_rfl
theorem ncyl_named : Tryd.prog.varsNamed 7 = Rows.netCyclesRow.named := by kernel_rfl
theorem ncyl_closed : joinedFacts Tryd.prog 7 Tryd.f7 Rows.netCyclesSpec Rows.netCyclesRow = true := by
  unfold joinedFacts
  rw [ncyl_place, ncyl_followed, ncyl_recurses, ncyl_named, shut_heard, shut_enter, shut_lifts, shut_make, shut_keys, shut_maps, shut_stops, shut_knobs, laidOut]
  kernel_rfl
theorem ncyl_holds : Rows.NetCyclesSaid :=
  OpenClaim.holds_of_wide 7 Tryd.f7 rfl rfl rfl rfl rfl rfl rfl ⟨rfl, rfl, rfl, rfl, rfl⟩ rfl rfl rfl rfl rfl (by kernel_rfl) Tryd.func7 ncyl_closed
    (of_decide_eq_true (by kernel_rfl)) (by unfold Func.isWrapper; first | (rw [if_pos (by decide +kernel)]; kernel_rfl) | (rw [if_neg (by decide +kernel)]; exact ⟨rfl, rfl⟩))
    (fun os started H enc _ => ncyl_lifted os started H enc)

end Go.Proofs.YtdeionjkcmpnpaaDoor
