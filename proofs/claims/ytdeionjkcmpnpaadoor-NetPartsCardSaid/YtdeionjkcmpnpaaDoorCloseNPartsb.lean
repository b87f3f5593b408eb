
/- The statement NetParts: the row without its ties. -/
import Derived.Test.YtdeionjkcmpnpaaDoorCloseNParts
set_option linter.unusedSimpArgs false
set_option linter.unusedVariables false
namespace Go.Proofs.YtdeionjkcmpnpaaDoor
open Go.AM
set_option maxRecDepth 100000

theorem nparts_place : Tryd.prog.inPlace 8 = Rows.netPartsRow.inPlace := by kernel_rfl
theorem nparts_followed : Tryd.prog.unfollowed 8 = Rows.netPartsRow.unfollowed := by kernel_rfl
theorem nparts_recurses : Tryd.prog.recurses 8 = Rows.netPartsRow.recurses := by kernel_rfl
theorem nparts_named : Tryd.prog.varsNamed 8 = Rows.netPartsRow.named := by kernel_rfl
theorem nparts_closed : joinedFacts Tryd.prog 8 Tryd.f8 Rows.netPartsSpec Rows.netPartsRow = true := by
  unfold joinedFacts
  rw [nparts_place, nparts_followed, nparts_recurses, nparts_named, shut_heard, shut_enter, shut_lifts, shut_make, shut_keys, shut_maps, shut_stops, shut_knobs, laidOut]
  kernel_rfl
theorem nparts_holds : Rows.NetPartsSaid :=
  OpenClaim.holds_of_wide 8 Tryd.f8 rfl rfl rfl rfl rfl rfl rfl ⟨rfl, rfl, rfl, rfl, rfl⟩ rfl rfl rfl rfl rfl (by kernel_rfl) Tryd.func8 nparts_closed
    (of_decide_eq_true (by kernel_rfl)) (by unfold Func.isWrapper; first | (rw [if_pos (by decide +kernel)]; kernel_rfl) | (rw [if_neg (by decide +kernel)]; exact ⟨rfl, rfl⟩))
    (fun os started H enc _ => nparts_lifted os started H enc)

end Go.Proofs.YtdeionjkcmpnpaaDoor
