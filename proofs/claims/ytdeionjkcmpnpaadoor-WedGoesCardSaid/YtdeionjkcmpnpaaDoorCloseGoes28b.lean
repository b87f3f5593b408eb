
/- The statement WedGoes: the row without its ties. -/
import Derived.Test.YtdeionjkcmpnpaaDoorCloseGoes28
set_option linter.unusedSimpArgs false
set_option linter.unusedVariables false
namespace Go.Proofs.YtdeionjkcmpnpaaDoor
open Go.AM
set_option maxRecDepth 100000

theorem wgoes_place : Tryd.prog.inPlace 5 = Rows.wedGoesRow.inPlace := by kernel_rfl
theorem wgoes_followed : Tryd.prog.unfollowed 5 = Rows.wedGoesRow.unfollowed := by kernel_rfl
theorem wgoes_recurses : Tryd.prog.recurses 5 = Rows.wedGoesRow.recurses := by kernel_rfl
theorem wgoes_named : Tryd.prog.varsNamed 5 = Rows.wedGoesRow.named := by kernel_rfl
theorem wgoes_closed : joinedFacts Tryd.prog 5 Tryd.f5 Rows.wedGoesSpec Rows.wedGoesRow = true := by
  unfold joinedFacts
  rw [wgoes_place, wgoes_followed, wgoes_recurses, wgoes_named, shut_heard, shut_enter, shut_lifts, shut_make, shut_keys, shut_maps, shut_stops, shut_knobs, laidOut]
  kernel_rfl
theorem wgoes_holds : Rows.WedGoesSaid :=
  OpenClaim.holds_of_wide 5 Tryd.f5 rfl rfl rfl rfl rfl rfl rfl ⟨rfl, rfl, rfl, rfl, rfl⟩ rfl rfl rfl rfl rfl (by kernel_rfl) Tryd.func5 wgoes_closed
    (of_decide_eq_true (by kernel_rfl)) (by unfold Func.isWrapper; first | (rw [if_pos (by decide +kernel)]; kernel_rfl) | (rw [if_neg (by decide +kernel)]; exact ⟨rfl, rfl⟩))
    (fun os started H enc _ => wgoes_lifted os started H enc)

end Go.Proofs.YtdeionjkcmpnpaaDoor
