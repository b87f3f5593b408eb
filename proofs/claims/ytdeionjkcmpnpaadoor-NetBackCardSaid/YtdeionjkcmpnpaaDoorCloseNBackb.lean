
/- The statement NetBack: the row without its ties. -/
import Derived.Test.YtdeionjkcmpnpaaDoorCloseNBack
set_option linter.unusedSimpArgs false
set_option linter.unusedVariables false
namespace Go.Proofs.YtdeionjkcmpnpaaDoor
open Go.AM
set_option maxRecDepth 100000

theorem nback_place : Tryd.prog.inPlace 6 = Rows.netBackRow.inPlace := by kernel_rfl
theorem nback_followed : Tryd.prog.unfollowed 6 = Rows.netBackRow.unfollowed := by kernel_rfl
theorem nback_recurses : Tryd.prog.recurses 6 = Rows.netBackRow.recurses := by kernel_rfl
theorem nback_named : Tryd.prog.varsNamed 6 = Rows.netBackRow.named := by kernel_rfl
theorem nback_closed : joinedFacts Tryd.prog 6 Tryd.f6 Rows.netBackSpec Rows.netBackRow = true := by
  unfold joinedFacts
  rw [nback_place, nback_followed, nback_recurses, nback_named, shut_heard, shut_enter, shut_lifts, shut_make, shut_keys, shut_maps, shut_stops, shut_knobs, laidOut]
  kernel_rfl
theorem nback_holds : Rows.NetBackSaid :=
  OpenClaim.holds_of_wide 6 Tryd.f6 rfl rfl rfl rfl rfl rfl rfl ⟨rfl, rfl, rfl, rfl, rfl⟩ rfl rfl rfl rfl rfl (by kernel_rfl) Tryd.func6 nback_closed
    (of_decide_eq_true (by kernel_rfl)) (by unfold Func.isWrapper; first | (rw [if_pos (by decide +kernel)]; kernel_rfl) | (rw [if_neg (by decide +kernel)]; exact ⟨rfl, rfl⟩))
    (fun os started H enc _ => nback_lifted os started H enc)

end Go.Proofs.YtdeionjkcmpnpaaDoor
