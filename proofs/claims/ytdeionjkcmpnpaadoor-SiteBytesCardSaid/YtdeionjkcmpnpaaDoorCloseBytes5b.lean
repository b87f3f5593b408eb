
/- The statement SiteBytes: the row without its ties. -/
import Derived.Test.YtdeionjkcmpnpaaDoorCloseBytes5
set_option linter.unusedSimpArgs false
set_option linter.unusedVariables false
namespace Go.Proofs.YtdeionjkcmpnpaaDoor
open Go.AM
set_option maxRecDepth 100000

theorem sbytes_place : Tryd.prog.inPlace 4 = Rows.siteBytesRow.inPlace := by kernel_rfl
theorem sbytes_followed : Tryd.prog.unfollowed 4 = Rows.siteBytesRow.unfollowed := by kernel_rfl
theorem sbytes_recurses : Tryd.prog.recurses 4 = Rows.siteBytesRow.recurses := by kernel_rfl
theorem sbytes_named : Tryd.prog.varsNamed 4 = Rows.siteBytesRow.named := by kernel_rfl
theorem sbytes_closed : joinedFacts Tryd.prog 4 Tryd.f4 Rows.siteBytesSpec Rows.siteBytesRow = true := by
  unfold joinedFacts
  rw [sbytes_place, sbytes_followed, sbytes_recurses, sbytes_named, shut_heard, shut_enter, shut_lifts, shut_make, shut_keys, shut_maps, shut_stops, shut_knobs, laidOut]
  kernel_rfl
theorem sbytes_holds : Rows.SiteBytesSaid :=
  OpenClaim.holds_of_wide 4 Tryd.f4 rfl rfl rfl rfl rfl rfl rfl ⟨rfl, rfl, rfl, rfl, rfl⟩ rfl rfl rfl rfl rfl (by kernel_rfl) Tryd.func4 sbytes_closed
    (of_decide_eq_true (by kernel_rfl)) (by unfold Func.isWrapper; first | (rw [if_pos (by decide +kernel)]; kernel_rfl) | (rw [if_neg (by decide +kernel)]; exact ⟨rfl, rfl⟩))
    (fun os started H enc _ => sbytes_lifted os started H enc)

end Go.Proofs.YtdeionjkcmpnpaaDoor
