/- The statement SitePlans: the row without its ties. -/
import Derived.Test.YtiibccoaopjoiaaDoorClosePlans5
set_option linter.unusedSimpArgs false
set_option linter.unusedVariables false
namespace Go.Proofs.YtiibccoaopjoiaaDoor
open Go.AM
set_option maxRecDepth 100000

theorem splans_place : Tryd.prog.inPlace 6 = Rows.sitePlansRow.inPlace := by kernel_rfl
theorem splans_followed : Tryd.prog.unfollowed 6 = Rows.sitePlansRow.unfollowed := by kernel_rfl
theorem splans_recurses : Tryd.prog.recurses 6 = Rows.sitePlansRow.recurses := by kernel_rfl
theorem splans_named : Tryd.prog.varsNamed 6 = Rows.sitePlansRow.named := by kernel_rfl
theorem splans_closed : joinedFacts Tryd.prog 6 Tryd.f6 Rows.sitePlansSpec Rows.sitePlansRow = true := by
  unfold joinedFacts
  rw [splans_place, splans_followed, splans_recurses, splans_named, shut_heard, shut_enter, shut_lifts, shut_make, shut_keys, shut_maps, shut_stops, shut_knobs, laidOut]
  kernel_rfl
theorem splans_holds : Rows.SitePlansSaid :=
  OpenClaim.holds_of_wide 6 Tryd.f6 rfl rfl rfl rfl rfl rfl rfl ⟨rfl, rfl, rfl, rfl, rfl⟩ rfl rfl rfl rfl rfl (by kernel_rfl) Tryd.func6 splans_closed
    (of_decide_eq_true (by kernel_rfl)) (by unfold Func.isWrapper; first | (rw [if_pos (by decide +kernel)]; kernel_rfl) | (rw [if_neg (by decide +kernel)]; exact ⟨rfl, rfl⟩))
    (fun os started H enc _ => splans_lifted os started H enc)

end Go.Proofs.YtiibccoaopjoiaaDoor
