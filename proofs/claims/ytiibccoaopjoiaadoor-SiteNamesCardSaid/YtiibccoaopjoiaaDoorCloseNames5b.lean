/- The statement SiteNames: the row without its ties. -/
import Derived.Test.YtiibccoaopjoiaaDoorCloseNames5
set_option linter.unusedSimpArgs false
set_option linter.unusedVariables false
namespace Go.Proofs.YtiibccoaopjoiaaDoor
open Go.AM
set_option maxRecDepth 100000

theorem snames5_place : Tryd.prog.inPlace 13 = Rows.siteNamesRow.inPlace := by kernel_rfl
theorem snames5_followed : Tryd.prog.unfollowed 13 = Rows.siteNamesRow.unfollowed := by kernel_rfl
theorem snames5_recurses : Tryd.prog.recurses 13 = Rows.siteNamesRow.recurses := by kernel_rfl
theorem snames5_named : Tryd.prog.varsNamed 13 = Rows.siteNamesRow.named := by kernel_rfl
theorem snames5_closed : joinedFacts Tryd.prog 13 Tryd.f13 Rows.siteNamesSpec Rows.siteNamesRow = true := by
  unfold joinedFacts
  rw [snames5_place, snames5_followed, snames5_recurses, snames5_named, shut_heard, shut_enter, shut_lifts, shut_make, shut_keys, shut_maps, shut_stops, shut_knobs, laidOut]
  kernel_rfl
theorem snames5_holds : Rows.SiteNamesSaid :=
  OpenClaim.holds_of_wide 13 Tryd.f13 rfl rfl rfl rfl rfl rfl rfl ⟨rfl, rfl, rfl, rfl, rfl⟩ rfl rfl rfl rfl rfl (by kernel_rfl) Tryd.func13 snames5_closed
    (of_decide_eq_true (by kernel_rfl)) (by unfold Func.isWrapper; first | (rw [if_pos (by decide +kernel)]; kernel_rfl) | (rw [if_neg (by decide +kernel)]; exact ⟨rfl, rfl⟩))
    (fun os started H enc _ => snames5_lifted os started H enc)

end Go.Proofs.YtiibccoaopjoiaaDoor
