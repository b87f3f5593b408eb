/- The statement SiteApart: the row without its ties. -/
import Derived.Test.YtiibccoaopjoiaaDoorCloseApart5
set_option linter.unusedSimpArgs false
set_option linter.unusedVariables false
namespace Go.Proofs.YtiibccoaopjoiaaDoor
open Go.AM
set_option maxRecDepth 100000

theorem sapart5_place : Tryd.prog.inPlace 9 = Rows.siteApartRow.inPlace := by kernel_rfl
theorem sapart5_followed : Tryd.prog.unfollowed 9 = Rows.siteApartRow.unfollowed := by kernel_rfl
theorem sapart5_recurses : Tryd.prog.recurses 9 = Rows.siteApartRow.recurses := by kernel_rfl
theorem sapart5_named : Tryd.prog.varsNamed 9 = Rows.siteApartRow.named := by kernel_rfl
theorem sapart5_closed : joinedFacts Tryd.prog 9 Tryd.f9 Rows.siteApartSpec Rows.siteApartRow = true := by
  unfold joinedFacts
  rw [sapart5_place, sapart5_followed, sapart5_recurses, sapart5_named, shut_heard, shut_enter, shut_lifts, shut_make, shut_keys, shut_maps, shut_stops, shut_knobs, laidOut]
  kernel_rfl
theorem sapart5_holds : Rows.SiteApartSaid :=
  OpenClaim.holds_of_wide 9 Tryd.f9 rfl rfl rfl rfl rfl rfl rfl ⟨rfl, rfl, rfl, rfl, rfl⟩ rfl rfl rfl rfl rfl (by kernel_rfl) Tryd.func9 sapart5_closed
    (of_decide_eq_true (by kernel_rfl)) (by unfold Func.isWrapper; first | (rw [if_pos (by decide +kernel)]; kernel_rfl) | (rw [if_neg (by decide +kernel)]; exact ⟨rfl, rfl⟩))
    (fun os started H enc _ => sapart5_lifted os started H enc)

end Go.Proofs.YtiibccoaopjoiaaDoor
