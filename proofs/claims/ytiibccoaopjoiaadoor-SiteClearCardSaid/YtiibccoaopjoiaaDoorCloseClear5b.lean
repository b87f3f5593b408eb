/- The statement SiteClear: the row without its ties. -/
import Derived.Test.YtiibccoaopjoiaaDoorCloseClear5
set_option linter.unusedSimpArgs false
set_option linter.unusedVariables false
namespace Go.Proofs.YtiibccoaopjoiaaDoor
open Go.AM
set_option maxRecDepth 100000

theorem sclear5_place : Tryd.prog.inPlace 10 = Rows.siteClearRow.inPlace := by kernel_rfl
theorem sclear5_followed : Tryd.prog.unfollowed 10 = Rows.siteClearRow.unfollowed := by kernel_rfl
theorem sclear5_recurses : Tryd.prog.recurses 10 = Rows.siteClearRow.recurses := by kernel_rfl
theorem sclear5_named : Tryd.prog.varsNamed 10 = Rows.siteClearRow.named := by kernel_rfl
theorem sclear5_closed : joinedFacts Tryd.prog 10 Tryd.f10 Rows.siteClearSpec Rows.siteClearRow = true := by
  unfold joinedFacts
  rw [sclear5_place, sclear5_followed, sclear5_recurses, sclear5_named, shut_heard, shut_enter, shut_lifts, shut_make, shut_keys, shut_maps, shut_stops, shut_knobs, laidOut]
  kernel_rfl
theorem sclear5_holds : Rows.SiteClearSaid :=
  OpenClaim.holds_of_wide 10 Tryd.f10 rfl rfl rfl rfl rfl rfl rfl ⟨rfl, rfl, rfl, rfl, rfl⟩ rfl rfl rfl rfl rfl (by kernel_rfl) Tryd.func10 sclear5_closed
    (of_decide_eq_true (by kernel_rfl)) (by unfold Func.isWrapper; first | (rw [if_pos (by decide +kernel)]; kernel_rfl) | (rw [if_neg (by decide +kernel)]; exact ⟨rfl, rfl⟩))
    (fun os started H enc _ => sclear5_lifted os started H enc)

end Go.Proofs.YtiibccoaopjoiaaDoor
