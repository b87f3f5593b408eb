/- The statement WedParts: the row without its ties. -/
import Derived.Test.YtiibccoaopjoiaaDoorCloseParts28
set_option linter.unusedSimpArgs false
set_option linter.unusedVariables false
namespace Go.Proofs.YtiibccoaopjoiaaDoor
open Go.AM
set_option maxRecDepth 100000

theorem wparts_place : Tryd.prog.inPlace 12 = Rows.wedPartsRow.inPlace := by kernel_rfl
theorem wparts_followed : Tryd.prog.unfollowed 12 = Rows.wedPartsRow.unfollowed := by kernel_rfl
theorem wparts_recurses : Tryd.prog.recurses 12 = Rows.wedPartsRow.recurses := by kernel_rfl
theorem wparts_named : Tryd.prog.varsNamed 12 = Rows.wedPartsRow.named := by kernel_rfl
theorem wparts_closed : joinedFacts Tryd.prog 12 Tryd.f12 Rows.wedPartsSpec Rows.wedPartsRow = true := by
  unfold joinedFacts
  rw [wparts_place, wparts_followed, wparts_recurses, wparts_named, shut_heard, shut_enter, shut_lifts, shut_make, shut_keys, shut_maps, shut_stops, shut_knobs, laidOut]
  kernel_rfl
theorem wparts_holds : Rows.WedPartsSaid :=
  OpenClaim.holds_of_wide 12 Tryd.f12 rfl rfl rfl rfl rfl rfl rfl ⟨rfl, rfl, rfl, rfl, rfl⟩ rfl rfl rfl rfl rfl (by kernel_rfl) Tryd.func12 wparts_closed
    (of_decide_eq_true (by kernel_rfl)) (by unfold Func.isWrapper; first | (rw [if_pos (by decide +kernel)]; kernel_rfl) | (rw [if_neg (by decide +kernel)]; exact ⟨rfl, rfl⟩))
    (fun os started H enc _ => wparts_lifted os started H enc)

end Go.Proofs.YtiibccoaopjoiaaDoor
