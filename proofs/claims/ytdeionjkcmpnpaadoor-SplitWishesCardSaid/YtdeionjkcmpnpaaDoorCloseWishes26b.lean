
/- The statement SplitWishes: the row without its ties. -/
import Derived.Test.YtdeionjkcmpnpaaDoorCloseWishes26
set_option linter.unusedSimpArgs false
set_option linter.unusedVariables false
namespace Go.Proofs.YtdeionjkcmpnpaaDoor
open Go.AM
set_option maxRecDepth 100000

theorem swishes_place : Tryd.prog.inPlace 3 = Rows.splitWishesRow.inPlace := by kernel_rfl
theorem swishes_followed : Tryd.prog.unfollowed 3 = Rows.splitWishesRow.unfollowed := by kernel_rfl
theorem swishes_recurses : Tryd.prog.recurses 3 = Rows.splitWishesRow.recurses := by kernel_rfl
theorem swishes_named : Tryd.prog.varsNamed 3 = Rows.splitWishesRow.named := by kernel_rfl
theorem swishes_closed : joinedFacts Tryd.prog 3 Tryd.f3 Rows.splitWishesSpec Rows.splitWishesRow = true := by
  unfold joinedFacts
  rw [swishes_place, swishes_followed, swishes_recurses, swishes_named, shut_heard, shut_enter, shut_lifts, shut_make, shut_keys, shut_maps, shut_stops, shut_knobs, laidOut]
  kernel_rfl
theorem swishes_holds : Rows.SplitWishesSaid :=
  OpenClaim.holds_of_wide 3 Tryd.f3 rfl rfl rfl rfl rfl rfl rfl ⟨rfl, rfl, rfl, rfl, rfl⟩ rfl rfl rfl rfl rfl (by kernel_rfl) Tryd.func3 swishes_closed
    (of_decide_eq_true (by kernel_rfl)) (by unfold Func.isWrapper; first | (rw [if_pos (by decide +kernel)]; kernel_rfl) | (rw [if_neg (by decide +kernel)]; exact ⟨rfl, rfl⟩))
    (fun os started H enc _ => swishes_lifted os started H enc)

end Go.Proofs.YtdeionjkcmpnpaaDoor
