import Derived.Test.YtlgbdpabcbcmcaaGreatDoorLDCloseLDown

/- The statement LocalDown: the row without its ties. -/
set_option linter.unusedSimpArgs false
set_option linter.unusedVariables false
namespace Go.Proofs.YtlgbdpabcbcmcaaGreatDoor
open Go.AM
set_option maxRecDepth 100000

theorem yFw : Tryz.prog.inPlace 3 = Rows.localDownRow.inPlace := by kernel_rfl
theorem zVa : Tryz.prog.unfollowed 3 = Rows.localDownRow.unfollowed := by kernel_rfl
theorem zUz : Tryz.prog.recurses 3 = Rows.localDownRow.recurses := by kernel_rfl
theorem yFx : Tryz.prog.varsNamed 3 = Rows.localDownRow.named := by kernel_rfl
theorem yBe : joinedFacts Tryz.prog 3 Tryz.f3 Rows.localDownSpec Rows.localDownRow = true := by
  unfold joinedFacts
  rw [yFw, zVa, zUz, yFx, yLx, yLy, yLv, yQr, yQs, yQq, yLu, yLw, yTj]
  kernel_rfl
theorem yFy : Rows.LocalDownSaid :=
  OpenClaim.holds_of_wide 3 Tryz.f3 rfl rfl rfl rfl rfl rfl rfl ⟨rfl, rfl, rfl, rfl, rfl⟩ rfl rfl rfl rfl rfl (by kernel_rfl) Tryz.func3 yBe
    (of_decide_eq_true (by kernel_rfl)) (by unfold Func.isWrapper; first | (rw [if_pos (by decide +kernel)]; kernel_rfl) | (rw [if_neg (by decide +kernel)]; exact ⟨rfl, rfl⟩))
    (fun os started H enc _ => yBd os started H enc)

end Go.Proofs.YtlgbdpabcbcmcaaGreatDoor
