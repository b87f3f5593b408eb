import Derived.Test.YtlgbdpabcbcmcaaGreatDoorLQCloseLUp

/- The statement LocalUp: the row without its ties. -/
set_option linter.unusedSimpArgs false
set_option linter.unusedVariables false
namespace Go.Proofs.YtlgbdpabcbcmcaaGreatDoor
open Go.AM
set_option maxRecDepth 100000

theorem ySm : Tryz.prog.inPlace 4 = Rows.localUpRow.inPlace := by kernel_rfl
theorem yAy : Tryz.prog.unfollowed 4 = Rows.localUpRow.unfollowed := by kernel_rfl
theorem yAx : Tryz.prog.recurses 4 = Rows.localUpRow.recurses := by kernel_rfl
theorem ySn : Tryz.prog.varsNamed 4 = Rows.localUpRow.named := by kernel_rfl
theorem yMr : joinedFacts Tryz.prog 4 Tryz.f4 Rows.localUpSpec Rows.localUpRow = true := by
  unfold joinedFacts
  rw [ySm, yAy, yAx, ySn, yLj, yLk, yLh, yQe, yQf, yQd, yLg, yLi, ySw]
  kernel_rfl
theorem ySo : Rows.LocalUpSaid :=
  OpenClaim.holds_of_wide 4 Tryz.f4 rfl rfl rfl rfl rfl rfl rfl ⟨rfl, rfl, rfl, rfl, rfl⟩ rfl rfl rfl rfl rfl (by kernel_rfl) Tryz.func4 yMr
    (of_decide_eq_true (by kernel_rfl)) (by unfold Func.isWrapper; first | (rw [if_pos (by decide +kernel)]; kernel_rfl) | (rw [if_neg (by decide +kernel)]; exact ⟨rfl, rfl⟩))
    (fun os started H enc _ => yMq os started H enc)

end Go.Proofs.YtlgbdpabcbcmcaaGreatDoor
