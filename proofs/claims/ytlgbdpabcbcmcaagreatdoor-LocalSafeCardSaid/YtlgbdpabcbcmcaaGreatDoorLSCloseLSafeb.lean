import Derived.Test.YtlgbdpabcbcmcaaGreatDoorLSCloseLSafe

/- The statement LocalSafe: the row without its ties. -/
set_option linter.unusedSimpArgs false
set_option linter.unusedVariables false
namespace Go.Proofs.YtlgbdpabcbcmcaaGreatDoor
open Go.AM
set_option maxRecDepth 100000

theorem yFp : Tryz.prog.inPlace 5 = Rows.localSafeRow.inPlace := by kernel_rfl
theorem zVc : Tryz.prog.unfollowed 5 = Rows.localSafeRow.unfollowed := by kernel_rfl
theorem zVb : Tryz.prog.recurses 5 = Rows.localSafeRow.recurses := by kernel_rfl
theorem yFq : Tryz.prog.varsNamed 5 = Rows.localSafeRow.named := by kernel_rfl
theorem yBc : joinedFacts Tryz.prog 5 Tryz.f5 Rows.localSafeSpec Rows.localSafeRow = true := by
  unfold joinedFacts
  rw [yFp, zVc, zVb, yFq, yLp, yLq, yLn, yQj, yQk, yQi, yLm, yLo, ySy]
  kernel_rfl
theorem yFr : Rows.LocalSafeSaid :=
  OpenClaim.holds_of_wide 5 Tryz.f5 rfl rfl rfl rfl rfl rfl rfl ⟨rfl, rfl, rfl, rfl, rfl⟩ rfl rfl rfl rfl rfl (by kernel_rfl) Tryz.func5 yBc
    (of_decide_eq_true (by kernel_rfl)) (by unfold Func.isWrapper; first | (rw [if_pos (by decide +kernel)]; kernel_rfl) | (rw [if_neg (by decide +kernel)]; exact ⟨rfl, rfl⟩))
    (fun os started H enc _ => yBb os started H enc)

end Go.Proofs.YtlgbdpabcbcmcaaGreatDoor
