import Derived.Test.YtpijmanjjhpkiaaGreatDoorPACloseMRest

/- The statement MasterRests: the row without its ties. -/
set_option linter.unusedSimpArgs false
set_option linter.unusedVariables false
namespace Go.Proofs.YtpijmanjjhpkiaaGreatDoor
open Go.AM
set_option maxRecDepth 100000

theorem mrests_place : Tryz.prog.inPlace 3 = Rows.masterRestsRow.inPlace := by kernel_rfl
theorem mrests_followed : Tryz.prog.unfollowed 3 = Rows.masterRestsRow.unfollowed := by kernel_rfl
theorem mrests_recurses : Tryz.prog.recurses 3 = Rows.masterRestsRow.recurses := by kernel_rfl
theorem mrests_named : Tryz.prog.varsNamed 3 = Rows.masterRestsRow.named := by kernel_rfl
theorem mrests_closed : joinedFacts Tryz.prog 3 Tryz.f3 Rows.masterRestsSpec Rows.masterRestsRow = true := by
  unfold joinedFacts
  rw [mrests_place, mrests_followed, mrests_recurses, mrests_named, shut_heard, shut_enter, shut_lifts, shut_make, shut_keys, shut_maps, shut_stops, shut_knobs, laidOut]
  kernel_rfl
theorem mrests_holds : Rows.MasterRestsSaid :=
  OpenClaim.holds_of_wide 3 Tryz.f3 rfl rfl rfl rfl rfl rfl rfl ⟨rfl, rfl, rfl, rfl, rfl⟩ rfl rfl rfl rfl rfl (by kernel_rfl) Tryz.func3 mrests_closed
    (of_decide_eq_true (by kernel_rfl)) (by unfold Func.isWrapper; first | (rw [if_pos (by decide +kernel)]; kernel_rfl) | (rw [if_neg (by decide +kernel)]; exact ⟨rfl, rfl⟩))
    (fun os started H enc _ => mrests_lifted os started H enc)

end Go.Proofs.YtpijmanjjhpkiaaGreatDoor
