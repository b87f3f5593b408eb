import Derived.Test.YtpijmanjjhpkiaaGreatDoorPBCloseMKeep

/- The statement MasterKeeps: the row without its ties. -/
set_option linter.unusedSimpArgs false
set_option linter.unusedVariables false
namespace Go.Proofs.YtpijmanjjhpkiaaGreatDoor
open Go.AM
set_option maxRecDepth 100000

theorem mkeeps_place : Tryz.prog.inPlace 6 = Rows.masterKeepsRow.inPlace := by kernel_rfl
theorem mkeeps_followed : Tryz.prog.unfollowed 6 = Rows.masterKeepsRow.unfollowed := by kernel_rfl
theorem mkeeps_recurses : Tryz.prog.recurses 6 = Rows.masterKeepsRow.recurses := by kernel_rfl
theorem mkeeps_named : Tryz.prog.varsNamed 6 = Rows.masterKeepsRow.named := by kernel_rfl
theorem mkeeps_closed : joinedFacts Tryz.prog 6 Tryz.f6 Rows.masterKeepsSpec Rows.masterKeepsRow = true := by
  unfold joinedFacts
  rw [mkeeps_place, mkeeps_followed, mkeeps_recurses, mkeeps_named, shut_heard, shut_enter, shut_lifts, shut_make, shut_keys, shut_maps, shut_stops, shut_knobs, laidOut]
  kernel_rfl
theorem mkeeps_holds : Rows.MasterKeepsSaid :=
  OpenClaim.holds_of_wide 6 Tryz.f6 rfl rfl rfl rfl rfl rfl rfl ⟨rfl, rfl, rfl, rfl, rfl⟩ rfl rfl rfl rfl rfl (by kernel_rfl) Tryz.func6 mkeeps_closed
    (of_decide_eq_true (by kernel_rfl)) (by unfold Func.isWrapper; first | (rw [if_pos (by decide +kernel)]; kernel_rfl) | (rw [if_neg (by decide +kernel)]; exact ⟨rfl, rfl⟩))
    (fun os started H enc _ => mkeeps_lifted os started H enc)

end Go.Proofs.YtpijmanjjhpkiaaGreatDoor
