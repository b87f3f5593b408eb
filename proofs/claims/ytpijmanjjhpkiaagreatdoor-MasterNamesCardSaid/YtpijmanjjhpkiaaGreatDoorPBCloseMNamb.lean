import Derived.Test.YtpijmanjjhpkiaaGreatDoorPBCloseMNam

/- The statement MasterNames: the row without its ties. -/
set_option linter.unusedSimpArgs false
set_option linter.unusedVariables false
namespace Go.Proofs.YtpijmanjjhpkiaaGreatDoor
open Go.AM
set_option maxRecDepth 100000

theorem mnames_place : Tryz.prog.inPlace 4 = Rows.masterNamesRow.inPlace := by kernel_rfl
theorem mnames_followed : Tryz.prog.unfollowed 4 = Rows.masterNamesRow.unfollowed := by kernel_rfl
theorem mnames_recurses : Tryz.prog.recurses 4 = Rows.masterNamesRow.recurses := by kernel_rfl
theorem mnames_named : Tryz.prog.varsNamed 4 = Rows.masterNamesRow.named := by kernel_rfl
theorem mnames_closed : joinedFacts Tryz.prog 4 Tryz.f4 Rows.masterNamesSpec Rows.masterNamesRow = true := by
  unfold joinedFacts
  rw [mnames_place, mnames_followed, mnames_recurses, mnames_named, shut_heard, shut_enter, shut_lifts, shut_make, shut_keys, shut_maps, shut_stops, shut_knobs, laidOut]
  kernel_rfl
theorem mnames_holds : Rows.MasterNamesSaid :=
  OpenClaim.holds_of_wide 4 Tryz.f4 rfl rfl rfl rfl rfl rfl rfl ⟨rfl, rfl, rfl, rfl, rfl⟩ rfl rfl rfl rfl rfl (by kernel_rfl) Tryz.func4 mnames_closed
    (of_decide_eq_true (by kernel_rfl)) (by unfold Func.isWrapper; first | (rw [if_pos (by decide +kernel)]; kernel_rfl) | (rw [if_neg (by decide +kernel)]; exact ⟨rfl, rfl⟩))
    (fun os started H enc _ => mnames_lifted os started H enc)

end Go.Proofs.YtpijmanjjhpkiaaGreatDoor
