import Derived.Test.YtpijmanjjhpkiaaGreatDoorPB4
import Derived.Test.YtpijmanjjhpkiaaGreatDoorPBShut

/- The statement MasterNames: its law holds of whatever it is handed, the table of math/bits as the program's text lays it. -/
set_option linter.unusedSimpArgs false
set_option linter.unusedVariables false
namespace Go.Proofs.YtpijmanjjhpkiaaGreatDoor
open Go.AM
set_option maxRecDepth 100000

theorem mnames_law (xs : List V) (h : argsT Tryz.prog 13 Tryz.f4.params.toList xs) : FnD Tryz.prog 4 xs (.bool true) tabG := by
  simp only [Tryz.params4, argsT] at h
  subst h
  exact mnames_spec

theorem mnames_lifted (os : Os) (started : os.Started) (H : Type) (enc : TypeId × Value → H) :
    ReturnsInHanded {} Tryz.checked os 4 .any (fun w args => (Rows.masterNamesSpec.pre enc Tryz.prog Tryz.f4 Rows.masterNamesRow.domain false w args ∧ laidMetH Tryz.prog laidL w) ∧ sizedMet enc Tryz.prog Tryz.f4 (OpenSpec.ofChange Rows.masterNamesSpec) false w args)
      (Rows.masterNamesSpec.post enc Tryz.prog Tryz.f4 false true false false) := by
  refine returnsInHanded_of_change_and (C := Tryz.checked) (X := fun w _ => laidMetH Tryz.prog laidL w) (fun _ _ _ hh h => h.of_heap hh) own started (by kernel_rfl) Tryz.func4
    (ChangeSpec.witness_shaped (enc := enc) (C := Tryz.checked) (os := os) (X := fun w _ => laidMetH Tryz.prog laidL w) false (World.doorLaid Tryz.prog 14 os) #[] 8 rfl (World.shaped_of_RefB (by kernel_rfl) (by kernel_rfl)) (by kernel_rfl) (by kernel_rfl) (by kernel_rfl) (door_met os _)) ?_
  intro W base args ds gs before hval hW _ hwt hL _
  exact close_law_gl 13 laidOut rfl (by kernel_rfl) rfl Tryz.underlying4
    (fun H ds h => match ds, h with | [], _ => rfl) mnames_law W (glob_of hL) base args ds gs before hval hW hwt

end Go.Proofs.YtpijmanjjhpkiaaGreatDoor
