
/- The statement NetNames: its law holds of whatever it is handed, the table of math/bits as the program's text lays it. -/
import Derived.Test.YtdeionjkcmpnpaaDoorRead5
import Derived.Test.YtdeionjkcmpnpaaDoorNetNm
import Derived.Test.YtdeionjkcmpnpaaDoorShut
set_option linter.unusedSimpArgs false
set_option linter.unusedVariables false
namespace Go.Proofs.YtdeionjkcmpnpaaDoor
open Go.AM
set_option maxRecDepth 100000

theorem nnames_law (xs : List V) (h : argsT Tryd.prog 13 Tryd.f9.params.toList xs) : FnD Tryd.prog 9 xs (.bool true) tabG := by
  simp only [Tryd.params9, argsT] at h
  subst h
  exact nnames_spec

theorem nnames_lifted (os : Os) (started : os.Started) (H : Type) (enc : TypeId × Value → H) :
    ReturnsInHanded {} Tryd.checked os 9 .any (fun w args => (Rows.netNamesSpec.pre enc Tryd.prog Tryd.f9 Rows.netNamesRow.domain false w args ∧ laidMetH Tryd.prog laidL w) ∧ sizedMet enc Tryd.prog Tryd.f9 (OpenSpec.ofChange Rows.netNamesSpec) false w args)
      (Rows.netNamesSpec.post enc Tryd.prog Tryd.f9 false true false false) := by
  refine returnsInHanded_of_change_and (C := Tryd.checked) (X := fun w _ => laidMetH Tryd.prog laidL w) (fun _ _ _ hh h => h.of_heap hh) own started (by kernel_rfl) Tryd.func9
    (ChangeSpec.witness_shaped (enc := enc) (C := Tryd.checked) (os := os) (X := fun w _ => laidMetH Tryd.prog laidL w) false (World.doorLaid Tryd.prog 14 os) #[] 8 rfl (World.shaped_of_RefB (by kernel_rfl) (by kernel_rfl)) (by kernel_rfl) (by kernel_rfl) (by kernel_rfl) (door_met os _)) ?_
  intro W base args ds gs before hval hW _ hwt hL _
  exact close_law_gl 13 laidOut rfl (by kernel_rfl) rfl Tryd.underlying4
    (fun H ds h => match ds, h with | [], _ => rfl) nnames_law W (glob_of hL) base args ds gs before hval hW hwt

end Go.Proofs.YtdeionjkcmpnpaaDoor
