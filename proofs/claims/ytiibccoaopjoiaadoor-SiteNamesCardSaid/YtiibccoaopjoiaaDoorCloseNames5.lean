/- The statement SiteNames: its law holds of whatever it is handed, the table of math/bits as the program's text lays it. -/
import Derived.Test.YtiibccoaopjoiaaDoorRead5
import Derived.Test.YtiibccoaopjoiaaDoorNames5
import Derived.Test.YtiibccoaopjoiaaDoorShut
set_option linter.unusedSimpArgs false
set_option linter.unusedVariables false
namespace Go.Proofs.YtiibccoaopjoiaaDoor
open Go.AM
set_option maxRecDepth 100000

theorem snames5_law (xs : List V) (h : argsT Tryd.prog 13 Tryd.f13.params.toList xs) : FnD Tryd.prog 13 xs (.bool true) tabG := by
  simp only [Tryd.params13, argsT] at h
  subst h
  exact snames5_spec

theorem snames5_lifted (os : Os) (started : os.Started) (H : Type) (enc : TypeId × Value → H) :
    ReturnsInHanded {} Tryd.checked os 13 .any (fun w args => (Rows.siteNamesSpec.pre enc Tryd.prog Tryd.f13 Rows.siteNamesRow.domain false w args ∧ laidMetH Tryd.prog laidL w) ∧ sizedMet enc Tryd.prog Tryd.f13 (OpenSpec.ofChange Rows.siteNamesSpec) false w args)
      (Rows.siteNamesSpec.post enc Tryd.prog Tryd.f13 false true false false) := by
  refine returnsInHanded_of_change_and (C := Tryd.checked) (X := fun w _ => laidMetH Tryd.prog laidL w) (fun _ _ _ hh h => h.of_heap hh) own started (by kernel_rfl) Tryd.func13
    (ChangeSpec.witness_shaped (enc := enc) (C := Tryd.checked) (os := os) (X := fun w _ => laidMetH Tryd.prog laidL w) false (World.doorLaid Tryd.prog 14 os) #[] 8 rfl (World.shaped_of_RefB (by kernel_rfl) (by kernel_rfl)) (by kernel_rfl) (by kernel_rfl) (by kernel_rfl) (door_met os _)) ?_
  intro W base args ds gs before hval hW _ hwt hL _
  exact close_law_gl 13 laidOut rfl (by kernel_rfl) rfl Tryd.underlying4
    (fun H ds h => match ds, h with | [], _ => rfl) snames5_law W (glob_of hL) base args ds gs before hval hW hwt

end Go.Proofs.YtiibccoaopjoiaaDoor
