/- The statement SiteClear: its law holds of whatever it is handed, the table of math/bits as the program's text lays it. -/
import Derived.Test.YtiibccoaopjoiaaDoorRead5
import Derived.Test.YtiibccoaopjoiaaDoorClear5
import Derived.Test.YtiibccoaopjoiaaDoorShut
set_option linter.unusedSimpArgs false
set_option linter.unusedVariables false
namespace Go.Proofs.YtiibccoaopjoiaaDoor
open Go.AM
set_option maxRecDepth 100000

theorem sclear5_law (xs : List V) (h : argsT Tryd.prog 13 Tryd.f10.params.toList xs) : FnD Tryd.prog 10 xs (.bool true) tabG := by
  simp only [Tryd.params10, argsT] at h
  obtain ⟨_, _, rfl, h1, _, _, rfl, h2, _, _, rfl, h3, rfl⟩ := h
  obtain ⟨s, rfl⟩ := one_sit h1
  obtain ⟨a, rfl⟩ := one_int h2
  obtain ⟨b, rfl⟩ := one_int h3
  exact sclear5_spec s a b

theorem sclear5_lifted (os : Os) (started : os.Started) (H : Type) (enc : TypeId × Value → H) :
    ReturnsInHanded {} Tryd.checked os 10 .any (fun w args => (Rows.siteClearSpec.pre enc Tryd.prog Tryd.f10 Rows.siteClearRow.domain false w args ∧ laidMetH Tryd.prog laidL w) ∧ sizedMet enc Tryd.prog Tryd.f10 (OpenSpec.ofChange Rows.siteClearSpec) false w args)
      (Rows.siteClearSpec.post enc Tryd.prog Tryd.f10 false true false false) := by
  refine returnsInHanded_of_change_and (C := Tryd.checked) (X := fun w _ => laidMetH Tryd.prog laidL w) (fun _ _ _ hh h => h.of_heap hh) own started (by kernel_rfl) Tryd.func10
    (ChangeSpec.witness_shaped (enc := enc) (C := Tryd.checked) (os := os) (X := fun w _ => laidMetH Tryd.prog laidL w) false (World.doorLaid Tryd.prog 14 os) #[.agg #[.int .i64 0, .slice none 0 0, .slice none 0 0, .slice none 0 0, .slice none 0 0, .slice none 0 0, .int .i64 0, .int .i64 0, .int .i64 0, .int .i64 0, .int .i64 0, .slice none 0 0], .int .i64 0, .int .i64 0] 8 rfl (World.shaped_of_RefB (by kernel_rfl) (by kernel_rfl)) (by kernel_rfl) (by kernel_rfl) (by kernel_rfl) (door_met os _)) ?_
  intro W base args ds gs before hval hW _ hwt hL _
  exact close_law_gl 13 laidOut rfl (by kernel_rfl) rfl Tryd.underlying4
    (fun H ds h => match ds, h with | [d1, d2, d3], _ => rfl) sclear5_law W (glob_of hL) base args ds gs before hval hW hwt

end Go.Proofs.YtiibccoaopjoiaaDoor
