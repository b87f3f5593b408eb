
/- The statement NetParts: its law holds of whatever it is handed, the table of math/bits as the program's text lays it. -/
import Derived.Test.YtdeionjkcmpnpaaDoorRead5
import Derived.Test.YtdeionjkcmpnpaaDoorNetPt
import Derived.Test.YtdeionjkcmpnpaaDoorShut
set_option linter.unusedSimpArgs false
set_option linter.unusedVariables false
namespace Go.Proofs.YtdeionjkcmpnpaaDoor
open Go.AM
set_option maxRecDepth 100000

theorem nparts_law (xs : List V) (h : argsT Tryd.prog 13 Tryd.f8.params.toList xs) : FnD Tryd.prog 8 xs (.bool true) tabG := by
  simp only [Tryd.params8, argsT] at h
  obtain ⟨_, _, rfl, h1, rfl⟩ := h
  obtain ⟨s, rfl⟩ := one_net h1
  exact nparts_spec s

theorem nparts_lifted (os : Os) (started : os.Started) (H : Type) (enc : TypeId × Value → H) :
    ReturnsInHanded {} Tryd.checked os 8 .any (fun w args => (Rows.netPartsSpec.pre enc Tryd.prog Tryd.f8 Rows.netPartsRow.domain false w args ∧ laidMetH Tryd.prog laidL w) ∧ sizedMet enc Tryd.prog Tryd.f8 (OpenSpec.ofChange Rows.netPartsSpec) false w args)
      (Rows.netPartsSpec.post enc Tryd.prog Tryd.f8 false true false false) := by
  refine returnsInHanded_of_change_and (C := Tryd.checked) (X := fun w _ => laidMetH Tryd.prog laidL w) (fun _ _ _ hh h => h.of_heap hh) own started (by kernel_rfl) Tryd.func8
    (ChangeSpec.witness_shaped (enc := enc) (C := Tryd.checked) (os := os) (X := fun w _ => laidMetH Tryd.prog laidL w) false (World.doorLaid Tryd.prog 14 os) #[.agg #[.slice none 0 0, .slice none 0 0, .slice none 0 0, .int .i64 0, .int .i64 0, .int .i64 0]] 8 rfl (World.shaped_of_RefB (by kernel_rfl) (by kernel_rfl)) (by kernel_rfl) (by kernel_rfl) (by kernel_rfl) (door_met os _)) ?_
  intro W base args ds gs before hval hW _ hwt hL _
  exact close_law_gl 13 laidOut rfl (by kernel_rfl) rfl Tryd.underlying4
    (fun H ds h => match ds, h with | [d1], _ => rfl) nparts_law W (glob_of hL) base args ds gs before hval hW hwt

end Go.Proofs.YtdeionjkcmpnpaaDoor
