import Derived.Test.YtpijmanjjhpkiaaGreatDoorPB4
import Derived.Test.YtpijmanjjhpkiaaGreatDoorPBShut

/- The statement MasterKeeps: its law holds of whatever it is handed, the table of math/bits as the program's text lays it. -/
set_option linter.unusedSimpArgs false
set_option linter.unusedVariables false
namespace Go.Proofs.YtpijmanjjhpkiaaGreatDoor
open Go.AM
set_option maxRecDepth 100000

theorem mkeeps_law (xs : List V) (h : argsT Tryz.prog 13 Tryz.f6.params.toList xs) : FnD Tryz.prog 6 xs (.bool true) tabG := by
  simp only [Tryz.params6, argsT] at h
  obtain ⟨_, _, rfl, h1, _, _, rfl, h2, _, _, rfl, h3, _, _, rfl, h4, rfl⟩ := h
  obtain ⟨n, rfl⟩ := one_net h1
  obtain ⟨m, rfl⟩ := one_mas h2
  obtain ⟨l, rfl⟩ := one_reps h3
  obtain ⟨b, rfl⟩ := one_u8 h4
  exact mkeeps_spec n m l b

theorem mkeeps_lifted (os : Os) (started : os.Started) (H : Type) (enc : TypeId × Value → H) :
    ReturnsInHanded {} Tryz.checked os 6 .any (fun w args => (Rows.masterKeepsSpec.pre enc Tryz.prog Tryz.f6 Rows.masterKeepsRow.domain false w args ∧ laidMetH Tryz.prog laidL w) ∧ sizedMet enc Tryz.prog Tryz.f6 (OpenSpec.ofChange Rows.masterKeepsSpec) false w args)
      (Rows.masterKeepsSpec.post enc Tryz.prog Tryz.f6 false true false false) := by
  refine returnsInHanded_of_change_and (C := Tryz.checked) (X := fun w _ => laidMetH Tryz.prog laidL w) (fun _ _ _ hh h => h.of_heap hh) own started (by kernel_rfl) Tryz.func6
    (ChangeSpec.witness_shaped (enc := enc) (C := Tryz.checked) (os := os) (X := fun w _ => laidMetH Tryz.prog laidL w) false (World.doorLaid Tryz.prog 14 os) #[.agg #[.slice none 0 0, .slice none 0 0, .slice none 0 0, .int .i64 0, .int .i64 0, .int .i64 0], .agg #[.slice none 0 0, .slice none 0 0, .slice none 0 0, .slice none 0 0, .slice none 0 0], .slice none 0 0, .int .u8 0] 8 rfl (World.shaped_of_RefB (by kernel_rfl) (by kernel_rfl)) (by kernel_rfl) (by kernel_rfl) (by kernel_rfl) (door_met os _)) ?_
  intro W base args ds gs before hval hW _ hwt hL _
  exact close_law_gl 13 laidOut rfl (by kernel_rfl) rfl Tryz.underlying4
    (fun H ds h => match ds, h with | [d1, d2, d3, d4], _ => rfl) mkeeps_law W (glob_of hL) base args ds gs before hval hW hwt

end Go.Proofs.YtpijmanjjhpkiaaGreatDoor
