import Derived.Test.YtlgbdpabcbcmcaaGreatDoorLD6
import Derived.Test.YtlgbdpabcbcmcaaGreatDoorLDShut

/- The statement LocalDown: its law holds of whatever it is handed, the table of math/bits as the program's text lays it. -/
set_option linter.unusedSimpArgs false
set_option linter.unusedVariables false
namespace Go.Proofs.YtlgbdpabcbcmcaaGreatDoor
open Go.AM
set_option maxRecDepth 100000

theorem yTe (xs : List V) (h : xAf Tryz.prog 13 Tryz.f3.params.toList xs) : FnD Tryz.prog 3 xs (.bool true) tabG := by
  simp only [Tryz.params3, xAf] at h
  obtain ⟨_, _, rfl, h1, _, _, rfl, h2, _, _, rfl, h3, _, _, rfl, h4, rfl⟩ := h
  obtain ⟨s, rfl⟩ := xPg h1
  obtain ⟨d, rfl⟩ := xPm h2
  obtain ⟨l, rfl⟩ := xDs h3
  obtain ⟨c, rfl⟩ := ySj h4
  exact xXo (fn := Tryz.f3) Tryz.func3 rfl rfl fun hw => by
    simp only [wfs, V.wf] at hw
    obtain ⟨l2, e, hi⟩ := yRo hw.2.2.1.2
    rw [yDv hw.2.1.1.2, e]
    exact yNm s _ l2 c hi

theorem yBd (os : Os) (started : os.Started) (H : Type) (enc : TypeId × Value → H) :
    ReturnsInHanded {} Tryz.checked os 3 .any (fun w args => (Rows.localDownSpec.pre enc Tryz.prog Tryz.f3 Rows.localDownRow.domain false w args ∧ laidMetH Tryz.prog yTk w) ∧ sizedMet enc Tryz.prog Tryz.f3 (OpenSpec.ofChange Rows.localDownSpec) false w args)
      (Rows.localDownSpec.post enc Tryz.prog Tryz.f3 false true false false) := by
  refine returnsInHanded_of_change_and (C := Tryz.checked) (X := fun w _ => laidMetH Tryz.prog yTk w) (fun _ _ _ hh h => h.of_heap hh) own started (by kernel_rfl) Tryz.func3
    (ChangeSpec.witness_shaped (enc := enc) (C := Tryz.checked) (os := os) (X := fun w _ => laidMetH Tryz.prog yTk w) false (World.doorLaid Tryz.prog 14 os) #[.agg #[.int .i64 0, .slice none 0 0, .slice none 0 0, .slice none 0 0, .slice none 0 0, .slice none 0 0, .int .i64 0, .int .i64 0, .int .i64 0, .int .i64 0, .int .i64 0, .slice none 0 0], .agg #[.slice none 0 0], .slice none 0 0, .int .i64 0] 8 rfl (World.shaped_of_RefB (by kernel_rfl) (by kernel_rfl)) (by kernel_rfl) (by kernel_rfl) (by kernel_rfl) (xKi os _)) ?_
  intro W base args ds gs before hval hW _ hwt hL _
  exact yCj 13 yTj rfl (by kernel_rfl) rfl Tryz.underlying4
    (fun H ds h => match ds, h with | [d1, d2, d3, d4], _ => rfl) yTe W (xQl hL) base args ds gs before hval hW hwt

end Go.Proofs.YtlgbdpabcbcmcaaGreatDoor
