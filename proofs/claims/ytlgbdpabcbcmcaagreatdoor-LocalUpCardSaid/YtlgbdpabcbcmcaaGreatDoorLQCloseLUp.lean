import Derived.Test.YtlgbdpabcbcmcaaGreatDoorLQ5
import Derived.Test.YtlgbdpabcbcmcaaGreatDoorLQShut

/- The statement LocalUp: its law holds of whatever it is handed, the table of math/bits as the program's text lays it. -/
set_option linter.unusedSimpArgs false
set_option linter.unusedVariables false
namespace Go.Proofs.YtlgbdpabcbcmcaaGreatDoor
open Go.AM
set_option maxRecDepth 100000

theorem xPj (xs : List V) (h : yZs Tryz.prog 13 Tryz.f4.params.toList xs) : FnD Tryz.prog 4 xs (.bool true) tabG := by
  simp only [Tryz.params4, yZs] at h
  obtain ⟨_, _, rfl, h1, _, _, rfl, h2, _, _, rfl, h3, rfl⟩ := h
  obtain ⟨s, rfl⟩ := xOs h1
  obtain ⟨d, rfl⟩ := xOz h2
  obtain ⟨l, rfl⟩ := xDg h3
  exact xXe (fn := Tryz.f4) Tryz.func4 rfl rfl fun hw => by
    simp only [wfs, V.wf] at hw
    obtain ⟨l2, e, hi⟩ := yRb hw.2.2.1.2
    rw [yDq hw.2.1.1.2, e]
    exact xDp s _ l2 hi

theorem yMq (os : Os) (started : os.Started) (H : Type) (enc : TypeId × Value → H) :
    ReturnsInHanded {} Tryz.checked os 4 .any (fun w args => (Rows.localUpSpec.pre enc Tryz.prog Tryz.f4 Rows.localUpRow.domain false w args ∧ laidMetH Tryz.prog ySx w) ∧ sizedMet enc Tryz.prog Tryz.f4 (OpenSpec.ofChange Rows.localUpSpec) false w args)
      (Rows.localUpSpec.post enc Tryz.prog Tryz.f4 false true false false) := by
  refine returnsInHanded_of_change_and (C := Tryz.checked) (X := fun w _ => laidMetH Tryz.prog ySx w) (fun _ _ _ hh h => h.of_heap hh) own started (by kernel_rfl) Tryz.func4
    (ChangeSpec.witness_shaped (enc := enc) (C := Tryz.checked) (os := os) (X := fun w _ => laidMetH Tryz.prog ySx w) false (World.doorLaid Tryz.prog 14 os) #[.agg #[.int .i64 0, .slice none 0 0, .slice none 0 0, .slice none 0 0, .slice none 0 0, .slice none 0 0, .int .i64 0, .int .i64 0, .int .i64 0, .int .i64 0, .int .i64 0, .slice none 0 0], .agg #[.slice none 0 0], .slice none 0 0] 8 rfl (World.shaped_of_RefB (by kernel_rfl) (by kernel_rfl)) (by kernel_rfl) (by kernel_rfl) (by kernel_rfl) (xJw os _)) ?_
  intro W base args ds gs before hval hW _ hwt hL _
  exact yCe 13 ySw rfl (by kernel_rfl) rfl Tryz.underlying4
    (fun H ds h => match ds, h with | [d1, d2, d3], _ => rfl) xPj W (xQa hL) base args ds gs before hval hW hwt

end Go.Proofs.YtlgbdpabcbcmcaaGreatDoor
