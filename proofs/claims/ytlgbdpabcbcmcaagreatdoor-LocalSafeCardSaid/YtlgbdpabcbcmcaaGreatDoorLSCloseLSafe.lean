import Derived.Test.YtlgbdpabcbcmcaaGreatDoorLS5
import Derived.Test.YtlgbdpabcbcmcaaGreatDoorLSShut

/- The statement LocalSafe: its law holds of whatever it is handed, the table of math/bits as the program's text lays it. -/
set_option linter.unusedSimpArgs false
set_option linter.unusedVariables false
namespace Go.Proofs.YtlgbdpabcbcmcaaGreatDoor
open Go.AM
set_option maxRecDepth 100000

theorem ySr (xs : List V) (h : yZw Tryz.prog 13 Tryz.f5.params.toList xs) : FnD Tryz.prog 5 xs (.bool true) tabG := by
  simp only [Tryz.params5, yZw] at h
  obtain ⟨_, _, rfl, h1, _, _, rfl, h2, _, _, rfl, h3, rfl⟩ := h
  obtain ⟨s, rfl⟩ := xOw h1
  obtain ⟨d, rfl⟩ := xPd h2
  obtain ⟨l, rfl⟩ := xDk h3
  exact xXj (fn := Tryz.f5) Tryz.func5 rfl rfl fun hw => by
    simp only [wfs, V.wf] at hw
    obtain ⟨l2, e, hi⟩ := yRg hw.2.2.1.2
    rw [yDs hw.2.1.1.2, e]
    exact yMy s _ l2 hi

theorem yBb (os : Os) (started : os.Started) (H : Type) (enc : TypeId × Value → H) :
    ReturnsInHanded {} Tryz.checked os 5 .any (fun w args => (Rows.localSafeSpec.pre enc Tryz.prog Tryz.f5 Rows.localSafeRow.domain false w args ∧ laidMetH Tryz.prog ySz w) ∧ sizedMet enc Tryz.prog Tryz.f5 (OpenSpec.ofChange Rows.localSafeSpec) false w args)
      (Rows.localSafeSpec.post enc Tryz.prog Tryz.f5 false true false false) := by
  refine returnsInHanded_of_change_and (C := Tryz.checked) (X := fun w _ => laidMetH Tryz.prog ySz w) (fun _ _ _ hh h => h.of_heap hh) own started (by kernel_rfl) Tryz.func5
    (ChangeSpec.witness_shaped (enc := enc) (C := Tryz.checked) (os := os) (X := fun w _ => laidMetH Tryz.prog ySz w) false (World.doorLaid Tryz.prog 14 os) #[.agg #[.int .i64 0, .slice none 0 0, .slice none 0 0, .slice none 0 0, .slice none 0 0, .slice none 0 0, .int .i64 0, .int .i64 0, .int .i64 0, .int .i64 0, .int .i64 0, .slice none 0 0], .agg #[.slice none 0 0], .slice none 0 0] 8 rfl (World.shaped_of_RefB (by kernel_rfl) (by kernel_rfl)) (by kernel_rfl) (by kernel_rfl) (by kernel_rfl) (xJy os _)) ?_
  intro W base args ds gs before hval hW _ hwt hL _
  exact yCf 13 ySy rfl (by kernel_rfl) rfl Tryz.underlying4
    (fun H ds h => match ds, h with | [d1, d2, d3], _ => rfl) ySr W (xQd hL) base args ds gs before hval hW hwt

end Go.Proofs.YtlgbdpabcbcmcaaGreatDoor
