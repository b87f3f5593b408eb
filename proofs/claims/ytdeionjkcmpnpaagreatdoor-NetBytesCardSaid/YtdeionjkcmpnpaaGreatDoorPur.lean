/- What is pure, and how long it is, known to simp. -/
import Derived.Test.YtdeionjkcmpnpaaGreatDoorNetA
import Derived.Test.YtdeionjkcmpnpaaGreatDoorRaw
set_option linter.unusedSimpArgs false
set_option linter.unusedVariables false
namespace Go.Proofs.YtdeionjkcmpnpaaGreatDoor
open Go.AM Go.RowKit
theorem rens_bts (τ : Nat → Nat) (l : List UInt8) : rens τ (bts l) = bts l := rens_pure _ (bts_pure l)
theorem rens_ints (τ : Nat → Nat) (l : List Int) : rens τ (ints l) = ints l := rens_pure _ (ints_pure l)
theorem bts_noSls5 (l : List UInt8) : noSls (bts l) := by
  induction l with
  | nil => simp [bts, noSls]
  | cons b l ih => simp only [bts, List.map_cons, noSls] at ih ⊢; exact ⟨by simp [V.noSl], ih⟩
theorem ints_noSls (l : List Int) : noSls (ints l) := by
  induction l with
  | nil => simp [ints, noSls]
  | cons b l ih => simp only [ints, List.map_cons, noSls] at ih ⊢; exact ⟨by simp [V.noSl], ih⟩
attribute [go_sem] ints_pure grps_pure phas_pure eyes_pure plns_pure sets_pure rows_pure bts_pure sits_pure subs_pure weds_pure ints_len sets_len rows_len bts_len rens_bts rens_ints bts_noSls5 ints_noSls List.length_map
end Go.Proofs.YtdeionjkcmpnpaaGreatDoor
