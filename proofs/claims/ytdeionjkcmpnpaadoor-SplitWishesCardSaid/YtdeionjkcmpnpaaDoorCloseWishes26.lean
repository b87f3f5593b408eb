
/- The statement SplitWishes: its law holds of whatever it is handed, the table of math/bits as the program's text lays it. -/
import Derived.Test.YtdeionjkcmpnpaaDoorRead5
import Derived.Test.YtdeionjkcmpnpaaDoorWishes26
import Derived.Test.YtdeionjkcmpnpaaDoorNear17
import Derived.Test.YtdeionjkcmpnpaaDoorShut
set_option linter.unusedSimpArgs false
set_option linter.unusedVariables false
namespace Go.Proofs.YtdeionjkcmpnpaaDoor
open Go.AM
set_option maxRecDepth 100000

theorem swishes_law (xs : List V) (h : argsT Tryd.prog 13 Tryd.f3.params.toList xs) : FnD Tryd.prog 3 xs (.bool true) tabG := by
  simp only [Tryd.params3, argsT] at h
  obtain ⟨_, _, rfl, h1, _, _, rfl, h2, _, _, rfl, h3, _, _, rfl, h4, _, _, rfl, h5, rfl⟩ := h
  obtain ⟨s, rfl⟩ := one_sit h1
  obtain ⟨⟨v, x, y⟩, rfl⟩ := one_vote h2
  obtain ⟨i, rfl⟩ := one_int h3
  obtain ⟨c, rfl⟩ := one_int h4
  obtain ⟨l, rfl⟩ := one_loads h5
  exact swishes_of s v x y i c l (near17_spec s)

theorem swishes_lifted (os : Os) (started : os.Started) (H : Type) (enc : TypeId × Value → H) :
    ReturnsInHanded {} Tryd.checked os 3 .any (fun w args => (Rows.splitWishesSpec.pre enc Tryd.prog Tryd.f3 Rows.splitWishesRow.domain false w args ∧ laidMetH Tryd.prog laidL w) ∧ sizedMet enc Tryd.prog Tryd.f3 (OpenSpec.ofChange Rows.splitWishesSpec) false w args)
      (Rows.splitWishesSpec.post enc Tryd.prog Tryd.f3 false true false false) := by
  refine returnsInHanded_of_change_and (C := Tryd.checked) (X := fun w _ => laidMetH Tryd.prog laidL w) (fun _ _ _ hh h => h.of_heap hh) own started (by kernel_rfl) Tryd.func3
    (ChangeSpec.witness_shaped (enc := enc) (C := Tryd.checked) (os := os) (X := fun w _ => laidMetH Tryd.prog laidL w) false (World.doorLaid Tryd.prog 14 os) #[.agg #[.int .i64 0, .slice none 0 0, .slice none 0 0, .slice none 0 0, .slice none 0 0, .slice none 0 0, .int .i64 0, .int .i64 0, .int .i64 0, .int .i64 0, .int .i64 0, .slice none 0 0], .agg #[.int .i64 0, .int .i64 0, .int .i64 0], .int .i64 0, .int .i64 0, .slice none 0 0] 8 rfl (World.shaped_of_RefB (by kernel_rfl) (by kernel_rfl)) (by kernel_rfl) (by kernel_rfl) (by kernel_rfl) (door_met os _)) ?_
  intro W base args ds gs before hval hW _ hwt hL _
  exact close_law_gl 13 laidOut rfl (by kernel_rfl) rfl Tryd.underlying4
    (fun H ds h => match ds, h with | [d1, d2, d3, d4, d5], _ => rfl) swishes_law W (glob_of hL) base args ds gs before hval hW hwt

end Go.Proofs.YtdeionjkcmpnpaaDoor
