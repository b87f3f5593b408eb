/- The statement PulseApart: its law holds of whatever it is handed. -/
import Derived.Test.YtnikgmdpnlfbiaaPulseClose
import Derived.Test.YtnikgmdpnlfbiaaPulse4
namespace Go.Proofs.Ytnikgmdpnlfbiaa
open Go.AM

theorem apart_law (xs : List V) (h : argsT Try.prog 6 Try.f5.params.toList xs) : FnD Try.prog 5 xs (.bool true) := by
  simp [Try.params5, argsT, one, sh, parts, isRowT, go_sem, Try.underlying4, Try.underlying3, Try.underlying31] at h
  obtain ⟨_, _, rfl, ⟨ys, rfl, _, hy⟩, _, rfl, n, rfl⟩ := h
  obtain ⟨l, rfl⟩ := bools_of hy
  exact apart_spec l n

set_option maxRecDepth 100000 in
theorem apart_lifted (os : Os) (started : os.Started) (H : Type) (enc : TypeId × Value → H) :
    ReturnsInHanded {} Try.checked os 5 .any (Rows.pulseApartSpec.pre6 enc Try.prog Try.f5 Rows.pulseApartRow.domain false) (Rows.pulseApartSpec.post enc Try.prog Try.f5 false true false false) := by
  refine returnsInHanded_of_change_sized (C := Try.checked) own started (by kernel_rfl) Try.func5
    (ChangeSpec.witness6 (enc := enc) (C := Try.checked) false ⟨#[], #[.slice none 0 0, .int .i64 0], []⟩ 8 (by kernel_rfl) (by kernel_rfl) (by kernel_rfl) (by kernel_rfl)) ?_
  intro W base args ds gs before hval hW _ hwt _
  exact close_law 6 laidOut rfl (by kernel_rfl) rfl Try.underlying4
    (fun H ds h => match ds, h with | [d1, d2], _ => rfl) apart_law W base args ds gs before hval hW hwt

theorem proved_apart : Rows.PulseApartSaid :=
  OpenClaim.holds_of_wide 5 Try.f5 rfl rfl rfl rfl rfl rfl rfl ⟨rfl, rfl, rfl, rfl, rfl⟩ rfl rfl rfl rfl rfl (by kernel_rfl) Try.func5 (by kernel_rfl)
    (of_decide_eq_true (by kernel_rfl)) (by unfold Func.isWrapper; first | (rw [if_pos (by decide +kernel)]; kernel_rfl) | (rw [if_neg (by decide +kernel)]; exact ⟨rfl, rfl⟩))
    (fun os started H enc _ => apart_lifted os started H enc)
#print axioms proved_apart
end Go.Proofs.Ytnikgmdpnlfbiaa
