/- The statement PulseNames: its law holds of whatever it is handed. -/
import Derived.Test.YtnikgmdpnlfbiaaPulseClose
import Derived.Test.YtnikgmdpnlfbiaaPulse5
namespace Go.Proofs.Ytnikgmdpnlfbiaa
open Go.AM

theorem names_law (xs : List V) (h : argsT Try.prog 6 Try.f6.params.toList xs) : FnD Try.prog 6 xs (.bool true) := by
  simp [Try.params6, argsT, one, sh, parts, isRowT, go_sem, Try.underlying4] at h
  subst h
  exact names_spec

set_option maxRecDepth 100000 in
theorem names_lifted (os : Os) (started : os.Started) (H : Type) (enc : TypeId × Value → H) :
    ReturnsInHanded {} Try.checked os 6 .any (Rows.pulseNamesSpec.pre6 enc Try.prog Try.f6 Rows.pulseNamesRow.domain false) (Rows.pulseNamesSpec.post enc Try.prog Try.f6 false true false false) := by
  refine returnsInHanded_of_change_sized (C := Try.checked) own started (by kernel_rfl) Try.func6
    (ChangeSpec.witness6 (enc := enc) (C := Try.checked) false ⟨#[], #[], []⟩ 8 (by kernel_rfl) (by kernel_rfl) (by kernel_rfl) (by kernel_rfl)) ?_
  intro W base args ds gs before hval hW _ hwt _
  exact close_law 6 laidOut rfl (by kernel_rfl) rfl Try.underlying4
    (fun H ds h => match ds, h with | [], _ => rfl) names_law W base args ds gs before hval hW hwt

theorem proved_names : Rows.PulseNamesSaid :=
  OpenClaim.holds_of_wide 6 Try.f6 rfl rfl rfl rfl rfl rfl rfl ⟨rfl, rfl, rfl, rfl, rfl⟩ rfl rfl rfl rfl rfl (by kernel_rfl) Try.func6 (by kernel_rfl)
    (of_decide_eq_true (by kernel_rfl)) (by unfold Func.isWrapper; first | (rw [if_pos (by decide +kernel)]; kernel_rfl) | (rw [if_neg (by decide +kernel)]; exact ⟨rfl, rfl⟩))
    (fun os started H enc _ => names_lifted os started H enc)
#print axioms proved_names
end Go.Proofs.Ytnikgmdpnlfbiaa
