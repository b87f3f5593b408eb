/- The statement PulseRuns: its law holds of whatever it is handed. -/
import Derived.Test.YtnikgmdpnlfbiaaPulseClose
import Derived.Test.YtnikgmdpnlfbiaaPulse5
namespace Go.Proofs.Ytnikgmdpnlfbiaa
open Go.AM

theorem runs_law (xs : List V) (h : argsT Try.prog 6 Try.f7.params.toList xs) : FnD Try.prog 7 xs (.bool true) := by
  simp [Try.params7, argsT, one, sh, parts, isRowT, go_sem, Try.underlying4, Try.underlying3, Try.underlying31, Try.underlying34] at h
  obtain ⟨_, _, rfl, ⟨cs, rfl, hc⟩, _, _, rfl, ⟨ys, rfl, _, hy⟩, _, _, rfl, hx, _, rfl, n, rfl⟩ := h
  obtain ⟨p, hp⟩ := pul_of hc
  obtain ⟨l, rfl⟩ := bools_of hy
  obtain ⟨x, rfl⟩ := bool_of hx
  rw [hp]
  exact runs_spec p l x n

set_option maxRecDepth 100000 in
theorem runs_lifted (os : Os) (started : os.Started) (H : Type) (enc : TypeId × Value → H) :
    ReturnsInHanded {} Try.checked os 7 .any (Rows.pulseRunsSpec.pre6 enc Try.prog Try.f7 Rows.pulseRunsRow.domain false) (Rows.pulseRunsSpec.post enc Try.prog Try.f7 false true false false) := by
  refine returnsInHanded_of_change_sized (C := Try.checked) own started (by kernel_rfl) Try.func7
    (ChangeSpec.witness6 (enc := enc) (C := Try.checked) false ⟨#[], #[.agg #[.bool false, .bool false, .int .i64 0], .slice none 0 0, .bool false, .int .i64 0], []⟩ 8 (by kernel_rfl) (by kernel_rfl) (by kernel_rfl) (by kernel_rfl)) ?_
  intro W base args ds gs before hval hW _ hwt _
  exact close_law 6 laidOut rfl (by kernel_rfl) rfl Try.underlying4
    (fun H ds h => match ds, h with | [d1, d2, d3, d4], _ => rfl) runs_law W base args ds gs before hval hW hwt

theorem proved_runs : Rows.PulseRunsSaid :=
  OpenClaim.holds_of_wide 7 Try.f7 rfl rfl rfl rfl rfl rfl rfl ⟨rfl, rfl, rfl, rfl, rfl⟩ rfl rfl rfl rfl rfl (by kernel_rfl) Try.func7 (by kernel_rfl)
    (of_decide_eq_true (by kernel_rfl)) (by unfold Func.isWrapper; first | (rw [if_pos (by decide +kernel)]; kernel_rfl) | (rw [if_neg (by decide +kernel)]; exact ⟨rfl, rfl⟩))
    (fun os started H enc _ => runs_lifted os started H enc)
#print axioms proved_runs
end Go.Proofs.Ytnikgmdpnlfbiaa
