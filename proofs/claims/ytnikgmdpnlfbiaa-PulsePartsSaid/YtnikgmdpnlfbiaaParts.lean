/- The statement PulseParts: its law holds of whatever it is handed. -/
import Derived.Test.YtnikgmdpnlfbiaaPulseClose
import Derived.Test.YtnikgmdpnlfbiaaPulse6
namespace Go.Proofs.Ytnikgmdpnlfbiaa
open Go.AM

theorem parts_law (xs : List V) (h : argsT Try.prog 6 Try.f8.params.toList xs) : FnD Try.prog 8 xs (.bool true) := by
  simp [Try.params8, argsT, one, sh, parts, isRowT, go_sem, Try.underlying4, Try.underlying3, Try.underlying31, Try.underlying34] at h
  obtain ⟨_, _, rfl, ⟨cs, rfl, hc⟩, _, _, rfl, ⟨ys, rfl, _, hy⟩, _, _, rfl, ⟨a, rfl⟩, _, rfl, n, rfl⟩ := h
  obtain ⟨p, hp⟩ := pul_of hc
  obtain ⟨l, rfl⟩ := bools_of hy
  rw [hp]
  exact parts_spec p l a n

set_option maxRecDepth 100000 in
theorem parts_lifted (os : Os) (started : os.Started) (H : Type) (enc : TypeId × Value → H) :
    ReturnsInHanded {} Try.checked os 8 .any (Rows.pulsePartsSpec.pre6 enc Try.prog Try.f8 Rows.pulsePartsRow.domain false) (Rows.pulsePartsSpec.post enc Try.prog Try.f8 false true false false) := by
  refine returnsInHanded_of_change_sized (C := Try.checked) own started (by kernel_rfl) Try.func8
    (ChangeSpec.witness6 (enc := enc) (C := Try.checked) false ⟨#[], #[.agg #[.bool false, .bool false, .int .i64 0], .slice none 0 0, .int .i64 0, .int .i64 0], []⟩ 8 (by kernel_rfl) (by kernel_rfl) (by kernel_rfl) (by kernel_rfl)) ?_
  intro W base args ds gs before hval hW _ hwt _
  exact close_law 6 laidOut rfl (by kernel_rfl) rfl Try.underlying4
    (fun H ds h => match ds, h with | [d1, d2, d3, d4], _ => rfl) parts_law W base args ds gs before hval hW hwt

theorem proved_parts : Rows.PulsePartsSaid :=
  OpenClaim.holds_of_wide 8 Try.f8 rfl rfl rfl rfl rfl rfl rfl ⟨rfl, rfl, rfl, rfl, rfl⟩ rfl rfl rfl rfl rfl (by kernel_rfl) Try.func8 (by kernel_rfl)
    (of_decide_eq_true (by kernel_rfl)) (by unfold Func.isWrapper; first | (rw [if_pos (by decide +kernel)]; kernel_rfl) | (rw [if_neg (by decide +kernel)]; exact ⟨rfl, rfl⟩))
    (fun os started H enc _ => parts_lifted os started H enc)
#print axioms proved_parts
end Go.Proofs.Ytnikgmdpnlfbiaa
