/- The statement CycleTallies: its law holds of whatever it is handed. -/
import Derived.Test.YtnikgmdpnlfbiaaVotes
import Derived.Test.YtnikgmdpnlfbiaaAmClose
import Derived.Test.YtnikgmdpnlfbiaaRows
import Derived.Carry
namespace Go.Proofs.Ytnikgmdpnlfbiaa
open Go.AM

theorem own : ownKnob Try.prog.godebug = none := by kernel_rfl
theorem laidOut : laidOutB Try.prog = true := by kernel_rfl

theorem ints_of : ∀ {ys : List V}, (∀ y ∈ ys, ∃ m, y = .int .i64 m) → ∃ l, ys = ints l
  | [], _ => ⟨[], rfl⟩
  | y :: ys, h => by
    obtain ⟨m, rfl⟩ := h y (by simp)
    obtain ⟨l, hl⟩ := ints_of (ys := ys) fun z hz => h z (by simp [hz])
    exact ⟨m :: l, by rw [hl]; rfl⟩

theorem tallies_law (xs : List V) (h : argsT Try.prog 6 Try.f3.params.toList xs) : FnD Try.prog 3 xs (.bool true) := by
  simp [Try.params3, argsT, one, sh, parts, isRowT, go_sem, Try.underlying23, Try.underlying3, Try.underlying24] at h
  obtain ⟨_, _, rfl, ⟨_, rfl, _, _, rfl, ⟨a, rfl⟩, _, _, rfl, ⟨b, rfl⟩, c, rfl⟩, _, _, rfl, ⟨ys, rfl, _, hy⟩, _, rfl, n, rfl⟩ := h
  obtain ⟨l, rfl⟩ := ints_of hy
  exact law_spec (a, b, c) l n

set_option maxRecDepth 100000 in
theorem tallies_lifted (os : Os) (started : os.Started) (H : Type) (enc : TypeId × Value → H) :
    ReturnsInHanded {} Try.checked os 3 .any (Rows.cycleTalliesSpec.pre6 enc Try.prog Try.f3 Rows.cycleTalliesRow.domain false) (Rows.cycleTalliesSpec.post enc Try.prog Try.f3 false true false false) := by
  refine returnsInHanded_of_change_sized (C := Try.checked) own started (by kernel_rfl) Try.func3
    (ChangeSpec.witness6 (enc := enc) (C := Try.checked) false ⟨#[], #[.agg #[.int .i64 0, .int .i64 0, .int .i64 0], .slice none 0 0, .int .i64 0], []⟩ 8 (by kernel_rfl) (by kernel_rfl) (by kernel_rfl) (by kernel_rfl)) ?_
  intro W base args ds gs before hval hW _ hwt _
  exact close_law 6 laidOut rfl (by kernel_rfl) rfl Try.underlying4
    (fun H ds h => match ds, h with | [d1, d2, d3], _ => rfl) tallies_law W base args ds gs before hval hW hwt

theorem proved : Rows.CycleTalliesSaid :=
  OpenClaim.holds_of_wide 3 Try.f3 rfl rfl rfl rfl rfl rfl rfl ⟨rfl, rfl, rfl, rfl, rfl⟩ rfl rfl rfl rfl rfl (by kernel_rfl) Try.func3 (by kernel_rfl)
    (of_decide_eq_true (by kernel_rfl)) (by unfold Func.isWrapper; first | (rw [if_pos (by decide +kernel)]; kernel_rfl) | (rw [if_neg (by decide +kernel)]; exact ⟨rfl, rfl⟩))
    (fun os started H enc _ => tallies_lifted os started H enc)
#print axioms proved
end Go.Proofs.Ytnikgmdpnlfbiaa
