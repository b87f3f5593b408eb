/- What closes the laws on the pulse. -/
import Derived.Test.YtnikgmdpnlfbiaaPulse3
import Derived.Test.YtnikgmdpnlfbiaaAmClose
import Derived.Test.YtnikgmdpnlfbiaaRows
import Derived.Carry
namespace Go.Proofs.Ytnikgmdpnlfbiaa
open Go.AM

theorem own : ownKnob Try.prog.godebug = none := by kernel_rfl
theorem laidOut : laidOutB Try.prog = true := by kernel_rfl

theorem bools_of : ∀ {ys : List V}, (∀ y ∈ ys, y = .bool false ∨ y = .bool true) → ∃ l, ys = bools l
  | [], _ => ⟨[], rfl⟩
  | y :: ys, h => by
    obtain ⟨m, rfl⟩ : ∃ m, y = .bool m := by rcases h y (by simp) with h | h <;> exact ⟨_, h⟩
    obtain ⟨l, hl⟩ := bools_of (ys := ys) fun z hz => h z (by simp [hz])
    exact ⟨m :: l, by rw [hl]; rfl⟩
theorem bool_of {y : V} (h : y = .bool false ∨ y = .bool true) : ∃ b, y = .bool b := by rcases h with h | h <;> exact ⟨_, h⟩
theorem pul_of {cs : List V} (h : ∃ ys zs, cs = ys ++ zs ∧ (ys = [V.bool false] ∨ ys = [V.bool true]) ∧ ∃ ys zs_1, zs = ys ++ zs_1 ∧ (ys = [V.bool false] ∨ ys = [V.bool true]) ∧ ∃ m, zs_1 = [V.int IntKind.i64 m]) : ∃ p : Pul, V.agg cs = pulV p := by
  obtain ⟨ys, zs, rfl, h1, ys2, zs2, rfl, h2, m, rfl⟩ := h
  rcases h1 with rfl | rfl <;> rcases h2 with rfl | rfl <;> exact ⟨(_, _, m), rfl⟩
end Go.Proofs.Ytnikgmdpnlfbiaa
