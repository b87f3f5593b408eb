/- What closes the laws on the pulse. -/
import Derived.Test.YtnikgmdpnlfbiaaPulse3
import Derived.Test.YtnikgmdpnlfbiaaAmClose
import Derived.Test.YtnikgmdpnlfbiaaRows
import Derived.Carry
namespace Go.Proofs.Ytnikgmdpnlfbiaa
open Go.AM

theorem own : ownKnob Try.prog.godebug = none := by kernel_rfl
theorem laidOut : laidOutB Try.prog = true := by kernel_rfl

theorem bools_of : ∀ {ys : List V}, (∀ y ∈ ys, y = .bool false ∨ y = .bool true) → ∃ l, ys = bools l
  | [], _ => ⟨[], rfl⟩
  | y :: ys, h => by
    obtain ⟨m, rfl⟩ : ∃ m, y = .bool m := by rcases h y (by simp) with h | h <;> exact ⟨_, h⟩
    obtain ⟨l, hl⟩ := bools_of (ys := ys) fun z hz => h z (by simp [hz])
    exact ⟨m :: l, by rw [hl]; rfl⟩
end Go.Proofs.Ytnikgmdpnlfbiaa
