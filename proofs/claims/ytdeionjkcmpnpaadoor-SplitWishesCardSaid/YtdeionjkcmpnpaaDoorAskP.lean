/- What a site answers when asked: plain lemmas on askN. -/
import Derived.Test.YtdeionjkcmpnpaaDoorTwin2
set_option linter.unusedSimpArgs false
set_option linter.unusedVariables false
namespace Go.Proofs.YtdeionjkcmpnpaaDoor
open Go.AM Go.RowKit
set_option maxRecDepth 100000

theorem askN_bad {s : Sit} {b : Int} {l : List Int} (h : ¬ SiteOk s) : askN s b l = 50 := by unfold askN; rw [if_neg h]
theorem askN_ok {s : Sit} {b x y : Int} (h : SiteOk s) (h2 : (0 ≤ x ∧ x < b) ∧ 0 ≤ y ∧ y < b) : askN s b [x, y] = 0 := by
  unfold askN; rw [if_pos h, if_pos]
  simp [inN]; omega
theorem askN_arg {s : Sit} {b x y : Int} (h : SiteOk s) (h2 : ¬ ((0 ≤ x ∧ x < b) ∧ 0 ≤ y ∧ y < b)) : askN s b [x, y] = 2 := by
  unfold askN; rw [if_pos h, if_neg]
  simp [inN]; omega
end Go.Proofs.YtdeionjkcmpnpaaDoor
