
/- The layer wed: bonds. -/
import Derived.Test.YtdeionjkcmpnpaaDoorCyc
import Derived.Test.YtdeionjkcmpnpaaDoorGreat
import Derived.Test.YtdeionjkcmpnpaaDoorRegP
set_option linter.unusedSimpArgs false
set_option linter.unusedVariables false
namespace Go.Proofs.YtdeionjkcmpnpaaDoor
open Go.AM Go.RowKit
set_option maxRecDepth 100000

def bondV (b : Bool × Int) : V := .agg [.bool b.1, .int .i64 b.2]
theorem may_spec (b : Bool × Int) : FnD Tryd.prog 132 [bondV b] (.bool (inM b.2)) := by
  obtain ⟨t, m⟩ := b
  unfold bondV
  refine fnD_of mixed Tryd.func132 rfl rfl (by simp [Tryd.ntmps132]) fun hwf E => ?_
  simp (disch := omega) [Tryd.ntmps132, go_sem]
  rfl
def votesAt (n : NetN) (w : Int) : Int := ((n.weds[w.toNat]?).map WedN.votes).getD 0
def bondOk (n : NetN) (w : Int) (b : Bool × Int) (x y : Int) : Prop := (0 ≤ w ∧ w < n.weds.length) ∧ inM b.2 = true ∧ x ∈ cycN n (cycK n + 1) ∧ y ∈ cycN n (cycK n + 1)
noncomputable instance (n : NetN) (w : Int) (b : Bool × Int) (x y : Int) : Decidable (bondOk n w b x y) := Classical.propDecidable _
def bwish (n : NetN) (x y : Int) : Bool := decide (x - y ≤ n.step) && decide (y - x ≤ n.step)
/-- A bond a vote later. -/
def laterB (wish : Bool) (votes : Int) (b : Bool × Int) : Bool × Int := if wish = b.1 then (wish, 0) else if votes ≤ b.2 + 1 then (wish, 0) else (b.1, b.2 + 1)
noncomputable def bondC (n : NetN) (w : Int) (b : Bool × Int) (x y : Int) : Int := if NetOk n then if bondOk n w b x y then 0 else 2 else 60
noncomputable def bondN (n : NetN) (w : Int) (b : Bool × Int) (x y : Int) : Bool × Int := if bondC n w b x y = 0 then laterB (bwish n x y) (votesAt n w) b else (false, 0)
section
variable {n : NetN} {w : Int} {b : Bool × Int} {x y : Int}
theorem bondC_net (h : ¬ NetOk n) : bondC n w b x y = 60 := by unfold bondC; rw [if_neg h]
theorem bondC_arg (h : NetOk n) (h2 : ¬ bondOk n w b x y) : bondC n w b x y = 2 := by unfold bondC; rw [if_pos h, if_neg h2]
theorem bondC_ok (h : NetOk n) (h2 : bondOk n w b x y) : bondC n w b x y = 0 := by unfold bondC; rw [if_pos h, if_pos h2]
theorem bondN_bad (h : bondC n w b x y ≠ 0) : bondN n w b x y = (false, 0) := by unfold bondN; rw [if_neg h]
theorem bondN_ok (h : bondC n w b x y = 0) : bondN n w b x y = laterB (bwish n x y) (votesAt n w) b := by unfold bondN; rw [if_pos h]
end
end Go.Proofs.YtdeionjkcmpnpaaDoor
