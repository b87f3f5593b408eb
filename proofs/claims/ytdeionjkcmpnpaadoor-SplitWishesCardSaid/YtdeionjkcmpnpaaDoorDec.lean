/- A site may be: a test that computes. -/
import Derived.Test.YtdeionjkcmpnpaaDoorSiteB
set_option linter.unusedSimpArgs false
set_option linter.unusedVariables false
namespace Go.Proofs.YtdeionjkcmpnpaaDoor
open Go.AM Go.RowKit
set_option maxRecDepth 100000

instance (g : Grp) : Decidable (grpOk g) := by unfold grpOk; infer_instance
instance (s : Sit) (a b : Nat) : Decidable (cellOk s a b) := by unfold cellOk; infer_instance
instance (s : Sit) (p : Pha) (a : Nat) : Decidable (grpIn s p a) := by unfold grpIn; infer_instance
def apartB (s : Sit) : Bool := s.groups.all (fun g => decide (grpOk g)) && (List.range s.groups.length).all fun a => (List.range s.groups.length).all fun b => decide (cellOk s a b)
def phaB (s : Sit) (p : Pha) : Bool := decide (p.set ≠ 0 ∧ p.set < 2 ^ s.groups.length ∧ ((1 ≤ p.min ∧ p.min ≤ 1048576) ∧ (1 ≤ p.max ∧ p.max ≤ 1048576) ∧ (1 ≤ p.gap ∧ p.gap ≤ 1048576)) ∧ p.min ≤ p.max) && (List.range s.groups.length).all fun a => !p.set.testBit a || decide (grpIn s p a)
def phasedB (s : Sit) : Bool := s.phases.all (phaB s) && decide (popN (allK s s.phases.length) = s.groups.length)
def siteB (s : Sit) : Bool := decide ((0 ≤ s.id ∧ s.id ≤ 65535) ∧ Shaped s) && (apartB s && (phasedB s && (s.eyes.all (eyeOk s.phases.length) && (timedN s && s.plans.all fun p => decide (Fits s p)))))

theorem apartB_iff (s : Sit) : apartB s = true ↔ ApartOk s := by
  unfold apartB ApartOk lineOk
  simp only [Bool.and_eq_true, List.all_eq_true, decide_eq_true_eq, List.mem_range]
  constructor
  · rintro ⟨h1, h2⟩ a ha
    exact ⟨fun h => h1 _ (List.getElem_mem h), fun b hb => h2 a ha b hb⟩
  · intro h
    refine ⟨fun g hg => ?_, fun a ha b hb => (h a ha).2 b hb⟩
    obtain ⟨i, hi, rfl⟩ := List.getElem_of_mem hg
    exact (h i hi).1 hi
theorem phaB_iff (s : Sit) (p : Pha) : phaB s p = true ↔ phaOk s p := by
  unfold phaB phaOk
  simp only [Bool.and_eq_true, List.all_eq_true, decide_eq_true_eq, List.mem_range, Bool.or_eq_true, Bool.not_eq_true']
  constructor
  · rintro ⟨⟨h1, h2, h3, h4⟩, h5⟩
    refine ⟨h1, h2, h3, h4, fun a ha => ?_⟩
    have hlt : a < s.groups.length := by
      apply Classical.byContradiction
      intro hn
      have := Nat.testBit_lt_two_pow (Nat.lt_of_lt_of_le h2 (Nat.pow_le_pow_right (by omega) (by omega : s.groups.length ≤ a)))
      rw [this] at ha; cases ha
    rcases h5 a hlt with h | h
    · rw [h] at ha; cases ha
    · exact h
  · rintro ⟨h1, h2, h3, h4, h5⟩
    refine ⟨⟨h1, h2, h3, h4⟩, fun a _ => ?_⟩
    cases h : p.set.testBit a with
    | false => exact .inl rfl
    | true => exact .inr (h5 a h)
theorem phasedB_iff (s : Sit) : phasedB s = true ↔ PhasedOk s := by
  unfold phasedB PhasedOk phaAt
  simp only [Bool.and_eq_true, List.all_eq_true, decide_eq_true_eq, phaB_iff]
  refine and_congr ?_ Iff.rfl
  constructor
  · intro h k hk hk2
    exact h _ (List.getElem_mem hk2)
  · intro h p hp
    obtain ⟨i, hi, rfl⟩ := List.getElem_of_mem hp
    exact h i hi hi
theorem siteB_iff (s : Sit) : siteB s = true ↔ SiteOk s := by
  unfold siteB
  simp only [Bool.and_eq_true, apartB_iff, phasedB_iff]
  constructor
  · rintro ⟨h0, h1, h2, h3, h4, h5⟩ i hi
    have hc : i = 0 ∨ i = 1 ∨ i = 2 ∨ i = 3 ∨ i = 4 ∨ i = 5 := by omega
    rcases hc with rfl | rfl | rfl | rfl | rfl | rfl
    · show (0 ≤ s.id ∧ s.id ≤ 65535) ∧ Shaped s
      exact of_decide_eq_true h0
    · exact h1
    · exact h2
    · exact h3
    · exact h4
    · exact h5
  · intro h
    exact ⟨decide_eq_true (show (0 ≤ s.id ∧ s.id ≤ 65535) ∧ Shaped s from h 0 (by omega)), h 1 (by omega), h 2 (by omega), h 3 (by omega), h 4 (by omega), h 5 (by omega)⟩
end Go.Proofs.YtdeionjkcmpnpaaDoor
