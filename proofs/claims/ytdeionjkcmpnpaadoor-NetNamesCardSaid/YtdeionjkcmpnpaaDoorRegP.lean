/- The chapter's region. -/
import Derived.Test.YtdeionjkcmpnpaaDoorNetA
set_option linter.unusedSimpArgs false
set_option linter.unusedVariables false
namespace Go.Proofs.YtdeionjkcmpnpaaDoor
open Go.AM Go.RowKit
set_option maxRecDepth 100000

def siteN (id : Int) : Sit := ⟨id, [⟨1, 2, 1⟩, ⟨1, 2, 1⟩], [2, 1], [[0, 2], [2, 0]], [⟨1, 2, 5, 1, false⟩, ⟨2, 2, 5, 1, false⟩], [], 3, 2, 4, 8, 20, []⟩
def regionN : NetN := ⟨[siteN 0, siteN 1], [⟨[0], 0⟩, ⟨[1], 1⟩], [⟨0, 1, 3, [0, 4]⟩], 8, 20, 4⟩


theorem siteN_ok0 : SiteOk (siteN 0) := by
  have hS : Shaped (siteN 0) := by
    refine ⟨by simp [siteN], rfl, rfl, by simp [siteN], by simp [siteN], by simp [siteN], fun i hi => ?_⟩
    have hi' : i < 2 := hi
    have hc : i = 0 ∨ i = 1 := by omega
    rcases hc with rfl | rfl <;> exact ⟨rfl, by decide⟩
  have hA : ApartOk (siteN 0) := by
    intro a ha
    have ha' : a < 2 := ha
    have hc : a = 0 ∨ a = 1 := by omega
    refine ⟨fun h => ?_, fun b hb => ?_⟩
    · rcases hc with rfl | rfl <;> exact ⟨.inl rfl, by simp [siteN], by simp [siteN]⟩
    · have hb' : b < 2 := hb
      have hd : b = 0 ∨ b = 1 := by omega
      rcases hc with rfl | rfl <;> rcases hd with rfl | rfl <;> (unfold cellOk; decide)
  have hP : PhasedOk (siteN 0) := by
    refine ⟨fun k hk h => ?_, by decide⟩
    have hk' : k < 2 := hk
    have hc : k = 0 ∨ k = 1 := by omega
    have key : ∀ (set : Nat), set = 1 ∨ set = 2 → ∀ a, set.testBit a = true → a = 0 ∧ set = 1 ∨ a = 1 ∧ set = 2 := by
      intro set hset a h
      by_cases h32 : a < 32
      · have : ∀ a, a < 32 → ((1 : Nat).testBit a = true → a = 0) ∧ ((2 : Nat).testBit a = true → a = 1) := by decide
        rcases hset with rfl | rfl
        · exact .inl ⟨(this a h32).1 h, rfl⟩
        · exact .inr ⟨(this a h32).2 h, rfl⟩
      · rw [high_bit (by omega) h32] at h; cases h
    rcases hc with rfl | rfl
    · refine ⟨by simp [siteN], by simp [siteN], ⟨by simp [siteN], by simp [siteN], by simp [siteN]⟩, by simp [siteN], fun a ha => ?_⟩
      rcases key 1 (.inl rfl) a ha with ⟨rfl, _⟩ | ⟨rfl, h⟩
      · exact ⟨by simp [siteN, minGrp], by simp [siteN]⟩
      · cases h
    · refine ⟨by simp [siteN], by simp [siteN], ⟨by simp [siteN], by simp [siteN], by simp [siteN]⟩, by simp [siteN], fun a ha => ?_⟩
      rcases key 2 (.inr rfl) a ha with ⟨rfl, h⟩ | ⟨rfl, h⟩
      · cases h
      · exact ⟨by simp [siteN, minGrp], by simp [siteN]⟩
  intro i hi
  have hc : i = 0 ∨ i = 1 ∨ i = 2 ∨ i = 3 ∨ i = 4 ∨ i = 5 := by omega
  rcases hc with rfl | rfl | rfl | rfl | rfl | rfl
  · exact ⟨by decide, hS⟩
  · exact hA
  · exact hP
  · rfl
  · show timedN (siteN 0) = true
    have : roundK (siteN 0) 2 = 8 := by rfl
    simp [timedN, inN, siteN, roundK] at this ⊢
    omega
  · rfl
theorem siteN_ok1 : SiteOk (siteN 1) := by
  have hS : Shaped (siteN 1) := by
    refine ⟨by simp [siteN], rfl, rfl, by simp [siteN], by simp [siteN], by simp [siteN], fun i hi => ?_⟩
    have hi' : i < 2 := hi
    have hc : i = 0 ∨ i = 1 := by omega
    rcases hc with rfl | rfl <;> exact ⟨rfl, by decide⟩
  have hA : ApartOk (siteN 1) := by
    intro a ha
    have ha' : a < 2 := ha
    have hc : a = 0 ∨ a = 1 := by omega
    refine ⟨fun h => ?_, fun b hb => ?_⟩
    · rcases hc with rfl | rfl <;> exact ⟨.inl rfl, by simp [siteN], by simp [siteN]⟩
    · have hb' : b < 2 := hb
      have hd : b = 0 ∨ b = 1 := by omega
      rcases hc with rfl | rfl <;> rcases hd with rfl | rfl <;> (unfold cellOk; decide)
  have hP : PhasedOk (siteN 1) := by
    refine ⟨fun k hk h => ?_, by decide⟩
    have hk' : k < 2 := hk
    have hc : k = 0 ∨ k = 1 := by omega
    have key : ∀ (set : Nat), set = 1 ∨ set = 2 → ∀ a, set.testBit a = true → a = 0 ∧ set = 1 ∨ a = 1 ∧ set = 2 := by
      intro set hset a h
      by_cases h32 : a < 32
      · have : ∀ a, a < 32 → ((1 : Nat).testBit a = true → a = 0) ∧ ((2 : Nat).testBit a = true → a = 1) := by decide
        rcases hset with rfl | rfl
        · exact .inl ⟨(this a h32).1 h, rfl⟩
        · exact .inr ⟨(this a h32).2 h, rfl⟩
      · rw [high_bit (by omega) h32] at h; cases h
    rcases hc with rfl | rfl
    · refine ⟨by simp [siteN], by simp [siteN], ⟨by simp [siteN], by simp [siteN], by simp [siteN]⟩, by simp [siteN], fun a ha => ?_⟩
      rcases key 1 (.inl rfl) a ha with ⟨rfl, _⟩ | ⟨rfl, h⟩
      · exact ⟨by simp [siteN, minGrp], by simp [siteN]⟩
      · cases h
    · refine ⟨by simp [siteN], by simp [siteN], ⟨by simp [siteN], by simp [siteN], by simp [siteN]⟩, by simp [siteN], fun a ha => ?_⟩
      rcases key 2 (.inr rfl) a ha with ⟨rfl, h⟩ | ⟨rfl, h⟩
      · cases h
      · exact ⟨by simp [siteN, minGrp], by simp [siteN]⟩
  intro i hi
  have hc : i = 0 ∨ i = 1 ∨ i = 2 ∨ i = 3 ∨ i = 4 ∨ i = 5 := by omega
  rcases hc with rfl | rfl | rfl | rfl | rfl | rfl
  · exact ⟨by decide, hS⟩
  · exact hA
  · exact hP
  · rfl
  · show timedN (siteN 1) = true
    have : roundK (siteN 1) 2 = 8 := by rfl
    simp [timedN, inN, siteN, roundK] at this ⊢
    omega
  · rfl
theorem regionN_ok : NetOk regionN := by
  refine ⟨by decide, ⟨by decide, by decide, fun s hs => ?_⟩, ⟨by decide, ⟨by decide, ?_⟩, by decide, by decide⟩, ⟨by decide, by decide, fun w hw => ?_⟩⟩
  · simp only [regionN, List.mem_cons, List.not_mem_nil, or_false] at hs
    rcases hs with rfl | rfl
    · exact ⟨siteN_ok0, by decide, by decide⟩
    · exact ⟨siteN_ok1, by decide, by decide⟩
  · unfold rangeOk; decide
  · simp only [regionN, List.mem_cons, List.not_mem_nil, or_false] at hw
    subst hw
    exact ⟨by decide, by decide, by decide, by decide, by decide, by decide⟩

end Go.Proofs.YtdeionjkcmpnpaaDoor
