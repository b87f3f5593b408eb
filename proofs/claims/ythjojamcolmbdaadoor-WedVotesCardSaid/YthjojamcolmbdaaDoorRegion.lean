/- The chapter's region, and what lives. -/
import Derived.Test.YthjojamcolmbdaaDoorCyc
import Derived.Test.YthjojamcolmbdaaDoorGreat
set_option linter.unusedSimpArgs false
set_option linter.unusedVariables false
namespace Go.Proofs.YthjojamcolmbdaaDoor
open Go.AM Go.RowKit
set_option maxRecDepth 100000

def siteN (id : Int) : Sit := ⟨id, [⟨1, 2, 1⟩, ⟨1, 2, 1⟩], [2, 1], [[0, 2], [2, 0]], [⟨1, 2, 5, 1, false⟩, ⟨2, 2, 5, 1, false⟩], [], 3, 2, 4, 8, 20, []⟩
def regionN : NetN := ⟨[siteN 0, siteN 1], [⟨[0], 0⟩, ⟨[1], 1⟩], [⟨0, 1, 3, [0, 4]⟩], 8, 20, 4⟩

theorem site25_spec (id : Int) : FnD Tryd.prog 109 [.int .i64 id] (sitV (siteN id)) := by
  refine fnD_of mixed Tryd.func109 rfl rfl (by simp [Tryd.ntmps109]) fun hwf E => ?_
  simp (disch := omega) [go_sem] at hwf
  simp (disch := omega) [Tryd.ntmps109, go_sem, sitV, siteN, grpV, phaV, sets, rows, ints]
theorem region25_spec : FnD Tryd.prog 50 [] (netV regionN) := by
  have h0 := site25_spec 0
  have h1 := site25_spec 1
  refine fnD_of mixed Tryd.func50 rfl rfl (by simp [Tryd.ntmps50]) fun hwf E => ?_
  simp (disch := omega) [Tryd.ntmps50, go_sem]
  refine callK_data h0 [] (by simp [go_sem]) (.inl rfl) (sit_pure _) (fun _ => ?_)
  simp (disch := omega) [go_sem]
  refine callK_data h1 [] (by simp [go_sem]) (.inl rfl) (sit_pure _) (fun _ => ?_)
  simp (disch := omega) [go_sem, sitV, siteN, grpV, phaV, sets, rows, ints, netV, regionN, subV, wedV]

theorem siteN_ok0 : SiteOk (siteN 0) := by
  have hS : Shaped (siteN 0) := by
    refine ⟨by simp [siteN], rfl, rfl, by simp [siteN], by simp [siteN], by simp [siteN], fun i hi => ?_⟩
    have hi' : i < 2 := hi
    have hc : i = 0 ∨ i = 1 := by omega
    rcases hc with rfl | rfl <;> exact ⟨rfl, by decide⟩
  have hA : ApartOk (siteN 0) := by
    intro a ha
    have ha' : a < 2 := ha
    have hc : a = 0 ∨ a = 1 := by omega
    refine ⟨fun h => ?_, fun b hb => ?_⟩
    · rcases hc with rfl | rfl <;> exact ⟨.inl rfl, by simp [siteN], by simp [siteN]⟩
    · have hb' : b < 2 := hb
      have hd : b = 0 ∨ b = 1 := by omega
      rcases hc with rfl | rfl <;> rcases hd with rfl | rfl <;> (unfold cellOk; decide)
  have hP : PhasedOk (siteN 0) := by
    refine ⟨fun k hk h => ?_, by decide⟩
    have hk' : k < 2 := hk
    have hc : k = 0 ∨ k = 1 := by omega
    have key : ∀ (set : Nat), set = 1 ∨ set = 2 → ∀ a, set.testBit a = true → a = 0 ∧ set = 1 ∨ a = 1 ∧ set = 2 := by
      intro set hset a h
      by_cases h32 : a < 32
      · have : ∀ a, a < 32 → ((1 : Nat).testBit a = true → a = 0) ∧ ((2 : Nat).testBit a = true → a = 1) := by decide
        rcases hset with rfl | rfl
        · exact .inl ⟨(this a h32).1 h, rfl⟩
        · exact .inr ⟨(this a h32).2 h, rfl⟩
      · rw [high_bit (by omega) h32] at h; cases h
    rcases hc with rfl | rfl
    · refine ⟨by simp [siteN], by simp [siteN], ⟨by simp [siteN], by simp [siteN], by simp [siteN]⟩, by simp [siteN], fun a ha => ?_⟩
      rcases key 1 (.inl rfl) a ha with ⟨rfl, _⟩ | ⟨rfl, h⟩
      · exact ⟨by simp [siteN, minGrp], by simp [siteN]⟩
      · cases h
    · refine ⟨by simp [siteN], by simp [siteN], ⟨by simp [siteN], by simp [siteN], by simp [siteN]⟩, by simp [siteN], fun a ha => ?_⟩
      rcases key 2 (.inr rfl) a ha with ⟨rfl, h⟩ | ⟨rfl, h⟩
      · cases h
      · exact ⟨by simp [siteN, minGrp], by simp [siteN]⟩
  intro i hi
  have hc : i = 0 ∨ i = 1 ∨ i = 2 ∨ i = 3 ∨ i = 4 ∨ i = 5 := by omega
  rcases hc with rfl | rfl | rfl | rfl | rfl | rfl
  · exact ⟨by decide, hS⟩
  · exact hA
  · exact hP
  · rfl
  · show timedN (siteN 0) = true
    have : roundK (siteN 0) 2 = 8 := by rfl
    simp [timedN, inN, siteN, roundK] at this ⊢
    omega
  · rfl
theorem siteN_ok1 : SiteOk (siteN 1) := by
  have hS : Shaped (siteN 1) := by
    refine ⟨by simp [siteN], rfl, rfl, by simp [siteN], by simp [siteN], by simp [siteN], fun i hi => ?_⟩
    have hi' : i < 2 := hi
    have hc : i = 0 ∨ i = 1 := by omega
    rcases hc with rfl | rfl <;> exact ⟨rfl, by decide⟩
  have hA : ApartOk (siteN 1) := by
    intro a ha
    have ha' : a < 2 := ha
    have hc : a = 0 ∨ a = 1 := by omega
    refine ⟨fun h => ?_, fun b hb => ?_⟩
    · rcases hc with rfl | rfl <;> exact ⟨.inl rfl, by simp [siteN], by simp [siteN]⟩
    · have hb' : b < 2 := hb
      have hd : b = 0 ∨ b = 1 := by omega
      rcases hc with rfl | rfl <;> rcases hd with rfl | rfl <;> (unfold cellOk; decide)
  have hP : PhasedOk (siteN 1) := by
    refine ⟨fun k hk h => ?_, by decide⟩
    have hk' : k < 2 := hk
    have hc : k = 0 ∨ k = 1 := by omega
    have key : ∀ (set : Nat), set = 1 ∨ set = 2 → ∀ a, set.testBit a = true → a = 0 ∧ set = 1 ∨ a = 1 ∧ set = 2 := by
      intro set hset a h
      by_cases h32 : a < 32
      · have : ∀ a, a < 32 → ((1 : Nat).testBit a = true → a = 0) ∧ ((2 : Nat).testBit a = true → a = 1) := by decide
        rcases hset with rfl | rfl
        · exact .inl ⟨(this a h32).1 h, rfl⟩
        · exact .inr ⟨(this a h32).2 h, rfl⟩
      · rw [high_bit (by omega) h32] at h; cases h
    rcases hc with rfl | rfl
    · refine ⟨by simp [siteN], by simp [siteN], ⟨by simp [siteN], by simp [siteN], by simp [siteN]⟩, by simp [siteN], fun a ha => ?_⟩
      rcases key 1 (.inl rfl) a ha with ⟨rfl, _⟩ | ⟨rfl, h⟩
      · exact ⟨by simp [siteN, minGrp], by simp [siteN]⟩
      · cases h
    · refine ⟨by simp [siteN], by simp [siteN], ⟨by simp [siteN], by simp [siteN], by simp [siteN]⟩, by simp [siteN], fun a ha => ?_⟩
      rcases key 2 (.inr rfl) a ha with ⟨rfl, h⟩ | ⟨rfl, h⟩
      · cases h
      · exact ⟨by simp [siteN, minGrp], by simp [siteN]⟩
  intro i hi
  have hc : i = 0 ∨ i = 1 ∨ i = 2 ∨ i = 3 ∨ i = 4 ∨ i = 5 := by omega
  rcases hc with rfl | rfl | rfl | rfl | rfl | rfl
  · exact ⟨by decide, hS⟩
  · exact hA
  · exact hP
  · rfl
  · show timedN (siteN 1) = true
    have : roundK (siteN 1) 2 = 8 := by rfl
    simp [timedN, inN, siteN, roundK] at this ⊢
    omega
  · rfl
theorem regionN_ok : NetOk regionN := by
  refine ⟨by decide, ⟨by decide, by decide, fun s hs => ?_⟩, ⟨by decide, ⟨by decide, ?_⟩, by decide, by decide⟩, ⟨by decide, by decide, fun w hw => ?_⟩⟩
  · simp only [regionN, List.mem_cons, List.not_mem_nil, or_false] at hs
    rcases hs with rfl | rfl
    · exact ⟨siteN_ok0, by decide, by decide⟩
    · exact ⟨siteN_ok1, by decide, by decide⟩
  · unfold rangeOk; decide
  · simp only [regionN, List.mem_cons, List.not_mem_nil, or_false] at hw
    subst hw
    exact ⟨by decide, by decide, by decide, by decide, by decide, by decide⟩

/-! the votes of the chapter's example -/
theorem next_lives (v : Int × Int × Int) (h : v = (8, 0, 0) ∨ v = (8, 12, 1) ∨ v = (8, 12, 2)) :
    nextC regionN v 65536 = 0 ∧ nextV regionN v 65536 = (if v.2.2 = 2 then (12, 12, 0) else (8, 12, v.2.2 + 1)) := by
  have hK : cycK regionN = 3 := by decide
  have hm : (8 : Int) ∈ cycN regionN (cycK regionN + 1) := by decide
  have hw : wishN regionN 65536 = 20 := by decide
  rcases h with rfl | rfl | rfl
  all_goals
    refine ⟨nextC_ok regionN_ok ⟨by decide, hm⟩ (by decide), ?_⟩
    rw [nextV_ok (nextC_ok regionN_ok ⟨by decide, hm⟩ (by decide)), hw]
    decide
theorem alive25_spec : FnD Tryd.prog 48 [] (.bool true) tabG := by
  have hr := region25_spec
  have hn := fun v => next_spec regionN v 65536
  refine fnD_of mixed Tryd.func48 rfl rfl (by simp [Tryd.ntmps48]) fun hwf E => ?_
  simp (disch := omega) [Tryd.ntmps48, go_sem]
  refine awz_loop mixed (fun k : Nat => ⟨[(2, .int .i64 k), (1, .ptr 32 1 0 0), (0, .bool false)], [(32, ⟨.box, 87, 3, [voteV (if k = 3 then (12, 12, 0) else if k = 0 then (8, 0, 0) else (8, 12, (k : Int)))]⟩)], 1024, [], 22, 0, tabG⟩)
    (fun k => k ≤ 3) (fun k => 3 - k) 0 (by omega) ?_ ?_
  · refine Le.mk [(32, some 32)] [32] ⟨rfl, rfl, rfl⟩ ?_ ?_ ?_ <;> simp [go_sem, voteV]
  · intro k hk
    have hc : k = 0 ∨ k = 1 ∨ k = 2 ∨ k = 3 := by omega
    rcases hc with rfl | rfl | rfl | rfl
    · obtain ⟨e1, e2⟩ := next_lives (8, 0, 0) (by simp)
      simp (disch := omega) [go_sem, voteV]
      refine callK_data hr [] (by simp [go_sem]) (.inl rfl) (net_pure _) (fun _ => ?_)
      simp (disch := omega) [go_sem]
      refine callK_data (hn (8, 0, 0)) [] (by simp [go_sem, net_pure, voteV]) (.inl rfl) (by simp [go_sem, voteV]) (fun _ => ?_) (by simp [tabG, go_sem])
      rw [e1, e2]
      simp (disch := omega) [go_sem, voteV]
      refine ⟨by kernel_rfl, ?_⟩
      refine round_of 1 (by omega) (by omega) (Le.mk [(32, some 32)] [32] ⟨rfl, rfl, rfl⟩ ?_ ?_ ?_) <;> simp [go_sem, voteV]
    · obtain ⟨e1, e2⟩ := next_lives (8, 12, 1) (by simp)
      simp (disch := omega) [go_sem, voteV]
      refine callK_data hr [] (by simp [go_sem]) (.inl rfl) (net_pure _) (fun _ => ?_)
      simp (disch := omega) [go_sem]
      refine callK_data (hn (8, 12, 1)) [] (by simp [go_sem, net_pure, voteV]) (.inl rfl) (by simp [go_sem, voteV]) (fun _ => ?_) (by simp [tabG, go_sem])
      rw [e1, e2]
      simp (disch := omega) [go_sem, voteV]
      refine ⟨by kernel_rfl, ?_⟩
      refine round_of 2 (by omega) (by omega) (Le.mk [(32, some 32)] [32] ⟨rfl, rfl, rfl⟩ ?_ ?_ ?_) <;> simp [go_sem, voteV]
    · obtain ⟨e1, e2⟩ := next_lives (8, 12, 2) (by simp)
      simp (disch := omega) [go_sem, voteV]
      refine callK_data hr [] (by simp [go_sem]) (.inl rfl) (net_pure _) (fun _ => ?_)
      simp (disch := omega) [go_sem]
      refine callK_data (hn (8, 12, 2)) [] (by simp [go_sem, net_pure, voteV]) (.inl rfl) (by simp [go_sem, voteV]) (fun _ => ?_) (by simp [tabG, go_sem])
      rw [e1, e2]
      simp (disch := omega) [go_sem, voteV]
      refine ⟨by kernel_rfl, ?_⟩
      refine round_of 3 (by omega) (by omega) (Le.mk [(32, some 32)] [32] ⟨rfl, rfl, rfl⟩ ?_ ?_ ?_) <;> simp [go_sem, voteV]
    · simp (disch := omega) [go_sem, voteV]
end Go.Proofs.YthjojamcolmbdaaDoor
