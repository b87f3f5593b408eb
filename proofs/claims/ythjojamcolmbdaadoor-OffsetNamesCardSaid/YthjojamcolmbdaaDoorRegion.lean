/- The chapter's region, and what lives. -/
import Derived.Test.YthjojamcolmbdaaDoorCyc
import Derived.Test.YthjojamcolmbdaaDoorGreat
import Derived.Test.YthjojamcolmbdaaDoorRegP
set_option linter.unusedSimpArgs false
set_option linter.unusedVariables false
namespace Go.Proofs.YthjojamcolmbdaaDoor
open Go.AM Go.RowKit
set_option maxRecDepth 100000

theorem site25_spec (id : Int) : FnD Tryd.prog 109 [.int .i64 id] (sitV (siteN id)) := by
  refine fnD_of mixed Tryd.func109 rfl rfl (by simp [Tryd.ntmps109]) fun hwf E => ?_
  simp (disch := omega) [go_sem] at hwf
  simp (disch := omega) [Tryd.ntmps109, go_sem, sitV, siteN, grpV, phaV, sets, rows, ints]
theorem region25_spec : FnD Tryd.prog 50 [] (netV regionN) := by
  have h0 := site25_spec 0
  have h1 := site25_spec 1
  refine fnD_of mixed Tryd.func50 rfl rfl (by simp [Tryd.ntmps50]) fun hwf E => ?_
  simp (disch := omega) [Tryd.ntmps50, go_sem]
  refine callK_data h0 [] (by simp [go_sem]) (.inl rfl) (sit_pure _) (fun _ => ?_)
  simp (disch := omega) [go_sem]
  refine callK_data h1 [] (by simp [go_sem]) (.inl rfl) (sit_pure _) (fun _ => ?_)
  simp (disch := omega) [go_sem, sitV, siteN, grpV, phaV, sets, rows, ints, netV, regionN, subV, wedV]

/-! the votes of the chapter's example -/
theorem next_lives (v : Int × Int × Int) (h : v = (8, 0, 0) ∨ v = (8, 12, 1) ∨ v = (8, 12, 2)) :
    nextC regionN v 65536 = 0 ∧ nextV regionN v 65536 = (if v.2.2 = 2 then (12, 12, 0) else (8, 12, v.2.2 + 1)) := by
  have hK : cycK regionN = 3 := by decide
  have hm : (8 : Int) ∈ cycN regionN (cycK regionN + 1) := by decide
  have hw : wishN regionN 65536 = 20 := by decide
  rcases h with rfl | rfl | rfl
  all_goals
    refine ⟨nextC_ok regionN_ok ⟨by decide, hm⟩ (by decide), ?_⟩
    rw [nextV_ok (nextC_ok regionN_ok ⟨by decide, hm⟩ (by decide)), hw]
    decide
theorem alive25_spec : FnD Tryd.prog 48 [] (.bool true) tabG := by
  have hr := region25_spec
  have hn := fun v => next_spec regionN v 65536
  refine fnD_of mixed Tryd.func48 rfl rfl (by simp [Tryd.ntmps48]) fun hwf E => ?_
  simp (disch := omega) [Tryd.ntmps48, go_sem]
  refine awz_loop mixed (fun k : Nat => ⟨[(2, .int .i64 k), (1, .ptr 32 1 0 0), (0, .bool false)], [(32, ⟨.box, 87, 3, [voteV (if k = 3 then (12, 12, 0) else if k = 0 then (8, 0, 0) else (8, 12, (k : Int)))]⟩)], 1024, [], 22, 0, tabG⟩)
    (fun k => k ≤ 3) (fun k => 3 - k) 0 (by omega) ?_ ?_
  · refine Le.mk [(32, some 32)] [32] ⟨rfl, rfl, rfl⟩ ?_ ?_ ?_ <;> simp [go_sem, voteV]
  · intro k hk
    have hc : k = 0 ∨ k = 1 ∨ k = 2 ∨ k = 3 := by omega
    rcases hc with rfl | rfl | rfl | rfl
    · obtain ⟨e1, e2⟩ := next_lives (8, 0, 0) (by simp)
      simp (disch := omega) [go_sem, voteV]
      refine callK_data hr [] (by simp [go_sem]) (.inl rfl) (net_pure _) (fun _ => ?_)
      simp (disch := omega) [go_sem]
      refine callK_data (hn (8, 0, 0)) [] (by simp [go_sem, net_pure, voteV]) (.inl rfl) (by simp [go_sem, voteV]) (fun _ => ?_) (by simp [tabG, go_sem])
      rw [e1, e2]
      simp (disch := omega) [go_sem, voteV]
      refine ⟨by kernel_rfl, ?_⟩
      refine round_of 1 (by omega) (by omega) (Le.mk [(32, some 32)] [32] ⟨rfl, rfl, rfl⟩ ?_ ?_ ?_) <;> simp [go_sem, voteV]
    · obtain ⟨e1, e2⟩ := next_lives (8, 12, 1) (by simp)
      simp (disch := omega) [go_sem, voteV]
      refine callK_data hr [] (by simp [go_sem]) (.inl rfl) (net_pure _) (fun _ => ?_)
      simp (disch := omega) [go_sem]
      refine callK_data (hn (8, 12, 1)) [] (by simp [go_sem, net_pure, voteV]) (.inl rfl) (by simp [go_sem, voteV]) (fun _ => ?_) (by simp [tabG, go_sem])
      rw [e1, e2]
      simp (disch := omega) [go_sem, voteV]
      refine ⟨by kernel_rfl, ?_⟩
      refine round_of 2 (by omega) (by omega) (Le.mk [(32, some 32)] [32] ⟨rfl, rfl, rfl⟩ ?_ ?_ ?_) <;> simp [go_sem, voteV]
    · obtain ⟨e1, e2⟩ := next_lives (8, 12, 2) (by simp)
      simp (disch := omega) [go_sem, voteV]
      refine callK_data hr [] (by simp [go_sem]) (.inl rfl) (net_pure _) (fun _ => ?_)
      simp (disch := omega) [go_sem]
      refine callK_data (hn (8, 12, 2)) [] (by simp [go_sem, net_pure, voteV]) (.inl rfl) (by simp [go_sem, voteV]) (fun _ => ?_) (by simp [tabG, go_sem])
      rw [e1, e2]
      simp (disch := omega) [go_sem, voteV]
      refine ⟨by kernel_rfl, ?_⟩
      refine round_of 3 (by omega) (by omega) (Le.mk [(32, some 32)] [32] ⟨rfl, rfl, rfl⟩ ?_ ?_ ?_) <;> simp [go_sem, voteV]
    · simp (disch := omega) [go_sem, voteV]
end Go.Proofs.YthjojamcolmbdaaDoor
