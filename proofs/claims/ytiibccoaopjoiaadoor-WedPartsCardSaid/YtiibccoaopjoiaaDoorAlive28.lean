/- The example of the chapter on weds. -/
import Derived.Test.YtiibccoaopjoiaaDoorWed
set_option linter.unusedSimpArgs false
set_option linter.unusedVariables false
namespace Go.Proofs.YtiibccoaopjoiaaDoor
open Go.AM Go.RowKit
set_option maxRecDepth 100000

theorem site28_spec (id : Int) : FnD Tryd.prog 127 [.int .i64 id] (sitV (siteN id)) := by
  refine fnD_of mixed Tryd.func127 rfl rfl (by simp [Tryd.ntmps127]) fun hwf E => ?_
  simp (disch := omega) [go_sem] at hwf
  simp (disch := omega) [Tryd.ntmps127, go_sem, sitV, siteN, grpV, phaV, sets, rows, ints]
theorem region28_spec : FnD Tryd.prog 59 [] (netV regionN) := by
  have h0 := site28_spec 0
  have h1 := site28_spec 1
  refine fnD_of mixed Tryd.func59 rfl rfl (by simp [Tryd.ntmps59]) fun hwf E => ?_
  simp (disch := omega) [Tryd.ntmps59, go_sem]
  refine callK_data h0 [] (by simp [go_sem]) (.inl rfl) (sit_pure _) (fun _ => ?_)
  simp (disch := omega) [go_sem]
  refine callK_data h1 [] (by simp [go_sem]) (.inl rfl) (sit_pure _) (fun _ => ?_)
  simp (disch := omega) [go_sem, sitV, siteN, grpV, phaV, sets, rows, ints, netV, regionN, subV, wedV]


theorem bond_lives (b : Bool × Int) (h : b = (false, 0) ∨ b = (false, 1) ∨ b = (false, 2)) :
    bondC regionN 0 b 8 12 = 0 ∧ bondN regionN 0 b 8 12 = (if b.2 = 2 then (true, 0) else (false, b.2 + 1)) := by
  have h8 : (8 : Int) ∈ cycN regionN (cycK regionN + 1) := by decide
  have h12 : (12 : Int) ∈ cycN regionN (cycK regionN + 1) := by decide
  rcases h with rfl | rfl | rfl
  all_goals
    refine ⟨bondC_ok regionN_ok ⟨by decide, by decide, h8, h12⟩, ?_⟩
    rw [bondN_ok (bondC_ok regionN_ok ⟨by decide, by decide, h8, h12⟩)]
    decide
theorem alive28_spec : FnD Tryd.prog 61 [] (.bool true) tabG := by
  have hr := region28_spec
  have hn := fun b => bond_spec regionN 0 b 8 12
  refine fnD_of mixed Tryd.func61 rfl rfl (by simp [Tryd.ntmps61]) fun hwf E => ?_
  simp (disch := omega) [Tryd.ntmps61, go_sem]
  refine awz_loop mixed (fun k : Nat => ⟨[(2, .int .i64 k), (1, .ptr 32 1 0 0), (0, .bool false)], [(32, ⟨.box, 110, 2, [bondV (if k = 3 then (true, 0) else (false, (k : Int)))]⟩)], 1024, [], 33, 0, tabG⟩)
    (fun k => k ≤ 3) (fun k => 3 - k) 0 (by omega) ?_ ?_
  · refine Le.mk [(32, some 32)] [32] ⟨rfl, rfl, rfl⟩ ?_ ?_ ?_ <;> simp [go_sem, bondV]
  · intro k hk
    have hc : k = 0 ∨ k = 1 ∨ k = 2 ∨ k = 3 := by omega
    rcases hc with rfl | rfl | rfl | rfl
    · obtain ⟨e1, e2⟩ := bond_lives (false, 0) (by simp)
      simp (disch := omega) [go_sem, bondV]
      refine callK_data hr [] (by simp [go_sem]) (.inl rfl) (net_pure _) (fun _ => ?_)
      simp (disch := omega) [go_sem]
      refine callK_data (hn (false, 0)) [] (by simp [go_sem, net_pure, bondV]) (.inl rfl) (by simp [go_sem, bondV]) (fun _ => ?_) (by simp [tabG, go_sem])
      rw [e1, e2]
      simp (disch := omega) [go_sem, bondV]
      refine ⟨.inl (by kernel_rfl), ?_⟩
      refine round_of 1 (by omega) (by omega) (Le.mk [(32, some 32)] [32] ⟨rfl, rfl, rfl⟩ ?_ ?_ ?_) <;> simp [go_sem, bondV]
    · obtain ⟨e1, e2⟩ := bond_lives (false, 1) (by simp)
      simp (disch := omega) [go_sem, bondV]
      refine callK_data hr [] (by simp [go_sem]) (.inl rfl) (net_pure _) (fun _ => ?_)
      simp (disch := omega) [go_sem]
      refine callK_data (hn (false, 1)) [] (by simp [go_sem, net_pure, bondV]) (.inl rfl) (by simp [go_sem, bondV]) (fun _ => ?_) (by simp [tabG, go_sem])
      rw [e1, e2]
      simp (disch := omega) [go_sem, bondV]
      refine ⟨.inl (by kernel_rfl), ?_⟩
      refine round_of 2 (by omega) (by omega) (Le.mk [(32, some 32)] [32] ⟨rfl, rfl, rfl⟩ ?_ ?_ ?_) <;> simp [go_sem, bondV]
    · obtain ⟨e1, e2⟩ := bond_lives (false, 2) (by simp)
      simp (disch := omega) [go_sem, bondV]
      refine callK_data hr [] (by simp [go_sem]) (.inl rfl) (net_pure _) (fun _ => ?_)
      simp (disch := omega) [go_sem]
      refine callK_data (hn (false, 2)) [] (by simp [go_sem, net_pure, bondV]) (.inl rfl) (by simp [go_sem, bondV]) (fun _ => ?_) (by simp [tabG, go_sem])
      rw [e1, e2]
      simp (disch := omega) [go_sem, bondV]
      refine ⟨.inl (by kernel_rfl), ?_⟩
      refine round_of 3 (by omega) (by omega) (Le.mk [(32, some 32)] [32] ⟨rfl, rfl, rfl⟩ ?_ ?_ ?_) <;> simp [go_sem, bondV]
    · simp (disch := omega) [go_sem, bondV]
end Go.Proofs.YtiibccoaopjoiaaDoor
