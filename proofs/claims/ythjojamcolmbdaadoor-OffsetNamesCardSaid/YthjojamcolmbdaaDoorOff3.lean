/- OffsetNames: the chapter's examples. -/
import Derived.Test.YthjojamcolmbdaaDoorOff2
import Derived.Test.YthjojamcolmbdaaDoorRegP
set_option linter.unusedSimpArgs false
set_option linter.unusedVariables false
namespace Go.Proofs.YthjojamcolmbdaaDoor
open Go.AM Go.RowKit
set_option maxRecDepth 100000

theorem site27_spec (id : Int) : FnD Tryd.prog 122 [.int .i64 id] (sitV (siteN id)) := by
  refine fnD_of mixed Tryd.func122 rfl rfl (by simp [Tryd.ntmps122]) fun hwf E => ?_
  simp (disch := omega) [go_sem] at hwf
  simp (disch := omega) [Tryd.ntmps122, go_sem, sitV, siteN, grpV, phaV, sets, rows, ints]
theorem region27_spec : FnD Tryd.prog 59 [] (netV regionN) := by
  have h0 := site27_spec 0
  have h1 := site27_spec 1
  refine fnD_of mixed Tryd.func59 rfl rfl (by simp [Tryd.ntmps59]) fun hwf E => ?_
  simp (disch := omega) [Tryd.ntmps59, go_sem]
  refine callK_data h0 [] (by simp [go_sem]) (.inl rfl) (sit_pure _) (fun _ => ?_)
  simp (disch := omega) [go_sem]
  refine callK_data h1 [] (by simp [go_sem]) (.inl rfl) (sit_pure _) (fun _ => ?_)
  simp (disch := omega) [go_sem, sitV, siteN, grpV, phaV, sets, rows, ints, netV, regionN, subV, wedV]

theorem owed_r0 : owedE regionN 0 = 0 := by unfold owedE; rw [if_pos regionN_ok, if_pos (by decide)]
theorem owed_r1 : owedE regionN 1 = 2 := by unfold owedE; rw [if_pos regionN_ok, if_neg (by decide)]
theorem oWish_r (l : List Int) (i e : Int) (h1 : owishI regionN 0 l = i) (h2 : loadedN l = e) : FnD Tryd.prog 58 [netV regionN, .int .i64 0, .sl 1 (ints l)] (.tup [.int .i64 i, .int .i64 e]) tabG := by
  have h := oWish_spec regionN 0 l
  unfold oWishI owishE at h
  rw [if_pos owed_r0, if_pos owed_r0, h1, h2] at h
  exact h
theorem voted_r {v : Int × Int × Int} (h1 : 0 ≤ v.1 ∧ v.1 < 2) (h2 : inM v.2.1 = true) (h3 : inM v.2.2 = true) : votedE regionN 0 v = 0 := by
  unfold votedE
  rw [if_pos owed_r0, if_pos ⟨h1, h2, h3⟩]
theorem onext_lives (v : Int × Int × Int) (h : v = (0, 0, 0) ∨ v = (0, 1, 1) ∨ v = (0, 1, 2)) :
    oNextV regionN 0 v [1, 2] = ((if v.2.2 = 2 then (1, 1, 0) else (0, 1, v.2.2 + 1)), 0) := by
  unfold oNextV
  rcases h with rfl | rfl | rfl
  all_goals
    rw [if_pos (voted_r (by decide) (by decide) (by decide)), if_pos (by decide)]
    decide
set_option maxHeartbeats 1000000 in
theorem alive27_spec : FnD Tryd.prog 62 [] (.bool true) tabG := by
  have hr := region27_spec
  have hn := fun v => oNext_spec regionN 0 v [1, 2]
  have hp := net_pure regionN
  have ho : FnD Tryd.prog 61 [netV regionN, .int .i64 0, voteV (1, 1, 0)] (.tup [.int .i64 4, .int .i64 0]) tabG := by
    have h := oOf_spec regionN 0 (1, 1, 0)
    have hv : votedE regionN 0 (1, 1, 0) = 0 := voted_r (by decide) (by decide) (by decide)
    have hx : oOfV regionN 0 (1, 1, 0) = 4 := by unfold oOfV; rw [if_pos hv]; decide
    rw [hv, hx] at h
    exact h
  refine fnD_of mixed Tryd.func62 rfl rfl (by simp [Tryd.ntmps62]) fun hwf E => ?_
  simp (disch := omega) [Tryd.ntmps62, go_sem]
  refine awz_loop mixed (fun k : Nat => ⟨[(2, .int .i64 k), (1, .ptr 32 1 0 0)], [(32, ⟨.box, 87, 3, [voteV (if k = 3 then (1, 1, 0) else if k = 0 then (0, 0, 0) else (0, 1, (k : Int)))]⟩)], 1024, [], 39, 0, tabG⟩)
    (fun k => k ≤ 3) (fun k => 3 - k) 0 (by omega) ?_ ?_
  · refine Le.mk [(32, some 32)] [32] ⟨rfl, rfl, rfl⟩ ?_ ?_ ?_ <;> simp [go_sem, voteV]
  · intro k hk
    have hc : k = 0 ∨ k = 1 ∨ k = 2 ∨ k = 3 := by omega
    have round : ∀ j : Nat, j = 0 ∨ j = 1 ∨ j = 2 → True := fun _ _ => trivial
    rcases hc with rfl | rfl | rfl | rfl
    · have e := hn (0, 0, 0)
      rw [onext_lives (0, 0, 0) (by simp)] at e
      simp (disch := omega) [go_sem, voteV]
      refine callK_data hr [] (by simp [go_sem]) (.inl rfl) hp (fun _ => ?_)
      simp (disch := omega) [go_sem]
      refine callK_data e [1088] (by simp [go_sem, hp, voteV, ints]) (.inr (by simp [go_sem, voteE, voteV])) (by simp [go_sem, voteE, voteV]) (fun _ => ?_) (by simp [tabG, go_sem])
      simp (disch := omega) [go_sem, voteE, voteV]
      refine ⟨by kernel_rfl, ?_⟩
      refine round_of 1 (by omega) (by omega) (Le.mk [(32, some 32)] [32] ⟨rfl, rfl, rfl⟩ ?_ ?_ ?_) <;> simp [go_sem, voteV]
    · have e := hn (0, 1, 1)
      rw [onext_lives (0, 1, 1) (by simp)] at e
      simp (disch := omega) [go_sem, voteV]
      refine callK_data hr [] (by simp [go_sem]) (.inl rfl) hp (fun _ => ?_)
      simp (disch := omega) [go_sem]
      refine callK_data e [1088] (by simp [go_sem, hp, voteV, ints]) (.inr (by simp [go_sem, voteE, voteV])) (by simp [go_sem, voteE, voteV]) (fun _ => ?_) (by simp [tabG, go_sem])
      simp (disch := omega) [go_sem, voteE, voteV]
      refine ⟨by kernel_rfl, ?_⟩
      refine round_of 2 (by omega) (by omega) (Le.mk [(32, some 32)] [32] ⟨rfl, rfl, rfl⟩ ?_ ?_ ?_) <;> simp [go_sem, voteV]
    · have e := hn (0, 1, 2)
      rw [onext_lives (0, 1, 2) (by simp)] at e
      simp (disch := omega) [go_sem, voteV]
      refine callK_data hr [] (by simp [go_sem]) (.inl rfl) hp (fun _ => ?_)
      simp (disch := omega) [go_sem]
      refine callK_data e [1088] (by simp [go_sem, hp, voteV, ints]) (.inr (by simp [go_sem, voteE, voteV])) (by simp [go_sem, voteE, voteV]) (fun _ => ?_) (by simp [tabG, go_sem])
      simp (disch := omega) [go_sem, voteE, voteV]
      refine ⟨by kernel_rfl, ?_⟩
      refine round_of 3 (by omega) (by omega) (Le.mk [(32, some 32)] [32] ⟨rfl, rfl, rfl⟩ ?_ ?_ ?_) <;> simp [go_sem, voteV]
    · simp (disch := omega) [go_sem, voteV]
      refine callK_data hr [] (by simp [go_sem]) (.inl rfl) hp (fun _ => ?_)
      simp (disch := omega) [go_sem]
      refine callK_data ho [] (by simp [go_sem, hp, voteV]) (.inl rfl) (by simp [go_sem]) (fun _ => ?_) (by simp [tabG, go_sem])
      simp (disch := omega) [go_sem]
      try kernel_rfl
def net0 : NetN := ⟨[], [], [], 0, 0, 0⟩
set_option maxHeartbeats 2000000 in
theorem onames_spec : FnD Tryd.prog 13 [] (.bool true) tabG := by
  have hr := region27_spec
  have hp := net_pure regionN
  have w1 := oWish_r [1, 2] 1 0 (by decide) (by decide)
  have w2 := oWish_r [2, 2] 0 0 (by decide) (by decide)
  have w3 := oWish_r [1, 1, 9] 0 0 (by decide) (by decide)
  have w4 := oWish_r [] 0 0 (by decide) (by decide)
  have w8 := oWish_r [-1] 0 2 (by decide) (by decide)
  have w5 : FnD Tryd.prog 58 [netV regionN, .int .i64 1, .sl 1 (ints [])] (.tup [.int .i64 0, .int .i64 2]) tabG := by
    have h := oWish_spec regionN 1 []
    unfold oWishI owishE at h
    rw [owed_r1] at h
    exact h
  have w6 : FnD Tryd.prog 60 [netV regionN, .int .i64 0, voteV (2, 0, 0), .sl 1 (ints [])] (voteE ((0, 0, 0), 2)) tabG := by
    have h := oNext_spec regionN 0 (2, 0, 0) []
    have e : votedE regionN 0 (2, 0, 0) = 2 := by unfold votedE; rw [if_pos owed_r0, if_neg (by decide)]
    unfold oNextV at h
    rw [e] at h
    exact h
  have w7 : FnD Tryd.prog 61 [netV net0, .int .i64 0, voteV (0, 0, 0)] (.tup [.int .i64 0, .int .i64 60]) tabG := by
    have h := oOf_spec net0 0 (0, 0, 0)
    have e : votedE net0 0 (0, 0, 0) = 60 := by
      have e1 : owedE net0 0 = 60 := by unfold owedE; rw [if_neg fun h => absurd h.1.1.1 (by decide)]
      unfold votedE; rw [if_neg (by rw [e1]; decide), e1]
    unfold oOfV at h
    rw [e] at h
    exact h
  have hn0 : netV net0 = .agg [.sl 12 [], .sl 2 [], .sl 4 [], .int .i64 0, .int .i64 0, .int .i64 0] := rfl
  rw [hn0] at w7
  simp only [ints, List.map_cons, List.map_nil, voteV] at w1 w2 w3 w4 w5 w6 w7 w8
  refine fnD_of mixed Tryd.func13 rfl rfl (by simp [Tryd.ntmps13]) fun hwf E => ?_
  simp (disch := omega) [Tryd.ntmps13, go_sem]
  refine callK_data hr [] (by simp [go_sem]) (.inl rfl) hp (fun _ => ?_)
  simp (disch := omega) [go_sem]
  refine callK_data w1 [32] (by simp [go_sem, hp]) (.inr (by simp [go_sem])) (by simp [go_sem]) (fun _ => ?_) (by simp [tabG, go_sem])
  simp (disch := omega) [go_sem]
  refine callK_data hr [] (by simp [go_sem]) (.inl rfl) hp (fun _ => ?_)
  simp (disch := omega) [go_sem]
  refine callK_data w2 [160] (by simp [go_sem, hp]) (.inr (by simp [go_sem])) (by simp [go_sem]) (fun _ => ?_) (by simp [tabG, go_sem])
  simp (disch := omega) [go_sem]
  refine callK_data hr [] (by simp [go_sem]) (.inl rfl) hp (fun _ => ?_)
  simp (disch := omega) [go_sem]
  refine callK_data w3 [288] (by simp [go_sem, hp]) (.inr (by simp [go_sem])) (by simp [go_sem]) (fun _ => ?_) (by simp [tabG, go_sem])
  simp (disch := omega) [go_sem]
  refine callK_data hr [] (by simp [go_sem]) (.inl rfl) hp (fun _ => ?_)
  simp (disch := omega) [go_sem]
  refine callK_data w4 [] (by simp [go_sem, hp]) (.inl rfl) (by simp [go_sem]) (fun _ => ?_) (by simp [tabG, go_sem])
  simp (disch := omega) [go_sem]
  refine callK_data hr [] (by simp [go_sem]) (.inl rfl) hp (fun _ => ?_)
  simp (disch := omega) [go_sem]
  refine callK_data w5 [] (by simp [go_sem, hp]) (.inl rfl) (by simp [go_sem]) (fun _ => ?_) (by simp [tabG, go_sem])
  simp (disch := omega) [go_sem]
  refine callK_data hr [] (by simp [go_sem]) (.inl rfl) hp (fun _ => ?_)
  simp (disch := omega) [go_sem]
  refine callK_data w6 [] (by simp [go_sem, hp]) (.inl rfl) (by simp [go_sem, voteE, voteV]) (fun _ => ?_) (by simp [tabG, go_sem])
  simp (disch := omega) [go_sem, voteE, voteV]
  refine callK_data w7 [] (by simp [go_sem, hp]) (.inl rfl) (by simp [go_sem]) (fun _ => ?_) (by simp [tabG, go_sem])
  simp (disch := omega) [go_sem]
  refine callK_data hr [] (by simp [go_sem]) (.inl rfl) hp (fun _ => ?_)
  simp (disch := omega) [go_sem]
  refine callK_data w8 [912] (by simp [go_sem, hp]) (.inr (by simp [go_sem])) (by simp [go_sem]) (fun _ => ?_) (by simp [tabG, go_sem])
  simp (disch := omega) [go_sem]
  refine callK_data alive27_spec [] (by simp [go_sem]) (.inl rfl) (by simp [go_sem]) (fun _ => ?_) (by simp [tabG, go_sem])
  simp (disch := omega) [go_sem]
end Go.Proofs.YthjojamcolmbdaaDoor
