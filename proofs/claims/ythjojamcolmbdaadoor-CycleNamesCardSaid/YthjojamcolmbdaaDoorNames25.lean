/- CycleNames: the chapter's examples. -/
import Derived.Test.YthjojamcolmbdaaDoorRegion
namespace Go.Proofs.YthjojamcolmbdaaDoor
open Go.AM Go.RowKit
set_option maxRecDepth 100000

def emptyN : NetN := ⟨[], [], [], 0, 0, 0⟩
theorem emptyN_bad : ¬ NetOk emptyN := fun h => by have := h.1.1.1; simp [emptyN] at this
set_option maxHeartbeats 4000000 in
theorem names25_spec : FnD Tryd.prog 8 [] (.bool true) tabG := by
  have hr := region25_spec
  have hw := fun load => wish_spec regionN load
  have hn := fun v load => next_spec regionN v load
  refine fnD_of mixed Tryd.func8 rfl rfl (by simp [Tryd.ntmps8]) fun hwf E => ?_
  simp (disch := omega) [Tryd.ntmps8, go_sem]
  refine callK_data alive25_spec [] (by simp [go_sem]) (.inl rfl) (by simp [go_sem]) (fun _ => ?_) (by simp [tabG, go_sem])
  simp (disch := omega) [go_sem]
  refine awz_loop mixed (fun k : Nat => ⟨[(4, .int .i64 k), (3, .bool true), (2, .ptr 80 1 0 0), (1, .ptr 32 1 0 0), (0, .bool false)], [(80, ⟨.box, 83, 5, [.agg [.int .i64 8, .int .i64 8, .int .i64 12, .int .i64 20, .int .i64 20]]⟩), (32, ⟨.box, 82, 5, [.agg [.int .i64 0, .int .i64 16383, .int .i64 16384, .int .i64 65535, .int .i64 65536]]⟩)], 1024, [], 119, 0, tabG⟩)
    (fun k => k ≤ 5) (fun k => 5 - k) 0 (by omega) ?_ ?_
  · refine Le.mk [(32, some 32), (80, some 80)] [32, 80] ⟨rfl, rfl, rfl⟩ ?_ ?_ ?_ <;> simp [go_sem]
  · intro k hk
    have hc : k = 0 ∨ k = 1 ∨ k = 2 ∨ k = 3 ∨ k = 4 ∨ k = 5 := by omega
    rcases hc with rfl | rfl | rfl | rfl | rfl | rfl
    · have e1 : wishC regionN 0 = 0 := wishC_ok regionN_ok (by omega)
      have e2 : wishN regionN 0 = 8 := by decide
      simp (disch := omega) [go_sem]
      refine callK_data hr [] (by simp [go_sem]) (.inl rfl) (net_pure _) (fun _ => ?_)
      simp (disch := omega) [go_sem]
      refine callK_data (hw 0) [] (by simp [go_sem, net_pure]) (.inl rfl) (by simp [go_sem, wishE]) (fun _ => ?_) (by simp [tabG, go_sem])
      simp (disch := omega) [go_sem, wishE, e1, e2]
      refine ⟨by kernel_rfl, ?_⟩
      refine round_of 1 (by omega) (by omega) (Le.mk [(32, some 32), (80, some 80)] [32, 80] ⟨rfl, rfl, rfl⟩ ?_ ?_ ?_) <;> simp [go_sem]
    · have e1 : wishC regionN 16383 = 0 := wishC_ok regionN_ok (by omega)
      have e2 : wishN regionN 16383 = 8 := by decide
      simp (disch := omega) [go_sem]
      refine callK_data hr [] (by simp [go_sem]) (.inl rfl) (net_pure _) (fun _ => ?_)
      simp (disch := omega) [go_sem]
      refine callK_data (hw 16383) [] (by simp [go_sem, net_pure]) (.inl rfl) (by simp [go_sem, wishE]) (fun _ => ?_) (by simp [tabG, go_sem])
      simp (disch := omega) [go_sem, wishE, e1, e2]
      refine ⟨by kernel_rfl, ?_⟩
      refine round_of 2 (by omega) (by omega) (Le.mk [(32, some 32), (80, some 80)] [32, 80] ⟨rfl, rfl, rfl⟩ ?_ ?_ ?_) <;> simp [go_sem]
    · have e1 : wishC regionN 16384 = 0 := wishC_ok regionN_ok (by omega)
      have e2 : wishN regionN 16384 = 12 := by decide
      simp (disch := omega) [go_sem]
      refine callK_data hr [] (by simp [go_sem]) (.inl rfl) (net_pure _) (fun _ => ?_)
      simp (disch := omega) [go_sem]
      refine callK_data (hw 16384) [] (by simp [go_sem, net_pure]) (.inl rfl) (by simp [go_sem, wishE]) (fun _ => ?_) (by simp [tabG, go_sem])
      simp (disch := omega) [go_sem, wishE, e1, e2]
      refine ⟨by kernel_rfl, ?_⟩
      refine round_of 3 (by omega) (by omega) (Le.mk [(32, some 32), (80, some 80)] [32, 80] ⟨rfl, rfl, rfl⟩ ?_ ?_ ?_) <;> simp [go_sem]
    · have e1 : wishC regionN 65535 = 0 := wishC_ok regionN_ok (by omega)
      have e2 : wishN regionN 65535 = 20 := by decide
      simp (disch := omega) [go_sem]
      refine callK_data hr [] (by simp [go_sem]) (.inl rfl) (net_pure _) (fun _ => ?_)
      simp (disch := omega) [go_sem]
      refine callK_data (hw 65535) [] (by simp [go_sem, net_pure]) (.inl rfl) (by simp [go_sem, wishE]) (fun _ => ?_) (by simp [tabG, go_sem])
      simp (disch := omega) [go_sem, wishE, e1, e2]
      refine ⟨by kernel_rfl, ?_⟩
      refine round_of 4 (by omega) (by omega) (Le.mk [(32, some 32), (80, some 80)] [32, 80] ⟨rfl, rfl, rfl⟩ ?_ ?_ ?_) <;> simp [go_sem]
    · have e1 : wishC regionN 65536 = 0 := wishC_ok regionN_ok (by omega)
      have e2 : wishN regionN 65536 = 20 := by decide
      simp (disch := omega) [go_sem]
      refine callK_data hr [] (by simp [go_sem]) (.inl rfl) (net_pure _) (fun _ => ?_)
      simp (disch := omega) [go_sem]
      refine callK_data (hw 65536) [] (by simp [go_sem, net_pure]) (.inl rfl) (by simp [go_sem, wishE]) (fun _ => ?_) (by simp [tabG, go_sem])
      simp (disch := omega) [go_sem, wishE, e1, e2]
      refine ⟨by kernel_rfl, ?_⟩
      refine round_of 5 (by omega) (by omega) (Le.mk [(32, some 32), (80, some 80)] [32, 80] ⟨rfl, rfl, rfl⟩ ?_ ?_ ?_) <;> simp [go_sem]
    · simp (disch := omega) [go_sem]
      have t1 := tally_spec 5 7 2 7 3
      rw [show tallyN 5 7 2 7 3 = ((7, 7, 0), 0) by decide] at t1
      refine callK_data t1 [] (by simp [go_sem, voteV]) (.inl rfl) (by simp [go_sem, voteE, voteV]) (fun _ => ?_)
      simp (disch := omega) [go_sem, voteE, voteV]
      have t2 := tally_spec 5 7 2 5 3
      rw [show tallyN 5 7 2 5 3 = ((5, 5, 0), 0) by decide] at t2
      refine callK_data t2 [] (by simp [go_sem, voteV]) (.inl rfl) (by simp [go_sem, voteE, voteV]) (fun _ => ?_)
      simp (disch := omega) [go_sem, voteE, voteV]
      have t3 := tally_spec 5 7 2 6 3
      rw [show tallyN 5 7 2 6 3 = ((5, 6, 1), 0) by decide] at t3
      refine callK_data t3 [] (by simp [go_sem, voteV]) (.inl rfl) (by simp [go_sem, voteE, voteV]) (fun _ => ?_)
      simp (disch := omega) [go_sem, voteE, voteV]
      have t4 := tally_spec 0 0 0 1 0
      rw [show tallyN 0 0 0 1 0 = ((0, 0, 0), 2) by decide] at t4
      refine callK_data t4 [] (by simp [go_sem, voteV]) (.inl rfl) (by simp [go_sem, voteE, voteV]) (fun _ => ?_)
      simp (disch := omega) [go_sem, voteE, voteV]
      refine callK_data hr [] (by simp [go_sem]) (.inl rfl) (net_pure _) (fun _ => ?_)
      simp (disch := omega) [go_sem]
      have e5 : nextC regionN (9, 0, 0) 0 = 2 := nextC_arg regionN_ok (fun h => by
        have h9 : ¬ (9 : Int) ∈ cycN regionN (cycK regionN + 1) := by decide
        exact h9 h.2)
      refine callK_data (hn (9, 0, 0) 0) [] (by simp [go_sem, net_pure, voteV]) (.inl rfl) (by simp [go_sem, voteV]) (fun _ => ?_) (by simp [tabG, go_sem])
      rw [nextV_bad (by rw [e5]; decide), e5]
      simp (disch := omega) [go_sem, voteV]
      have h6 := wish_spec emptyN 0
      refine callK_data h6 [] (by simp [go_sem, netV, emptyN]) (.inl rfl) (by simp [go_sem, wishE]) (fun _ => ?_) (by simp [tabG, go_sem])
      simp (disch := omega) [go_sem, wishE, wishC_bad emptyN_bad]
end Go.Proofs.YthjojamcolmbdaaDoor
