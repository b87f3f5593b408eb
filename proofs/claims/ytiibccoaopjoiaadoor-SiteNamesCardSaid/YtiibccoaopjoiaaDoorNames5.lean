/- The statement SiteNames. -/
import Derived.Test.YtiibccoaopjoiaaDoorPlans5
import Derived.Test.YtiibccoaopjoiaaDoorApart5
set_option linter.unusedSimpArgs false
set_option linter.unusedVariables false
namespace Go.Proofs.YtiibccoaopjoiaaDoor
open Go.AM Go.RowKit
set_option maxRecDepth 100000

abbrev g5 : V := .agg [.int .u8 1, .int .i64 2, .int .i64 1]
abbrev f5a : V := .agg [.int .u32 1, .int .i64 2, .int .i64 5, .int .i64 1, .bool false]
abbrev f5b : V := .agg [.int .u32 2, .int .i64 2, .int .i64 5, .int .i64 1, .bool false]
theorem two5_ref : FnR Tryd.prog 62 [] [] [⟨.arr, 107, 3, [g5, g5]⟩, ⟨.arr, 100, 1, [.int .u32 2, .int .u32 1]⟩, ⟨.arr, 3, 1, [.int .i64 0, .int .i64 2]⟩, ⟨.arr, 3, 1, [.int .i64 2, .int .i64 0]⟩, ⟨.arr, 44, 1, [.obj 2 2, .obj 3 2]⟩, ⟨.arr, 102, 5, [f5a, f5b]⟩]
    (.agg [.int .i64 0, .obj 0 2, .obj 1 2, .obj 4 2, .obj 5 2, .nilS, .int .i64 3, .int .i64 2, .int .i64 4, .int .i64 8, .int .i64 20, .nilS]) := by
  refine fnR_of mixed Tryd.func62 rfl rfl (by simp [Tryd.ntmps62]) (by simp) fun hwf E => ?_
  simp (disch := omega) [Tryd.ntmps62, go_sem]
  refine Le.mk [(0, some 112), (1, some 128), (2, some 144), (3, some 160), (4, some 176), (5, some 224)] [112, 128, 144, 160, 176, 224] ⟨rfl, rfl, rfl⟩ ?_ ?_ ?_ <;> simp [go_sem]
def aN5 : Sit := { siteN 0 with low := 7 }
def bN5 : Sit := { siteN 0 with between := [[0, 0], [2, 0]] }
def cN5 : Sit := { siteN 0 with phases := [⟨3, 2, 5, 1, false⟩] }
theorem aN5_bad : ¬ SiteOk aN5 := fun h => by
  have h4 : timedN aN5 = true := h 4 (by omega)
  have : timedN aN5 = false := by decide +kernel
  rw [this] at h4
  cases h4
theorem bN5_bad : ¬ SiteOk bN5 := fun h => by
  have hA := ((h.apart 0 (by decide)).2 1 (by decide)).2.1 (by decide +kernel)
  have : betw bN5 0 1 = 0 := rfl
  have h2 : yelAt bN5 0 = 1 := rfl
  omega
theorem cN5_bad : ¬ SiteOk cN5 := fun h => by
  have hP := ((h.phased.1 0 (by decide)) (by decide)).2.2.2.2 0 (by decide +kernel)
  have := hP.2
  revert this
  decide +kernel
theorem w5 : worstN (siteN 0) = 2 := by decide +kernel
theorem c5 : clearN (siteN 0) 0 1 = 2 := by decide +kernel
theorem c5b : clearN (siteN 0) 1 1 = 0 := by decide +kernel
theorem p5a : Fits (siteN 0) ⟨10, 3, [5, 5]⟩ := by decide +kernel
theorem p5b : ¬ Fits (siteN 0) ⟨10, 10, [5, 5]⟩ := by decide +kernel
theorem p5c : ¬ Fits (siteN 0) ⟨10, 0, [7, 3]⟩ := by decide +kernel
theorem pt5 : partsV [] = [] ∧ partsE [] = 8 := parts5_bad (by decide +kernel)
/-! Whole refuses the zero plan -/
abbrev zp5 : V := .agg [.int .i64 0, .int .i64 0, .nilS]
def wzS (k : Nat) : St :=
  ⟨[(18, .int .i64 k), (17, .int .i64 1), (16, .obj 0 1), (4, .obj 144 (putN [1]).length)], [(0, ⟨.arr, 46, 3, [zp5]⟩), (144, ⟨.arr, 5, 1, bts (putN [1])⟩)], 2048, [], 70, 1, []⟩
set_option maxHeartbeats 4000000 in
theorem whole_zero : FnR Tryd.prog 35 [⟨.arr, 46, 3, [zp5]⟩] [.obj 0 1] [⟨.arr, 46, 3, [zp5]⟩] (.tup [.nilS, .int .i64 170]) := by
  have q0 := put_nil [1] (by simp) (by simp)
  have q1 := ticks_spec [0]
  simp only [ints, List.map_cons, List.map_nil] at q0 q1
  have hpb := bts_pure (putN [1])
  refine fnR_of mixed Tryd.func35 rfl rfl (by simp [Tryd.ntmps35]) (by simp) fun hwf E => ?_
  simp (disch := omega) [Tryd.ntmps35, go_sem]
  refine callK_ref q0 [(0, none)] [] [128] [] ?_ ?_ ?_ (.inl ⟨rfl, .inr ?_⟩) (fun _ => ?_)
  · simp [go_sem]
  · simp [go_sem]
  · simp [go_sem]
  · simp [go_sem, bts_noSls]
  simp (disch := omega) [go_sem]
  refine awz_loop mixed wzS (fun k => k = 0) (fun k => 1 - k) 0 rfl ?_ ?_
  · refine Le.mk [(0, some 0), (144, some 144)] [0, 144] ⟨rfl, rfl, rfl⟩ ?_ ?_ ?_ <;> simp [go_sem, wzS, hpb]
  · intro k hk
    subst hk
    simp (disch := omega) [go_sem, wzS]
    refine callK_data q1 [2160] (by simp [go_sem]) (.inr (by simp [go_sem])) (by simp [go_sem]) (fun _ => ?_)
    simp (disch := omega) [go_sem, inN]
    refine Le.mk [(0, some 0)] [0] ⟨rfl, rfl, rfl⟩ ?_ ?_ ?_ <;> simp [go_sem]
abbrev sN5 : V := .agg [.int .i64 0, .sl 3 [g5, g5], .sl 1 [.int .u32 2, .int .u32 1], .sl 1 [.sl 1 [.int .i64 0, .int .i64 2], .sl 1 [.int .i64 2, .int .i64 0]], .sl 5 [f5a, f5b], .sl 4 [], .int .i64 3, .int .i64 2, .int .i64 4, .int .i64 8, .int .i64 20, .sl 3 []]
set_option maxHeartbeats 8000000 in
theorem snames5_spec : FnD Tryd.prog 13 [] (.bool true) tabG := by
  have hs : sitV (siteN 0) = sN5 := rfl
  have q0 := two5_spec
  have q1 := worst_spec (siteN 0)
  rw [if_pos siteN_ok0, checkN_ok siteN_ok0, w5] at q1
  have q2 := sclear_spec (siteN 0) 0 1
  rw [show askN (siteN 0) ((siteN 0).phases.length : Int) [0, 1] = 0 from ask_two (a := 0) (b := 1) siteN_ok0 (by decide) (by decide), if_pos rfl, show clearN (siteN 0) (0 : Int).toNat (1 : Int).toNat = 2 from c5] at q2
  have q3 := sclear_spec (siteN 0) 1 1
  rw [show askN (siteN 0) ((siteN 0).phases.length : Int) [1, 1] = 0 from ask_two (a := 1) (b := 1) siteN_ok0 (by decide) (by decide), if_pos rfl, show clearN (siteN 0) (1 : Int).toNat (1 : Int).toNat = 0 from c5b] at q3
  have q4 := sapart_spec (siteN 0) 0 2
  have e4 : askN (siteN 0) ((siteN 0).groups.length : Int) [0, 2] = 2 := by unfold askN; rw [if_pos siteN_ok0, if_neg (by decide +kernel)]
  rw [e4, show (decide ((2 : Int) = 0) && isAp (siteN 0) (0 : Int).toNat (2 : Int).toNat) = false by decide +kernel] at q4
  have q5 := plan_spec (siteN 0) ⟨10, 3, [5, 5]⟩
  rw [decide_eq_true siteN_ok0, decide_eq_true p5a, checkN_ok siteN_ok0] at q5
  have q6 := plan_spec (siteN 0) ⟨10, 10, [5, 5]⟩
  rw [decide_eq_true siteN_ok0, decide_eq_false p5b, checkN_ok siteN_ok0] at q6
  have q7 := plan_spec (siteN 0) ⟨10, 0, [7, 3]⟩
  rw [decide_eq_true siteN_ok0, decide_eq_false p5c, checkN_ok siteN_ok0] at q7
  have q8 := whole_spec []
  rw [show wholeE [] = 0 by decide +kernel, show wholeB [] = [0] by decide +kernel] at q8
  have q9 := whole_spec [⟨0, 0, []⟩]
  rw [show wholeE [⟨0, 0, []⟩] = 170 by decide +kernel, show wholeB [⟨0, 0, []⟩] = [] by decide +kernel] at q9
  have q10 := sparts_spec []
  rw [pt5.1, pt5.2] at q10
  have k1 := check_good siteN_ok0
  have k2 := check_nogood aN5_bad
  have k3 := check_nogood bN5_bad
  have k4 := check_nogood cN5_bad
  rw [show sitV aN5 = .agg [.int .i64 0, .sl 3 [g5, g5], .sl 1 [.int .u32 2, .int .u32 1], .sl 1 [.sl 1 [.int .i64 0, .int .i64 2], .sl 1 [.int .i64 2, .int .i64 0]], .sl 5 [f5a, f5b], .sl 4 [], .int .i64 3, .int .i64 2, .int .i64 4, .int .i64 7, .int .i64 20, .sl 3 []] from rfl] at k2
  rw [show sitV bN5 = .agg [.int .i64 0, .sl 3 [g5, g5], .sl 1 [.int .u32 2, .int .u32 1], .sl 1 [.sl 1 [.int .i64 0, .int .i64 0], .sl 1 [.int .i64 2, .int .i64 0]], .sl 5 [f5a, f5b], .sl 4 [], .int .i64 3, .int .i64 2, .int .i64 4, .int .i64 8, .int .i64 20, .sl 3 []] from rfl] at k3
  rw [show sitV cN5 = .agg [.int .i64 0, .sl 3 [g5, g5], .sl 1 [.int .u32 2, .int .u32 1], .sl 1 [.sl 1 [.int .i64 0, .int .i64 2], .sl 1 [.int .i64 2, .int .i64 0]], .sl 5 [.agg [.int .u32 3, .int .i64 2, .int .i64 5, .int .i64 1, .bool false]], .sl 4 [], .int .i64 3, .int .i64 2, .int .i64 4, .int .i64 8, .int .i64 20, .sl 3 []] from rfl] at k4
  rw [hs] at q0 q1 q2 q3 q4 q5 q6 q7 k1
  simp only [plnV, ints, bts, List.map_cons, List.map_nil] at q5 q6 q7 q8 q9 q10
  refine fnD_of mixed Tryd.func13 rfl rfl (by simp [Tryd.ntmps13]) fun hwf E => ?_
  simp (disch := omega) [Tryd.ntmps13, go_sem]
  refine callK_data q0 [] (by simp [go_sem]) (.inl rfl) (by simp [go_sem]) (fun _ => ?_)
  simp (disch := omega) [go_sem]
  refine callK_data q0 [] (by simp [go_sem]) (.inl rfl) (by simp [go_sem]) (fun _ => ?_)
  simp (disch := omega) [go_sem]
  refine callK_ref two5_ref [] [] [] [] ?_ ?_ ?_ (.inl ⟨rfl, .inl rfl⟩) (fun _ => ?_)
  · simp [go_sem]
  · simp [go_sem]
  · simp [go_sem]
  simp (disch := omega) [go_sem]
  refine callK_data q0 [] (by simp [go_sem]) (.inl rfl) (by simp [go_sem]) (fun _ => ?_)
  simp (disch := omega) [go_sem]
  refine callK_data q1 [] (by simp [go_sem]) (.inl rfl) (by simp [go_sem]) (fun _ => ?_) (by simp [tabG, go_sem])
  simp (disch := omega) [go_sem]
  refine callK_data q2 [] (by simp [go_sem]) (.inl rfl) (by simp [go_sem]) (fun _ => ?_) (by simp [tabG, go_sem])
  simp (disch := omega) [go_sem]
  refine callK_data q3 [] (by simp [go_sem]) (.inl rfl) (by simp [go_sem]) (fun _ => ?_) (by simp [tabG, go_sem])
  simp (disch := omega) [go_sem]
  refine callK_data q4 [] (by simp [go_sem]) (.inl rfl) (by simp [go_sem]) (fun _ => ?_) (by simp [tabG, go_sem])
  simp (disch := omega) [go_sem]
  refine callK_data q5 [864] (by simp [go_sem]) (.inr (by simp [go_sem])) (by simp [go_sem]) (fun _ => ?_) (by simp [tabG, go_sem])
  simp (disch := omega) [go_sem]
  refine callK_data q6 [1008] (by simp [go_sem]) (.inr (by simp [go_sem])) (by simp [go_sem]) (fun _ => ?_) (by simp [tabG, go_sem])
  simp (disch := omega) [go_sem]
  refine callK_data q7 [1152] (by simp [go_sem]) (.inr (by simp [go_sem])) (by simp [go_sem]) (fun _ => ?_) (by simp [tabG, go_sem])
  simp (disch := omega) [go_sem]
  refine callK_data q8 [] (by simp [go_sem]) (.inl rfl) (by simp [go_sem]) (fun _ => ?_) (by simp [tabG, go_sem])
  simp (disch := omega) [go_sem]
  refine callK_ref whole_zero [(0, some 1392)] [1392] [] [] ?_ ?_ ?_ (.inl ⟨rfl, .inr ?_⟩) (fun _ => ?_)
  · simp [go_sem]
  · simp [go_sem]
  · simp [go_sem]
  · simp [go_sem]
  simp (disch := omega) [go_sem]
  refine callK_data q10 [] (by simp [go_sem]) (.inl rfl) (by simp [go_sem]) (fun _ => ?_) (by simp [tabG, go_sem])
  simp (disch := omega) [go_sem]
  refine callK_data k1 [] (by simp [go_sem]) (.inl rfl) (by simp [go_sem]) (fun _ => ?_) (by simp [tabG, go_sem])
  simp (disch := omega) [go_sem]
  refine callK_data k2 [] (by simp [go_sem]) (.inl rfl) (by simp [go_sem]) (fun _ => ?_) (by simp [tabG, go_sem])
  simp (disch := omega) [go_sem]
  refine callK_data k3 [80, 81, 82, 83, 84, 85] (by simp [go_sem]) (.inr (by simp [go_sem])) (by simp [go_sem]) (fun _ => ?_) (by simp [tabG, go_sem])
  simp (disch := omega) [go_sem]
  refine callK_data k4 [352] (by simp [go_sem]) (.inr (by simp [go_sem])) (by simp [go_sem]) (fun _ => ?_) (by simp [tabG, go_sem])
  simp (disch := omega) [go_sem]
  refine callK_data alive5_spec [] (by simp [go_sem]) (.inl rfl) (by simp [go_sem]) (fun _ => ?_) (by simp [tabG, go_sem])
  simp (disch := omega) [go_sem, strV]
end Go.Proofs.YtiibccoaopjoiaaDoor
