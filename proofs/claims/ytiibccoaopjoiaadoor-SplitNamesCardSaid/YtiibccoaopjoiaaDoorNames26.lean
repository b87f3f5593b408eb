/- SplitNames: the chapter's examples. -/
import Derived.Test.YtiibccoaopjoiaaDoorBest26
set_option linter.unusedSimpArgs false
set_option linter.unusedVariables false
namespace Go.Proofs.YtiibccoaopjoiaaDoor
open Go.AM Go.RowKit
set_option maxRecDepth 100000

theorem two_many : manyN twoN = 3 := rfl
theorem two_scale (i : Int) (p : Pln) (h : (0 ≤ i ∧ i < 3)) (hp : scaleN twoN i.toNat 20 = p) : FnD Tryd.prog 24 [sitV twoN, .int .i64 i, .int .i64 20] (.tup [plnV p, .int .i64 0]) tabG := by
  have h1 := Scale_spec twoN i 20
  obtain ⟨e1, e2⟩ := scale_zero (s := twoN) (i := i) (c := 20) twoN_ok ⟨by rw [two_many]; exact h, by decide⟩
  rw [e1, e2, hp] at h1
  exact h1
theorem two_next (v x y : Int) (n : Int) (r : Int × Int × Int) (h : wish26E twoN v x y 20 [16384, 49152] = 0 ∧ wish26V twoN v x y 20 [16384, 49152] = n) (hr : tallyN v x y n 3 = (r, 0)) : FnD Tryd.prog 28 [sitV twoN, voteV (v, x, y), .int .i64 20, .sl 1 (ints [16384, 49152])] (voteE (r, 0)) tabG := by
  have h1 := snext_spec twoN v x y 20 [16384, 49152]
  unfold snextN at h1
  rw [if_pos h.1, h.2, hr] at h1
  exact h1
theorem two_wishes (x y : Int) (hx : inN x 0 1048576 = true) (hy : inN y 0 1048576 = true) : wish26E twoN 0 x y 20 [16384, 49152] = 0 ∧ wish26V twoN 0 x y 20 [16384, 49152] = 1 := by
  obtain ⟨h1, h2⟩ := wish26_ok (s := twoN) (v := 0) (x := x) (y := y) (c := 20) (l := [16384, 49152]) twoN_ok ⟨⟨by omega, by rw [two_many]; omega⟩, hx, hy, rfl⟩ (by decide)
  exact ⟨h1, h2.trans (by decide +kernel)⟩
def plnA : Pln := ⟨20, 2, [5, 15]⟩
def plnB : Pln := ⟨20, 0, [10, 10]⟩
theorem scaleA : scaleN twoN 1 20 = plnA := by kernel_rfl
theorem scaleB : scaleN twoN 0 20 = plnB := by kernel_rfl
set_option maxHeartbeats 4000000 in
theorem names26_spec : FnD Tryd.prog 7 [] (.bool true) tabG := by
  have ht := two26_spec
  have hp := sit_pure twoN
  have q1 := two_scale 1 plnA (by decide) scaleA
  have q2 := two_scale 0 plnB (by decide) scaleB
  have q3 : FnD Tryd.prog 44 [sitV twoN, plnV plnB, plnV plnA, .sl 1 (ints [32768, 16384])] (.tup [.int .i64 65536, .int .i64 0]) tabG := by
    have h := Worst_spec twoN plnB plnA [32768, 16384]
    obtain ⟨e1, e2⟩ := worst_scale (s := twoN) (i := 0) (j := 1) (c := 20) (l := [32768, 16384]) twoN_ok (by decide)
    rw [scaleA, scaleB] at e1 e2
    rw [e1, e2] at h
    have e3 : wst twoN 0 20 [32768, 16384] plnA = 65536 := by kernel_rfl
    rw [e3] at h
    exact h
  have q4 : FnD Tryd.prog 26 [sitV twoN, .agg [.int .i64 0, .int .i64 0, .int .i64 0], .int .i64 20, .sl 1 (ints [])] (.tup [.int .i64 0, .int .i64 0]) tabG := by
    have h := Wish_spec twoN 0 0 0 20 []
    obtain ⟨h1, h2⟩ := wish26_ok (s := twoN) (v := 0) (x := 0) (y := 0) (c := 20) (l := []) twoN_ok ⟨⟨by omega, by rw [two_many]; omega⟩, rfl, rfl, rfl⟩ (by decide)
    rw [h1, h2, show ((0 : Int)).toNat = 0 from rfl, best_nil twoN 0 20 (by rw [two_many]; omega)] at h
    exact h
  have n1 := two_next 0 0 0 1 (0, 1, 1) (two_wishes 0 0 rfl rfl) (by decide)
  have n2 := two_next 0 1 1 1 (0, 1, 2) (two_wishes 1 1 rfl rfl) (by decide)
  have n3 := two_next 0 1 2 1 (1, 1, 0) (two_wishes 1 2 rfl rfl) (by decide)
  have q6 : FnD Tryd.prog 24 [sitV twoN, .int .i64 3, .int .i64 20] (.tup [plnV ⟨0, 0, []⟩, .int .i64 2]) tabG := by
    have h := Scale_spec twoN 3 20
    have hn : ¬ scaleOk twoN 3 20 := fun e => absurd e.1.2 (by rw [two_many]; decide)
    unfold scaleE scaleV at h
    rw [if_pos twoN_ok, if_neg hn, if_neg (fun e => hn e.2)] at h
    exact h
  have q7 : FnD Tryd.prog 44 [sitV twoN, plnV plnB, plnV ⟨0, 0, []⟩, .sl 1 (ints [])] (.tup [.int .i64 0, .int .i64 170]) tabG := by
    have h := Worst_spec twoN plnB ⟨0, 0, []⟩ []
    obtain ⟨e1, e2⟩ := worstE_plan (s := twoN) (p := plnB) (q := ⟨0, 0, []⟩) (l := []) twoN_ok (fun e => absurd e.2 (by decide +kernel))
    rw [e1, e2] at h
    exact h
  have q8 : FnD Tryd.prog 26 [sitV twoN, .agg [.int .i64 3, .int .i64 0, .int .i64 0], .int .i64 20, .sl 1 (ints [])] (.tup [.int .i64 0, .int .i64 2]) tabG := by
    have h := Wish_spec twoN 3 0 0 20 []
    have hn : ¬ wishOk twoN 3 0 0 20 := fun e => absurd e.1.2 (by rw [two_many]; decide)
    have e1 : wish26E twoN 3 0 0 20 [] = 2 := by unfold wish26E; rw [if_pos twoN_ok, if_neg hn]
    have e2 : wish26V twoN 3 0 0 20 [] = 0 := by unfold wish26V; rw [e1]; rfl
    rw [e1, e2] at h
    exact h
  have q9 : FnD Tryd.prog 26 [sitV twoN, .agg [.int .i64 0, .int .i64 0, .int .i64 0], .int .i64 20, .sl 1 (ints [-1])] (.tup [.int .i64 0, .int .i64 2]) tabG := by
    have h := Wish_spec twoN 0 0 0 20 [-1]
    have hw : wishOk twoN 0 0 0 20 := ⟨⟨by omega, by rw [two_many]; omega⟩, rfl, rfl, rfl⟩
    have e1 : wish26E twoN 0 0 0 20 [-1] = 2 := by unfold wish26E; rw [if_pos twoN_ok, if_pos hw]; decide
    have e2 : wish26V twoN 0 0 0 20 [-1] = 0 := by unfold wish26V; rw [e1]; rfl
    rw [e1, e2] at h
    exact h
  have hv0 : plnV ⟨0, 0, []⟩ = .agg [.int .i64 0, .int .i64 0, .sl 1 []] := rfl
  have hvA : plnV plnA = .agg [.int .i64 20, .int .i64 2, .sl 1 [.int .i64 5, .int .i64 15]] := rfl
  have hvB : plnV plnB = .agg [.int .i64 20, .int .i64 0, .sl 1 [.int .i64 10, .int .i64 10]] := rfl
  rw [hvA] at q1 q3
  rw [hvB] at q2 q3 q7
  rw [hv0] at q6 q7
  simp only [ints, List.map_cons, List.map_nil, voteV, voteE] at q3 q4 q7 q8 q9 n1 n2 n3
  refine fnD_of mixed Tryd.func7 rfl rfl (by simp [Tryd.ntmps7]) fun hwf E => ?_
  simp (disch := omega) [Tryd.ntmps7, go_sem]
  refine callK_data ht [] (by simp [go_sem]) (.inl rfl) hp (fun _ => ?_)
  simp (disch := omega) [go_sem]
  refine callK_data q1 [] (by simp [go_sem, hp]) (.inl rfl) (by simp [go_sem]) (fun _ => ?_) (by simp [tabG, go_sem])
  simp (disch := omega) [go_sem]
  refine callK_data ht [] (by simp [go_sem]) (.inl rfl) hp (fun _ => ?_)
  simp (disch := omega) [go_sem]
  refine callK_data q2 [] (by simp [go_sem, hp]) (.inl rfl) (by simp [go_sem]) (fun _ => ?_) (by simp [tabG, go_sem])
  simp (disch := omega) [go_sem]
  refine callK_data ht [] (by simp [go_sem]) (.inl rfl) hp (fun _ => ?_)
  simp (disch := omega) [go_sem]
  refine callK_data q3 [848] (by simp [go_sem, hp]) (.inr (by simp [go_sem])) (by simp [go_sem]) (fun _ => ?_) (by simp [tabG, go_sem])
  simp (disch := omega) [go_sem]
  refine ⟨by kernel_rfl, ?_⟩
  refine callK_data ht [] (by simp [go_sem]) (.inl rfl) hp (fun _ => ?_)
  simp (disch := omega) [go_sem]
  refine callK_data q4 [] (by simp [go_sem, hp]) (.inl rfl) (by simp [go_sem]) (fun _ => ?_) (by simp [tabG, go_sem])
  simp (disch := omega) [go_sem]
  refine awz_loop mixed (fun k : Nat => ⟨[(11, .int .i64 k), (10, .ptr 1104 1 0 0), (9, .int .i64 0), (8, .int .i64 0), (7, .int .i64 0), (6, .int .i64 65536), (5, .int .i64 0), (4, .ptr 752 1 0 0), (3, .bool true)], [(1104, ⟨.box, 41, 3, [voteV (if k = 1 then (0, 0, 0) else (0, 1, (k : Int) - 1))]⟩), (752, ⟨.box, 46, 3, [.agg [.int .i64 20, .int .i64 0, .sl 1 [.int .i64 10, .int .i64 10]]]⟩)], 2048, [], 187, 0, tabG⟩)
    (fun k => 1 ≤ k ∧ k ≤ 3) (fun k => 3 - k) 1 (by omega) ?_ ?_
  · refine Le.mk [(752, some 752), (1104, some 1104)] [752, 1104] ⟨rfl, rfl, rfl⟩ ?_ ?_ ?_ <;> simp [go_sem, voteV]
  · rintro k ⟨hk1, hk⟩
    have hc : k = 1 ∨ k = 2 ∨ k = 3 := by omega
    rcases hc with rfl | rfl | rfl
    · simp (disch := omega) [go_sem, voteV]
      refine callK_data ht [] (by simp [go_sem]) (.inl rfl) hp (fun _ => ?_)
      simp (disch := omega) [go_sem]
      refine callK_data n1 [2112] (by simp [go_sem, hp]) (.inr (by simp [go_sem])) (by simp [go_sem]) (fun _ => ?_) (by simp [tabG, go_sem])
      simp (disch := omega) [go_sem]
      refine ⟨by kernel_rfl, ?_⟩
      refine round_of 2 (by omega) (by omega) (Le.mk [(752, some 752), (1104, some 1104)] [752, 1104] ⟨rfl, rfl, rfl⟩ ?_ ?_ ?_) <;> simp [go_sem, voteV]
    · simp (disch := omega) [go_sem, voteV]
      refine callK_data ht [] (by simp [go_sem]) (.inl rfl) hp (fun _ => ?_)
      simp (disch := omega) [go_sem]
      refine callK_data n2 [2112] (by simp [go_sem, hp]) (.inr (by simp [go_sem])) (by simp [go_sem]) (fun _ => ?_) (by simp [tabG, go_sem])
      simp (disch := omega) [go_sem]
      refine ⟨by kernel_rfl, ?_⟩
      refine round_of 3 (by omega) (by omega) (Le.mk [(752, some 752), (1104, some 1104)] [752, 1104] ⟨rfl, rfl, rfl⟩ ?_ ?_ ?_) <;> simp [go_sem, voteV]
    · simp (disch := omega) [go_sem, voteV]
      refine callK_data ht [] (by simp [go_sem]) (.inl rfl) hp (fun _ => ?_)
      simp (disch := omega) [go_sem]
      refine callK_data n3 [2112] (by simp [go_sem, hp]) (.inr (by simp [go_sem])) (by simp [go_sem]) (fun _ => ?_) (by simp [tabG, go_sem])
      simp (disch := omega) [go_sem]
      refine ⟨by kernel_rfl, ?_⟩
      refine callK_data ht [] (by simp [go_sem]) (.inl rfl) hp (fun _ => ?_)
      simp (disch := omega) [go_sem]
      refine callK_data q6 [] (by simp [go_sem, hp]) (.inl rfl) (by simp [go_sem]) (fun _ => ?_) (by simp [tabG, go_sem])
      simp (disch := omega) [go_sem]
      try refine ⟨by kernel_rfl, ?_⟩
      refine callK_data ht [] (by simp [go_sem]) (.inl rfl) hp (fun _ => ?_)
      simp (disch := omega) [go_sem]
      try refine ⟨by kernel_rfl, ?_⟩
      refine callK_data q7 [] (by simp [go_sem, hp]) (.inl rfl) (by simp [go_sem]) (fun _ => ?_) (by simp [tabG, go_sem])
      simp (disch := omega) [go_sem]
      try refine ⟨by kernel_rfl, ?_⟩
      refine callK_data ht [] (by simp [go_sem]) (.inl rfl) hp (fun _ => ?_)
      simp (disch := omega) [go_sem]
      try refine ⟨by kernel_rfl, ?_⟩
      refine callK_data q8 [] (by simp [go_sem, hp]) (.inl rfl) (by simp [go_sem]) (fun _ => ?_) (by simp [tabG, go_sem])
      simp (disch := omega) [go_sem]
      try refine ⟨by kernel_rfl, ?_⟩
      refine callK_data ht [] (by simp [go_sem]) (.inl rfl) hp (fun _ => ?_)
      simp (disch := omega) [go_sem]
      try refine ⟨by kernel_rfl, ?_⟩
      refine callK_data q9 [2672] (by simp [go_sem, hp]) (.inr (by simp [go_sem])) (by simp [go_sem]) (fun _ => ?_) (by simp [tabG, go_sem])
      simp (disch := omega) [go_sem]
      try refine ⟨by kernel_rfl, ?_⟩
      refine callK_data alive26_spec [] (by simp [go_sem]) (.inl rfl) (by simp [go_sem]) (fun _ => ?_) (by simp [tabG, go_sem])
      simp (disch := omega) [go_sem]
end Go.Proofs.YtiibccoaopjoiaaDoor
