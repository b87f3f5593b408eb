/- WedNames: the chapter's examples. -/
import Derived.Test.YtiibccoaopjoiaaDoorAlive28
import Derived.Test.YtiibccoaopjoiaaDoorWed3
set_option linter.unusedSimpArgs false
set_option linter.unusedVariables false
namespace Go.Proofs.YtiibccoaopjoiaaDoor
open Go.AM Go.RowKit
set_option maxRecDepth 100000

theorem partV_bot28 : partV Tryd.prog 3 V.bot 0 = some V.bot := by kernel_rfl
theorem are28_spec (l : List Int) (a b : Int) : FnD Tryd.prog 60 [.sl 1 (ints l), .int .i64 a, .int .i64 b] (.bool (decide (l = [a, b]))) := by
  refine fnD_of mixed Tryd.func60 rfl rfl (by simp [Tryd.ntmps60]) fun hwf E => ?_
  simp (disch := omega) [go_sem, ints_len] at hwf
  by_cases hl : l.length = 2
  · obtain ⟨x, y, rfl⟩ : ∃ x y, l = [x, y] := by
      match l, hl with
      | [x, y], _ => exact ⟨x, y, rfl⟩
    by_cases h1 : x = a
    · by_cases h2 : y = b <;> simp (disch := omega) [Tryd.ntmps60, go_sem, ints, h1, h2]
    · simp (disch := omega) [Tryd.ntmps60, go_sem, ints, h1]
  · have hne : decide (l = [a, b]) = false := by
      rw [decide_eq_false_iff_not]; intro e; rw [e] at hl; exact hl rfl
    rw [hne]
    match l, hl, hwf with
    | [], _, _ => simp (disch := omega) [Tryd.ntmps60, go_sem, ints, partV_bot28]
    | [x], _, _ => simp (disch := omega) [Tryd.ntmps60, go_sem, ints, partV_bot28]
    | x :: y :: z :: r, _, hwf =>
      simp [go_sem] at hwf
      have h2 : ((r.length : Int) + 1 + 1 + 1 == 2) = false := by simp; omega
      simp (disch := omega) [Tryd.ntmps60, go_sem, ints, h2]
theorem on_bonded : bondedC regionN [(true, 0)] = 0 := bondedC_of regionN_ok rfl (by decide)
theorem off_bonded : bondedC regionN [(false, 0)] = 0 := bondedC_of regionN_ok rfl (by decide)
theorem on_cycled : cycledC regionN [8, 12] = 0 := by decide +kernel
theorem bad_cycled : cycledC regionN [8, 9] = 2 := by decide +kernel
theorem voted1 : votedOk regionN [(1, 0, 0)] := by
  intro i hi
  have : i = 0 := by simp at hi; omega
  subst this
  unfold votedAt
  decide
theorem voted2 : ¬ votedOk regionN [(2, 0, 0)] := fun h => by
  have := h 0 (by simp)
  unfold votedAt at this
  revert this
  decide
theorem on_groups : groupsN regionN [(true, 0)] = [0, 0] := by decide +kernel
theorem off_groups : groupsN regionN [(false, 0)] = [0, 1] := by decide +kernel
theorem on_common : commonG [0, 0] [8, 12] = [12, 12] := by decide +kernel
theorem off_common : commonG [0, 1] [8, 12] = [8, 12] := by decide +kernel
theorem on_begin : beginN regionN [(true, 0)] [(1, 0, 0)] [12, 12] [0, 0] = [0, 4] := by decide +kernel
theorem off_begin : beginN regionN [(false, 0)] [(1, 0, 0)] [8, 12] [0, 1] = [0, 0] := by decide +kernel

theorem names_next : bondC regionN 0 (true, 0) 8 16 = 0 ∧ bondN regionN 0 (true, 0) 8 16 = (true, 1) := by
  have h8 : (8 : Int) ∈ cycN regionN (cycK regionN + 1) := by decide
  have h16 : (16 : Int) ∈ cycN regionN (cycK regionN + 1) := by decide
  have e := bondC_ok regionN_ok (w := 0) (b := (true, 0)) ⟨by decide, by decide, h8, h16⟩
  exact ⟨e, by rw [bondN_ok e]; decide⟩
theorem names_next2 : bondC regionN 1 (false, 0) 8 8 = 2 ∧ bondN regionN 1 (false, 0) 8 8 = (false, 0) := by
  have e := bondC_arg regionN_ok (w := 1) (b := (false, 0)) (x := 8) (y := 8) (fun h => absurd h.1.2 (by decide))
  exact ⟨e, bondN_bad (by rw [e]; decide)⟩
theorem gnil_bonded : bondedC regionN [] = 4 := by unfold bondedC; rw [if_pos regionN_ok, if_pos (by decide)]
abbrev onV : List V := [.agg [.bool true, .int .i64 0]]
abbrev offV : List V := [.agg [.bool false, .int .i64 0]]
set_option maxHeartbeats 8000000 in
theorem names28_spec : FnD Tryd.prog 11 [] (.bool true) tabG := by
  have hr := region28_spec
  have hp := net_pure regionN
  have q1 := bond_spec regionN 0 (true, 0) 8 16
  rw [names_next.1, names_next.2] at q1
  have q2 := Groups_spec regionN [(true, 0)]
  rw [show groupsL regionN [(true, 0)] = [0, 0] by unfold groupsL; rw [if_pos on_bonded, on_groups], on_bonded] at q2
  have c3 : cyclesC regionN [(true, 0)] [8, 12] = 0 := by unfold cyclesC; rw [if_pos on_bonded, on_cycled]
  have q3 := Cycles_spec regionN [(true, 0)] [8, 12]
  rw [show cyclesL regionN [(true, 0)] [8, 12] = [12, 12] by unfold cyclesL; rw [if_pos c3, on_groups, on_common], c3] at q3
  have c4 : offsC regionN [(true, 0)] [(1, 0, 0)] [8, 12] = 0 := by unfold offsC; rw [if_pos on_bonded, if_neg (by decide), if_pos voted1, on_cycled]
  have q4 := Offsets_spec regionN [(true, 0)] [(1, 0, 0)] [8, 12]
  rw [show offsL regionN [(true, 0)] [(1, 0, 0)] [8, 12] = [0, 4] by unfold offsL; rw [if_pos c4, on_groups, on_common, on_begin], c4] at q4
  have q5 := Groups_spec regionN [(false, 0)]
  rw [show groupsL regionN [(false, 0)] = [0, 1] by unfold groupsL; rw [if_pos off_bonded, off_groups], off_bonded] at q5
  have c6 : cyclesC regionN [(false, 0)] [8, 12] = 0 := by unfold cyclesC; rw [if_pos off_bonded, on_cycled]
  have q6 := Cycles_spec regionN [(false, 0)] [8, 12]
  rw [show cyclesL regionN [(false, 0)] [8, 12] = [8, 12] by unfold cyclesL; rw [if_pos c6, off_groups, off_common], c6] at q6
  have c7 : offsC regionN [(false, 0)] [(1, 0, 0)] [8, 12] = 0 := by unfold offsC; rw [if_pos off_bonded, if_neg (by decide), if_pos voted1, on_cycled]
  have q7 := Offsets_spec regionN [(false, 0)] [(1, 0, 0)] [8, 12]
  rw [show offsL regionN [(false, 0)] [(1, 0, 0)] [8, 12] = [0, 0] by unfold offsL; rw [if_pos c7, off_groups, off_common, off_begin], c7] at q7
  have q8 := Groups_spec regionN []
  rw [show groupsL regionN [] = [] by unfold groupsL; rw [gnil_bonded, if_neg (by decide)], gnil_bonded] at q8
  have c9 : cyclesC regionN [(true, 0)] [8, 9] = 2 := by unfold cyclesC; rw [if_pos on_bonded, bad_cycled]
  have q9 := Cycles_spec regionN [(true, 0)] [8, 9]
  rw [show cyclesL regionN [(true, 0)] [8, 9] = [] by unfold cyclesL; rw [c9, if_neg (by decide)], c9] at q9
  have c10 : offsC regionN [(true, 0)] [(2, 0, 0)] [8, 12] = 2 := by unfold offsC; rw [if_pos on_bonded, if_neg (by decide), if_neg voted2]
  have q10 := Offsets_spec regionN [(true, 0)] [(2, 0, 0)] [8, 12]
  rw [show offsL regionN [(true, 0)] [(2, 0, 0)] [8, 12] = [] by unfold offsL; rw [c10, if_neg (by decide)], c10] at q10
  have q11 := bond_spec regionN 1 (false, 0) 8 8
  rw [names_next2.1, names_next2.2] at q11
  have a1 := are28_spec [0, 0] 0 0
  have a2 := are28_spec [12, 12] 12 12
  have a3 := are28_spec [0, 4] 0 4
  have a4 := are28_spec [0, 1] 0 1
  have a5 := are28_spec [8, 12] 8 12
  simp only [decide_true, ints, List.map_cons, List.map_nil, bondsV, bondV, votesV, voteV] at q1 q2 q3 q4 q5 q6 q7 q8 q9 q10 q11 a1 a2 a3 a4 a5
  refine fnD_of mixed Tryd.func11 rfl rfl (by simp [Tryd.ntmps11]) fun hwf E => ?_
  simp (disch := omega) [Tryd.ntmps11, go_sem]
  refine callK_data hr [] (by simp [go_sem]) (.inl rfl) hp (fun _ => ?_)
  simp (disch := omega) [go_sem]
  refine callK_data q1 [] (by simp [go_sem, hp]) (.inl rfl) (by simp [go_sem]) (fun _ => ?_) (by simp [tabG, go_sem])
  simp (disch := omega) [go_sem]
  refine callK_data hr [] (by simp [go_sem]) (.inl rfl) hp (fun _ => ?_)
  simp (disch := omega) [go_sem]
  try refine ⟨by kernel_rfl, ?_⟩
  refine callK_frz q2 [176] [(176, ⟨.ro, 110, 2, onV⟩)] (by simp [go_sem, hp]) (by simp [go_sem]) (by simp [go_sem]) (fun _ => ?_) (by simp [tabG, go_sem])
  simp (disch := omega) [go_sem]
  try refine ⟨by kernel_rfl, ?_⟩
  refine callK_data hr [] (by simp [go_sem]) (.inl rfl) hp (fun _ => ?_)
  simp (disch := omega) [go_sem]
  try refine ⟨by kernel_rfl, ?_⟩
  refine callK_frz q3 [176, 416] [(176, ⟨.ro, 110, 2, onV⟩), (416, ⟨.ro, 3, 1, [.int .i64 8, .int .i64 12]⟩)] (by simp [go_sem, hp]) (by simp [go_sem]) (by simp [go_sem]) (fun _ => ?_) (by simp [tabG, go_sem])
  simp (disch := omega) [go_sem]
  try refine ⟨by kernel_rfl, ?_⟩
  refine callK_data hr [] (by simp [go_sem]) (.inl rfl) hp (fun _ => ?_)
  simp (disch := omega) [go_sem]
  try refine ⟨by kernel_rfl, ?_⟩
  refine callK_frz q4 [176, 576, 592] [(176, ⟨.ro, 110, 2, onV⟩), (576, ⟨.ro, 41, 3, [.agg [.int .i64 1, .int .i64 0, .int .i64 0]]⟩), (592, ⟨.ro, 3, 1, [.int .i64 8, .int .i64 12]⟩)] (by simp [go_sem, hp]) (by simp [go_sem]) (by simp [go_sem]) (fun _ => ?_) (by simp [tabG, go_sem])
  simp (disch := omega) [go_sem]
  try refine ⟨by kernel_rfl, ?_⟩
  refine callK_data a1 [] (by simp [go_sem]) (.inl rfl) (by simp [go_sem]) (fun _ => ?_)
  simp (disch := omega) [go_sem]
  try refine ⟨by kernel_rfl, ?_⟩
  refine callK_data a2 [] (by simp [go_sem]) (.inl rfl) (by simp [go_sem]) (fun _ => ?_)
  simp (disch := omega) [go_sem]
  try refine ⟨by kernel_rfl, ?_⟩
  refine callK_data a3 [] (by simp [go_sem]) (.inl rfl) (by simp [go_sem]) (fun _ => ?_)
  simp (disch := omega) [go_sem]
  try refine ⟨by kernel_rfl, ?_⟩
  refine callK_data hr [] (by simp [go_sem]) (.inl rfl) hp (fun _ => ?_)
  simp (disch := omega) [go_sem]
  try refine ⟨by kernel_rfl, ?_⟩
  refine callK_frz q5 [224] [(224, ⟨.ro, 110, 2, offV⟩)] (by simp [go_sem, hp]) (by simp [go_sem]) (by simp [go_sem]) (fun _ => ?_) (by simp [tabG, go_sem])
  simp (disch := omega) [go_sem]
  try refine ⟨by kernel_rfl, ?_⟩
  refine callK_data hr [] (by simp [go_sem]) (.inl rfl) hp (fun _ => ?_)
  simp (disch := omega) [go_sem]
  try refine ⟨by kernel_rfl, ?_⟩
  refine callK_frz q6 [224, 1376] [(224, ⟨.ro, 110, 2, offV⟩), (1376, ⟨.ro, 3, 1, [.int .i64 8, .int .i64 12]⟩)] (by simp [go_sem, hp]) (by simp [go_sem]) (by simp [go_sem]) (fun _ => ?_) (by simp [tabG, go_sem])
  simp (disch := omega) [go_sem]
  try refine ⟨by kernel_rfl, ?_⟩
  refine callK_data hr [] (by simp [go_sem]) (.inl rfl) hp (fun _ => ?_)
  simp (disch := omega) [go_sem]
  try refine ⟨by kernel_rfl, ?_⟩
  refine callK_frz q7 [224, 1536, 1552] [(224, ⟨.ro, 110, 2, offV⟩), (1536, ⟨.ro, 41, 3, [.agg [.int .i64 1, .int .i64 0, .int .i64 0]]⟩), (1552, ⟨.ro, 3, 1, [.int .i64 8, .int .i64 12]⟩)] (by simp [go_sem, hp]) (by simp [go_sem]) (by simp [go_sem]) (fun _ => ?_) (by simp [tabG, go_sem])
  simp (disch := omega) [go_sem]
  try refine ⟨by kernel_rfl, ?_⟩
  refine callK_data a4 [] (by simp [go_sem]) (.inl rfl) (by simp [go_sem]) (fun _ => ?_)
  simp (disch := omega) [go_sem]
  try refine ⟨by kernel_rfl, ?_⟩
  refine callK_data a5 [] (by simp [go_sem]) (.inl rfl) (by simp [go_sem]) (fun _ => ?_)
  simp (disch := omega) [go_sem]
  try refine ⟨by kernel_rfl, ?_⟩
  refine callK_data a1 [] (by simp [go_sem]) (.inl rfl) (by simp [go_sem]) (fun _ => ?_)
  simp (disch := omega) [go_sem]
  try refine ⟨by kernel_rfl, ?_⟩
  refine callK_data hr [] (by simp [go_sem]) (.inl rfl) hp (fun _ => ?_)
  simp (disch := omega) [go_sem]
  try refine ⟨by kernel_rfl, ?_⟩
  refine callK_data q8 [] (by simp [go_sem, hp]) (.inl rfl) (by simp [go_sem]) (fun _ => ?_) (by simp [tabG, go_sem])
  simp (disch := omega) [go_sem]
  try refine ⟨by kernel_rfl, ?_⟩
  refine callK_data hr [] (by simp [go_sem]) (.inl rfl) hp (fun _ => ?_)
  simp (disch := omega) [go_sem]
  try refine ⟨by kernel_rfl, ?_⟩
  refine callK_frz q9 [176, 2176] [(176, ⟨.ro, 110, 2, onV⟩), (2176, ⟨.ro, 3, 1, [.int .i64 8, .int .i64 9]⟩)] (by simp [go_sem, hp]) (by simp [go_sem]) (by simp [go_sem]) (fun _ => ?_) (by simp [tabG, go_sem])
  simp (disch := omega) [go_sem]
  try refine ⟨by kernel_rfl, ?_⟩
  refine callK_data hr [] (by simp [go_sem]) (.inl rfl) hp (fun _ => ?_)
  simp (disch := omega) [go_sem]
  try refine ⟨by kernel_rfl, ?_⟩
  refine callK_frz q10 [176, 2336, 2352] [(176, ⟨.ro, 110, 2, onV⟩), (2336, ⟨.ro, 41, 3, [.agg [.int .i64 2, .int .i64 0, .int .i64 0]]⟩), (2352, ⟨.ro, 3, 1, [.int .i64 8, .int .i64 12]⟩)] (by simp [go_sem, hp]) (by simp [go_sem]) (by simp [go_sem]) (fun _ => ?_) (by simp [tabG, go_sem])
  simp (disch := omega) [go_sem]
  try refine ⟨by kernel_rfl, ?_⟩
  refine callK_data hr [] (by simp [go_sem]) (.inl rfl) hp (fun _ => ?_)
  simp (disch := omega) [go_sem]
  try refine ⟨by kernel_rfl, ?_⟩
  refine callK_data q11 [] (by simp [go_sem, hp]) (.inl rfl) (by simp [go_sem]) (fun _ => ?_) (by simp [tabG, go_sem])
  simp (disch := omega) [go_sem]
  try refine ⟨by kernel_rfl, ?_⟩
  refine callK_data alive28_spec [] (by simp [go_sem]) (.inl rfl) (by simp [go_sem]) (fun _ => ?_) (by simp [tabG, go_sem])
  simp (disch := omega) [go_sem]
end Go.Proofs.YtiibccoaopjoiaaDoor
