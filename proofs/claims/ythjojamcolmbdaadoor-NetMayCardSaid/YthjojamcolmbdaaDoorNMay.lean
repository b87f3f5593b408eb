/- NetMay: regions are held to what they may be, and asked. -/
import Derived.Test.YthjojamcolmbdaaDoorNTwin
set_option linter.unusedSimpArgs false
set_option linter.unusedVariables false
namespace Go.Proofs.YthjojamcolmbdaaDoor
open Go.AM Go.RowKit
set_option maxRecDepth 100000

set_option maxHeartbeats 4000000 in
theorem nmay_spec (n : NetN) (x : Int) : FnD Tryd.prog 7 [netV n, .int .i64 x] (.bool true) tabG := by
  have hp1 := sits_pure n.sites
  have hp2 := subs_pure n.subs
  have hp3 := weds_pure n.weds
  have q1 := greatN_spec n
  have q2 := fun h => ntwin_spec n h
  have q3 := r6check_spec n
  have q4 := ncheck_spec n
  have q5 := nsub_spec n x
  have q6 := nsite_spec n x
  have q7 := cycles_spec n
  have q8 := rsub_spec n x
  have q9 := rsite_spec n x
  have q10 := fun h => rcycles_spec n h
  have q11 := rsame_spec (allCyc n)
  have q12 := rnsame_spec n
  have hb1 : -1 ≤ subN n x := (findA_bound _ _).1
  have hb2 : -1 ≤ placeS n x := (findA_bound _ _).1
  generalize subN n x = r at *
  generalize placeS n x = p at *
  have hnv : netV n = .agg [.sl 12 (n.sites.map sitV), .sl 2 (n.subs.map subV), .sl 4 (n.weds.map wedV), .int .i64 n.low, .int .i64 n.high, .int .i64 n.step] := rfl
  rw [hnv] at q1 q2 q3 q4 q5 q6 q7 q8 q9 q10 q12 ⊢
  refine fnD_of mixed Tryd.func7 rfl rfl (by simp [Tryd.ntmps7]) fun hwf E => ?_
  clear hwf
  simp (disch := omega) [Tryd.ntmps7, go_sem]
  refine callK_bool q1 [] (by simp [go_sem, hp1, hp2, hp3]) (fun h1 => ?_) (fun h1 => ?_)
  · simp (disch := omega) [go_sem]
  · simp (disch := omega) [go_sem]
    refine callK_data (q2 h1) [] (by simp [go_sem, hp1, hp2, hp3]) (.inl rfl) (by simp [go_sem, hp1, hp2, hp3]) (fun hw => ?_)
    clear hw
    simp (disch := omega) [go_sem]
    refine callK_data q3 [] (by simp [go_sem, hp1, hp2, hp3]) (.inl rfl) (by simp [go_sem]) (fun hw => ?_)
    clear hw
    simp (disch := omega) [go_sem]
    refine callK_data q4 [] (by simp [go_sem, hp1, hp2, hp3]) (.inl rfl) (by simp [go_sem]) (fun hw => ?_) (by simp [tabG, go_sem])
    clear hw
    simp (disch := omega) [go_sem]
    refine callK_data q5 [] (by simp [go_sem, hp1, hp2, hp3]) (.inl rfl) (by simp [go_sem]) (fun hw => ?_) (by simp [tabG, go_sem])
    clear hw
    simp (disch := omega) [go_sem]
    refine callK_data q6 [] (by simp [go_sem, hp1, hp2, hp3]) (.inl rfl) (by simp [go_sem]) (fun hw => ?_) (by simp [tabG, go_sem])
    clear hw
    simp (disch := omega) [go_sem]
    refine callK_data q7 [] (by simp [go_sem, hp1, hp2, hp3]) (.inl rfl) (by simp [go_sem, ints_pure]) (fun hw => ?_) (by simp [tabG, go_sem])
    simp (disch := omega) [go_sem, ints_len] at hw
    by_cases hOk : NetOk n
    · rw [netN_ok hOk]
      simp (disch := omega) [go_sem, hOk]
      refine callK_data q8 [] (by simp [go_sem, hp1, hp2, hp3]) (.inl rfl) (by simp [go_sem]) (fun hw => ?_)
      simp (disch := omega) [go_sem, hOk]
      refine callK_data q9 [] (by simp [go_sem, hp1, hp2, hp3]) (.inl rfl) (by simp [go_sem]) (fun hw => ?_)
      simp (disch := omega) [go_sem, hOk]
      refine ⟨by kernel_rfl, ?_⟩
      by_cases e1 : 0 ≤ r
      · have e1' : ¬ r < 0 := by omega
        by_cases e2 : 0 ≤ p
        · have e2' : ¬ p < 0 := by omega
          simp (disch := omega) [go_sem, hOk, ints_len, e1, e2, e1', e2']
          refine callK_data (q10 hOk) [] (by simp [go_sem, hp1, hp2, hp3]) (.inl rfl) (by simp [go_sem, ints_pure]) (fun hw => ?_)
          simp (disch := omega) [go_sem, hOk, ints_len, e1, e2, e1', e2']
          refine callK_data q11 [] (by simp [go_sem, ints_pure]) (.inl rfl) (by simp [go_sem]) (fun hw => ?_)
          simp (disch := omega) [go_sem, hOk, ints_len, e1, e2, e1', e2']
          refine callK_data q12 [] (by simp [go_sem, hp1, hp2, hp3]) (.inl rfl) (by simp [go_sem]) (fun hw => ?_)
          simp (disch := omega) [go_sem, hOk, ints_len, e1, e2, e1', e2']
        · obtain rfl : p = -1 := by omega
          simp (disch := omega) [go_sem, hOk, ints_len, e1, e1']
          refine callK_data (q10 hOk) [] (by simp [go_sem, hp1, hp2, hp3]) (.inl rfl) (by simp [go_sem, ints_pure]) (fun hw => ?_)
          simp (disch := omega) [go_sem, hOk, ints_len, e1, e1']
          refine callK_data q11 [] (by simp [go_sem, ints_pure]) (.inl rfl) (by simp [go_sem]) (fun hw => ?_)
          simp (disch := omega) [go_sem, hOk, ints_len, e1, e1']
          refine callK_data q12 [] (by simp [go_sem, hp1, hp2, hp3]) (.inl rfl) (by simp [go_sem]) (fun hw => ?_)
          simp (disch := omega) [go_sem, hOk, ints_len, e1, e1']
      · obtain rfl : r = -1 := by omega
        by_cases e2 : 0 ≤ p
        · have e2' : ¬ p < 0 := by omega
          simp (disch := omega) [go_sem, hOk, ints_len, e2, e2']
          refine callK_data (q10 hOk) [] (by simp [go_sem, hp1, hp2, hp3]) (.inl rfl) (by simp [go_sem, ints_pure]) (fun hw => ?_)
          simp (disch := omega) [go_sem, hOk, ints_len, e2, e2']
          refine callK_data q11 [] (by simp [go_sem, ints_pure]) (.inl rfl) (by simp [go_sem]) (fun hw => ?_)
          simp (disch := omega) [go_sem, hOk, ints_len, e2, e2']
          refine callK_data q12 [] (by simp [go_sem, hp1, hp2, hp3]) (.inl rfl) (by simp [go_sem]) (fun hw => ?_)
          simp (disch := omega) [go_sem, hOk, ints_len, e2, e2']
        · obtain rfl : p = -1 := by omega
          simp (disch := omega) [go_sem, hOk, ints_len]
          refine callK_data (q10 hOk) [] (by simp [go_sem, hp1, hp2, hp3]) (.inl rfl) (by simp [go_sem, ints_pure]) (fun hw => ?_)
          simp (disch := omega) [go_sem, hOk, ints_len]
          refine callK_data q11 [] (by simp [go_sem, ints_pure]) (.inl rfl) (by simp [go_sem]) (fun hw => ?_)
          simp (disch := omega) [go_sem, hOk, ints_len]
          refine callK_data q12 [] (by simp [go_sem, hp1, hp2, hp3]) (.inl rfl) (by simp [go_sem]) (fun hw => ?_)
          simp (disch := omega) [go_sem, hOk, ints_len]
    · rw [netN_bad hOk, allCyc_bad hOk]
      simp (disch := omega) [go_sem, hOk, ints]
end Go.Proofs.YthjojamcolmbdaaDoor
