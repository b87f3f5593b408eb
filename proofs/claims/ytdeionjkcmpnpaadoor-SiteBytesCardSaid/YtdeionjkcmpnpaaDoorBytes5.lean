
/- SiteBytes: the law. -/
import Derived.Test.YtdeionjkcmpnpaaDoorRw5
import Derived.Test.YtdeionjkcmpnpaaDoorGreat
import Derived.Test.YtdeionjkcmpnpaaDoorTwin2
set_option linter.unusedSimpArgs false
set_option linter.unusedVariables false
namespace Go.Proofs.YtdeionjkcmpnpaaDoor
open Go.AM Go.RowKit
set_option maxRecDepth 100000

set_option maxHeartbeats 4000000 in
theorem sbytes_spec (s : Sit) (l : List Pln) (b : List UInt8) : FnD Tryd.prog 4 [sitV s, .sl 3 (l.map plnV), .sl 1 (bts b)] (.bool true) tabG := by
  have hsv : ∀ s, sitV s = .agg [.int .i64 s.id, .sl 3 (s.groups.map grpV), .sl 1 (sets s.apart), .sl 1 (rows s.between), .sl 5 (s.phases.map phaV), .sl 4 (s.eyes.map eyeV), .int .i64 s.watch, .int .i64 s.feed, .int .i64 s.heal, .int .i64 s.low, .int .i64 s.high, .sl 3 (s.plans.map plnV)] := fun _ => rfl
  have q1 := greatS_spec s
  have q2 := greatS_spec ⟨0, [], [], [], [], [], 0, 0, 0, 0, 0, l⟩
  have q3 := twin_spec s
  have q4 := write_spec s
  have q5 := r5write_spec s
  have q6 := sread_spec b
  have q7 := r5read_spec b
  have q8 := fun (h : greatS ⟨0, [], [], [], [], [], 0, 0, 0, 0, 0, l⟩ = false) => twinplans_spec l (greatS_lens h).1.2.2.2.2.2 (greatS_lens h).2.2
  have q9 := whole_spec l
  have q10 := r5whole_spec l
  have q11 := sparts_spec b
  have q12 := r5parts_spec b
  have q13 := rsames_spec (readS b)
  have q14 := rsameplans_spec (partsV b)
  have q15 := rsames_spec s
  rw [hsv] at q1 q2 q3 q4 q5 q6 q7 q13 q15 ⊢
  generalize readS b = t at *
  generalize readE b = te at *
  generalize partsV b = u at *
  generalize partsE b = ue at *
  generalize writeV s = wv at *
  generalize checkN s = we at *
  generalize wholeB l = xv at *
  generalize wholeE l = xe at *
  generalize greatS s = g1 at *
  generalize greatS ⟨0, [], [], [], [], [], 0, 0, 0, 0, 0, l⟩ = g2 at *
  have hs0 : sets [] = [] := rfl
  have hr0 : rows [] = [] := rfl
  refine fnD_of mixed Tryd.func4 rfl rfl (by simp [Tryd.ntmps4]) fun hwf E => ?_
  simp (disch := omega) [go_sem, bytesV_bts, strV, baList, hs0, hr0] at hwf
  simp (disch := omega) [Tryd.ntmps4, go_sem, bytesV_bts, strV, baList, hs0, hr0]
  refine callK_bool q1 [] (by simp [go_sem, bytesV_bts, strV, baList, hs0, hr0]) (fun h1 => ?_) (fun h1 => ?_) <;> try simp [inN] at h1
  · simp (disch := omega) [go_sem, bytesV_bts, strV, baList, hs0, hr0]
  · simp (disch := omega) [go_sem, bytesV_bts, strV, baList, hs0, hr0]
    refine callK_bool q2 [] (by simp [go_sem, bytesV_bts, strV, baList, hs0, hr0]) (fun h2 => ?_) (fun h2 => ?_) <;> try simp [inN] at h2
    · simp (disch := omega) [go_sem, bytesV_bts, strV, baList, hs0, hr0]
    · simp (disch := omega) [go_sem, bytesV_bts, strV, baList, hs0, hr0]
      refine br_of (fun h3 => ?_) (fun h3 => ?_) <;> simp at h3
      · simp (disch := omega) [go_sem, bytesV_bts, strV, baList, hs0, hr0]
      · have q3 := q3 h1
        have q8 := q8 h2
        simp (disch := omega) [go_sem, bytesV_bts, strV, baList, hs0, hr0]
        refine callK_data q3 [] (by simp [go_sem, bytesV_bts, strV, baList, hs0, hr0]) (.inl rfl) (by simp [go_sem, bytesV_bts, strV, baList, hs0, hr0]) (fun _ => ?_)
        simp (disch := omega) [go_sem, bytesV_bts, strV, baList, hs0, hr0]
        refine ⟨by omega, ?_⟩
        refine callK_data q4 [] (by simp [go_sem, bytesV_bts, strV, baList, hs0, hr0]) (.inl rfl) (by simp [go_sem, bytesV_bts, strV, baList, hs0, hr0]) (fun _ => ?_) (by simp [tabG, go_sem])
        simp (disch := omega) [go_sem, bytesV_bts, strV, baList, hs0, hr0]
        refine callK_data q5 [] (by simp [go_sem, bytesV_bts, strV, baList, hs0, hr0]) (.inl rfl) (by simp [go_sem, bytesV_bts, strV, baList, hs0, hr0]) (fun _ => ?_)
        simp (disch := omega) [go_sem, bytesV_bts, strV, baList, hs0, hr0]
        refine callK_frz q6 [304] [(304, ⟨.ro, 5, 1, bts b⟩)] (by simp [go_sem, bytesV_bts, strV, baList, hs0, hr0]) (by simp [go_sem, bytesV_bts, strV, baList, hs0, hr0]) (by simp [go_sem, bytesV_bts, strV, baList, hs0, hr0]) (fun _ => ?_) (by simp [tabG, go_sem])
        simp (disch := omega) [go_sem, bytesV_bts, strV, baList, hs0, hr0]
        refine callK_data q7 [] (by simp [go_sem, bytesV_bts, strV, baList, hs0, hr0]) (.inl rfl) (by simp [go_sem, bytesV_bts, strV, baList, hs0, hr0]) (fun _ => ?_)
        simp (disch := omega) [go_sem, bytesV_bts, strV, baList, hs0, hr0]
        refine callK_data q8 [] (by simp [go_sem, bytesV_bts, strV, baList, hs0, hr0]) (.inl rfl) (by simp [go_sem, bytesV_bts, strV, baList, hs0, hr0]) (fun _ => ?_)
        simp (disch := omega) [go_sem, bytesV_bts, strV, baList, hs0, hr0]
        refine callK_data q9 [] (by simp [go_sem, bytesV_bts, strV, baList, hs0, hr0]) (.inl rfl) (by simp [go_sem, bytesV_bts, strV, baList, hs0, hr0]) (fun _ => ?_)
        simp (disch := omega) [go_sem, bytesV_bts, strV, baList, hs0, hr0]
        refine callK_data q10 [] (by simp [go_sem, bytesV_bts, strV, baList, hs0, hr0]) (.inl rfl) (by simp [go_sem, bytesV_bts, strV, baList, hs0, hr0]) (fun _ => ?_)
        simp (disch := omega) [go_sem, bytesV_bts, strV, baList, hs0, hr0]
        refine callK_frz q11 [304] [] (by simp [go_sem, bytesV_bts, strV, baList, hs0, hr0]) (by simp [go_sem, bytesV_bts, strV, baList, hs0, hr0]) (by simp [go_sem, bytesV_bts, strV, baList, hs0, hr0]) (fun _ => ?_)
        simp (disch := omega) [go_sem, bytesV_bts, strV, baList, hs0, hr0]
        refine callK_data q12 [] (by simp [go_sem, bytesV_bts, strV, baList, hs0, hr0]) (.inl rfl) (by simp [go_sem, bytesV_bts, strV, baList, hs0, hr0]) (fun _ => ?_)
        simp (disch := omega) [go_sem, bytesV_bts, strV, baList, hs0, hr0]
        refine callK_data q13 [] (by simp [go_sem, bytesV_bts, strV, baList, hs0, hr0]) (.inl rfl) (by simp [go_sem, bytesV_bts, strV, baList, hs0, hr0]) (fun _ => ?_)
        simp (disch := omega) [go_sem, bytesV_bts, strV, baList, hs0, hr0]
        refine callK_data q14 [] (by simp [go_sem, bytesV_bts, strV, baList, hs0, hr0]) (.inl rfl) (by simp [go_sem, bytesV_bts, strV, baList, hs0, hr0]) (fun _ => ?_)
        simp (disch := omega) [go_sem, bytesV_bts, strV, baList, hs0, hr0]
        refine callK_data q15 [] (by simp [go_sem, bytesV_bts, strV, baList, hs0, hr0]) (.inl rfl) (by simp [go_sem, bytesV_bts, strV, baList, hs0, hr0]) (fun _ => ?_)
        simp (disch := omega) [go_sem, bytesV_bts, strV, baList, hs0, hr0]
end Go.Proofs.YtdeionjkcmpnpaaDoor
