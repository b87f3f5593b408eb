
/- split.Next: a site's plan a vote later. -/
import Derived.Test.YtdeionjkcmpnpaaDoorCyc
import Derived.Test.YtdeionjkcmpnpaaDoorWish26b
set_option linter.unusedSimpArgs false
set_option linter.unusedVariables false
namespace Go.Proofs.YtdeionjkcmpnpaaDoor
open Go.AM Go.RowKit
set_option maxRecDepth 100000

noncomputable def snextN (s : Sit) (v x y c : Int) (l : List Int) : (Int × Int × Int) × Int :=
  if wish26E s v x y c l = 0 then tallyN v x y (wish26V s v x y c l) 3 else ((0, 0, 0), wish26E s v x y c l)
set_option maxHeartbeats 1000000 in
theorem snext_spec (s : Sit) (v x y c : Int) (l : List Int) :
    FnD Tryd.prog 15 [sitV s, voteV (v, x, y), .int .i64 c, .sl 1 (ints l)] (voteE (snextN s v x y c l)) tabG := by
  have hpu := (⟨grps_pure s.groups, phas_pure s.phases, eyes_pure s.eyes, plns_pure s.plans, sets_pure s.apart, rows_pure s.between⟩ : _ ∧ _ ∧ _ ∧ _ ∧ _ ∧ _)
  obtain ⟨hp1, hp2, hp3, hp4, hp5, hp6⟩ := hpu
  have hil := ints_pure l
  have qw := Wish_spec s v x y c l
  have qt := tally_spec v x y (wish26V s v x y c l) 3
  have hsv : sitV s = .agg [.int .i64 s.id, .sl 3 (s.groups.map grpV), .sl 1 (sets s.apart), .sl 1 (rows s.between), .sl 5 (s.phases.map phaV), .sl 4 (s.eyes.map eyeV), .int .i64 s.watch, .int .i64 s.feed, .int .i64 s.heal, .int .i64 s.low, .int .i64 s.high, .sl 3 (s.plans.map plnV)] := rfl
  unfold snextN
  generalize wish26V s v x y c l = w at *
  generalize wish26E s v x y c l = e at *
  generalize tallyN v x y w 3 = t at *
  obtain ⟨⟨t1, t2, t3⟩, t4⟩ := t
  unfold voteV at qt ⊢
  rw [hsv] at qw ⊢
  refine fnD_of mixed Tryd.func15 rfl rfl (by simp [Tryd.ntmps15]) fun hwf E => ?_
  clear hwf
  simp (disch := omega) [Tryd.ntmps15, go_sem]
  refine callK_data qw [] (by simp [go_sem, hp1, hp2, hp3, hp4, hp5, hp6, hil]) (.inl rfl) (by simp [go_sem]) (fun _ => ?_) (by simp [tabG, go_sem])
  simp (disch := omega) [go_sem]
  refine br_of (fun h => ?_) (fun h => ?_) <;> simp at h
  · rw [if_neg h]
    simp (disch := omega) [go_sem, voteE, voteV]
  · rw [if_pos h]
    simp (disch := omega) [go_sem]
    refine callK_data qt [] (by simp [go_sem]) (.inl rfl) (by simp [go_sem, voteE, voteV]) (fun _ => ?_)
    simp (disch := omega) [go_sem, voteE, voteV]
end Go.Proofs.YtdeionjkcmpnpaaDoor
