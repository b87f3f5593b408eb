
/- The layer split: Scale. -/
import Derived.Test.YtdeionjkcmpnpaaDoorScale
set_option linter.unusedSimpArgs false
set_option linter.unusedVariables false
namespace Go.Proofs.YtdeionjkcmpnpaaDoor
open Go.AM Go.RowKit
set_option maxRecDepth 100000

def manyN (s : Sit) : Nat := if 1 < s.plans.length then s.plans.length else 1
theorem many_spec (s : Sit) : FnD Tryd.prog 48 [sitV s] (.int .i64 (manyN s)) := by
  unfold sitV
  refine fnD_of mixed Tryd.func48 rfl rfl (by simp [Tryd.ntmps48]) fun hwf E => ?_
  simp (disch := omega) [go_sem, sets_len, rows_len] at hwf
  simp (disch := omega) [Tryd.ntmps48, go_sem]
  unfold manyN
  split <;> split <;> omega
theorem span26_spec (x : Int) : FnD Tryd.prog 49 [.int .i64 x] (.bool (inN x 0 1048576)) := by
  refine fnD_of mixed Tryd.func49 rfl rfl (by simp [Tryd.ntmps49]) fun hwf E => ?_
  simp (disch := omega) [Tryd.ntmps49, go_sem, inN]

def scaleOk (s : Sit) (i c : Int) : Prop := (0 ≤ i ∧ i < manyN s) ∧ 0 ≤ c ∧ c ≤ 1048576
instance (s : Sit) (i c : Int) : Decidable (scaleOk s i c) := by unfold scaleOk; infer_instance
noncomputable def scaleV (s : Sit) (i c : Int) : Pln := if SiteOk s ∧ scaleOk s i c then scaleN s i.toNat c else ⟨0, 0, []⟩
noncomputable def scaleE (s : Sit) (i c : Int) : Int := if SiteOk s then (if scaleOk s i c then 0 else 2) else 50
set_option maxHeartbeats 1000000 in
theorem Scale_spec (s : Sit) (i c : Int) : FnD Tryd.prog 11 [sitV s, .int .i64 i, .int .i64 c] (.tup [plnV (scaleV s i c), .int .i64 (scaleE s i c)]) tabG := by
  have hpu := (⟨grps_pure s.groups, phas_pure s.phases, eyes_pure s.eyes, plns_pure s.plans, sets_pure s.apart, rows_pure s.between⟩ : _ ∧ _ ∧ _ ∧ _ ∧ _ ∧ _)
  obtain ⟨hp1, hp2, hp3, hp4, hp5, hp6⟩ := hpu
  have qc := check_spec s
  have qm := many_spec s
  have qs := fun (h : SiteOk s) (h1 : scaleOk s i c) => scale_spec s i.toNat c h (by unfold scaleOk manyN at h1; split at h1 <;> omega) h1.2
  have hsv : sitV s = .agg [.int .i64 s.id, .sl 3 (s.groups.map grpV), .sl 1 (sets s.apart), .sl 1 (rows s.between), .sl 5 (s.phases.map phaV), .sl 4 (s.eyes.map eyeV), .int .i64 s.watch, .int .i64 s.feed, .int .i64 s.heal, .int .i64 s.low, .int .i64 s.high, .sl 3 (s.plans.map plnV)] := rfl
  rw [hsv] at qc qm qs ⊢
  refine fnD_of mixed Tryd.func11 rfl rfl (by simp [Tryd.ntmps11]) fun hwf E => ?_
  simp (disch := omega) [go_sem, sets_len, rows_len] at hwf
  have hmn : manyN s ≤ 140737488355328 := by unfold manyN; split <;> omega
  simp (disch := omega) [Tryd.ntmps11, go_sem]
  refine callK_data qc [] (by simp [go_sem, hp1, hp2, hp3, hp4, hp5, hp6]) (.inl rfl) (by simp [go_sem]) (fun _ => ?_) (by simp [tabG, go_sem])
  by_cases hOk : SiteOk s
  · have e1 : scaleE s i c = if scaleOk s i c then 0 else 2 := by unfold scaleE; rw [if_pos hOk]
    rw [checkN_ok hOk, e1]
    by_cases h0 : i < 0
    · have hb : ¬ scaleOk s i c := fun e => by have := e.1.1; omega
      have e2 : scaleV s i c = ⟨0, 0, []⟩ := by unfold scaleV; rw [if_neg (fun e => hb e.2)]
      rw [e2, if_neg hb]
      simp (disch := omega) [go_sem, h0, plnV, ints]
    · simp (disch := omega) [go_sem, h0]
      refine callK_data qm [] (by simp [go_sem, hp1, hp2, hp3, hp4, hp5, hp6]) (.inl rfl) (by simp [go_sem]) (fun _ => ?_)
      by_cases h1 : (manyN s : Int) ≤ i
      · have hb : ¬ scaleOk s i c := fun e => by have := e.1.2; omega
        have e2 : scaleV s i c = ⟨0, 0, []⟩ := by unfold scaleV; rw [if_neg (fun e => hb e.2)]
        rw [e2, if_neg hb]
        simp (disch := omega) [go_sem, h0, h1, plnV, ints]
      · simp (disch := omega) [go_sem, h0, h1]
        refine callK_data (span26_spec c) [] (by simp [go_sem]) (.inl rfl) (by simp [go_sem]) (fun _ => ?_)
        by_cases h2 : inN c 0 1048576 = true
        · have hb : scaleOk s i c := ⟨by omega, by simpa [inN] using h2⟩
          have e2 : scaleV s i c = scaleN s i.toNat c := by unfold scaleV; rw [if_pos ⟨hOk, hb⟩]
          rw [e2, if_pos hb]
          have q := qs hOk hb
          rw [show ((i.toNat : Nat) : Int) = i by omega] at q
          simp (disch := omega) [go_sem, h0, h1, h2]
          refine callK_data q [] (by simp [go_sem, hp1, hp2, hp3, hp4, hp5, hp6]) (.inl rfl) (by simp [go_sem, plnV, ints_pure]) (fun _ => ?_) (by simp [tabG, go_sem])
          simp (disch := omega) [go_sem, plnV, ints_len]
        · have hb : ¬ scaleOk s i c := fun e => h2 (by simpa [inN] using e.2)
          have e2 : scaleV s i c = ⟨0, 0, []⟩ := by unfold scaleV; rw [if_neg (fun e => hb e.2)]
          rw [e2, if_neg hb]
          simp (disch := omega) [go_sem, h0, h1, h2, plnV, ints]
  · have e1 : scaleE s i c = 50 := by unfold scaleE; rw [if_neg hOk]
    have e2 : scaleV s i c = ⟨0, 0, []⟩ := by unfold scaleV; rw [if_neg (fun e => hOk e.1)]
    rw [checkN_bad hOk, e1, e2]
    simp (disch := omega) [go_sem, plnV, ints]
end Go.Proofs.YtdeionjkcmpnpaaDoor
