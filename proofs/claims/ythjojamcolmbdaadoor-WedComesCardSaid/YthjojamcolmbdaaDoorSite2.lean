/- The layer site: eyes. -/
import Derived.Test.YthjojamcolmbdaaDoorSite
namespace Go.Proofs.YthjojamcolmbdaaDoor
open Go.AM Go.RowKit
set_option maxRecDepth 100000

theorem pures_map {α : Type} (f : α → V) (h : ∀ x, (f x).pure) : ∀ (l : List α), pures (l.map f)
  | [] => by simp [pures]
  | x :: l => by simp only [List.map_cons, pures]; exact ⟨h x, pures_map f h l⟩
theorem grps_pure (l : List Grp) : pures (l.map grpV) := pures_map _ (fun g => by simp [grpV, go_sem]) l
theorem phas_pure (l : List Pha) : pures (l.map phaV) := pures_map _ (fun g => by simp [phaV, go_sem]) l
theorem eyes_pure (l : List Eye) : pures (l.map eyeV) := pures_map _ (fun g => by simp [eyeV, go_sem]) l
theorem plns_pure (l : List Pln) : pures (l.map plnV) := pures_map _ (fun g => by simp [plnV, go_sem, ints_pure]) l
theorem sets_pure (l : List Nat) : pures (sets l) := pures_map _ (fun g => by simp [go_sem]) l
theorem rows_pure (l : List (List Int)) : pures (rows l) := pures_map _ (fun g => by simp [go_sem, ints_pure]) l

def eyeOk (n : Nat) (e : Eye) : Bool := inN e.phase 0 ((n : Int) - 1) && (inN e.on 1 1048576 && inN e.off 1 1048576) && inN e.turns 1 64
theorem eyed_spec (s : Sit) : FnD Tryd.prog 73 [sitV s] (.bool (s.eyes.all (eyeOk s.phases.length))) := by
  have hpu := (⟨grps_pure s.groups, phas_pure s.phases, eyes_pure s.eyes, plns_pure s.plans, sets_pure s.apart, rows_pure s.between⟩ : _ ∧ _ ∧ _ ∧ _ ∧ _ ∧ _)
  obtain ⟨hp1, hp2, hp3, hp4, hp5, hp6⟩ := hpu
  unfold sitV
  refine fnD_of mixed Tryd.func73 rfl rfl (by simp [Tryd.ntmps73]) fun hwf E => ?_
  simp (disch := omega) [go_sem] at hwf
  simp (disch := omega) [Tryd.ntmps73, go_sem]
  refine awz_loop mixed (fun k : Nat => ⟨[(8, .int .i64 k), (7, .int .i64 s.eyes.length), (6, .sl 4 (s.eyes.map eyeV)), (1, .ptr 0 1 0 0), (2, .bool false)], [(0, ⟨.box, 29, 12, [sitV s]⟩)], 1024, [], 36, 0, []⟩)
    (fun k => k ≤ s.eyes.length ∧ ∀ j (h : j < s.eyes.length), j < k → eyeOk s.phases.length s.eyes[j] = true) (fun k => s.eyes.length - k) 0 (by simp) ?_ ?_
  · refine Le.mk [(0, some 0)] [0] ⟨rfl, rfl, rfl⟩ ?_ ?_ ?_ <;> simp [go_sem, sitV, hp1, hp2, hp3, hp4, hp5, hp6]
  · rintro k ⟨hk, hno⟩
    simp (disch := omega) [go_sem, sitV]
    refine br_of (fun h => ?_) (fun h => ?_) <;> simp at h
    · have he : nth (s.eyes.map eyeV) k = eyeV s.eyes[k] := nth_map h
      simp (disch := omega) [go_sem, h, he, eyeV, sitV]
      have hn : (inN s.eyes[k].phase 0 ((s.phases.length : Int) - 1) && (inN s.eyes[k].on 1 1048576 && inN s.eyes[k].off 1 1048576) && inN s.eyes[k].turns 1 64) = eyeOk s.phases.length s.eyes[k] := rfl
      refine callK_bool (in_spec s.eyes[k].phase 0 ((s.phases.length : Int) - 1)) [] (by simp [go_sem]) (fun h1 => ?_) (fun h1 => ?_)
      · simp (disch := omega) [go_sem]
        refine callK_bool (ticks_spec [s.eyes[k].on, s.eyes[k].off]) [1312] (by simp [go_sem, ints]) (fun h2 => ?_) (fun h2 => ?_)
        · simp at h2
          simp (disch := omega) [go_sem]
          refine callK_bool (in_spec s.eyes[k].turns 1 64) [] (by simp [go_sem]) (fun h3 => ?_) (fun h3 => ?_)
          · simp (disch := omega) [go_sem]
            refine round_of (k + 1) ⟨by omega, fun j h4 hj => ?_⟩ (by omega) (Le.mk [(0, some 0)] [0] ⟨rfl, rfl, rfl⟩ ?_ ?_ ?_)
            · by_cases e : j = k
              · subst e; rw [← hn]; simp [h1, h2, h3]
              · exact hno j h4 (by omega)
            all_goals simp [go_sem, sitV, hp1, hp2, hp3, hp4, hp5, hp6]
          · simp (disch := omega) [go_sem]
            exact ⟨s.eyes[k], List.getElem_mem h, by rw [← hn]; simp [h3]⟩
        · simp (disch := omega) [go_sem]
          exact ⟨s.eyes[k], List.getElem_mem h, by rw [← hn]; simp at h2; simp; intro _ a b; exact absurd b (by simp [h2 a])⟩
      · simp (disch := omega) [go_sem]
        exact ⟨s.eyes[k], List.getElem_mem h, by rw [← hn]; simp [h1]⟩
    · simp (disch := omega) [go_sem]
      intro x hx
      obtain ⟨j, hj, rfl⟩ := List.getElem_of_mem hx
      exact hno j hj (by omega)
end Go.Proofs.YthjojamcolmbdaaDoor
