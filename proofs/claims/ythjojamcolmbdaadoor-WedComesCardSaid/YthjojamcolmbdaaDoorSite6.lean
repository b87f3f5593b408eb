/- The layer site: plans and times. -/
import Derived.Test.YthjojamcolmbdaaDoorSite5
namespace Go.Proofs.YthjojamcolmbdaaDoor
open Go.AM Go.RowKit
set_option maxRecDepth 100000

theorem planned_spec (s : Sit) (hS : Shaped s) (hN : NeedsOk s) (hL : 0 ≤ s.low ∧ s.high ≤ 1048576) : FnD Tryd.prog 75 [sitV s] (.bool (s.plans.all fun p => decide (Fits s p))) tabG := by
  have hpu := (⟨grps_pure s.groups, phas_pure s.phases, eyes_pure s.eyes, plns_pure s.plans, sets_pure s.apart, rows_pure s.between⟩ : _ ∧ _ ∧ _ ∧ _ ∧ _ ∧ _)
  obtain ⟨hp1, hp2, hp3, hp4, hp5, hp6⟩ := hpu
  have hf := fun p => fits_spec s p hS hN hL
  have hsv : sitV s = .agg [.int .i64 s.id, .sl 3 (s.groups.map grpV), .sl 1 (sets s.apart), .sl 1 (rows s.between), .sl 5 (s.phases.map phaV), .sl 4 (s.eyes.map eyeV), .int .i64 s.watch, .int .i64 s.feed, .int .i64 s.heal, .int .i64 s.low, .int .i64 s.high, .sl 3 (s.plans.map plnV)] := rfl
  rw [hsv] at hf ⊢
  refine fnD_of mixed Tryd.func75 rfl rfl (by simp [Tryd.ntmps75]) fun hwf E => ?_
  simp (disch := omega) [go_sem] at hwf
  simp (disch := omega) [Tryd.ntmps75, go_sem]
  refine awz_loop mixed (fun k : Nat => ⟨[(8, .int .i64 k), (7, .int .i64 s.plans.length), (6, .sl 3 (s.plans.map plnV)), (1, .ptr 0 1 0 0), (2, .bool false)], [(0, ⟨.box, 29, 12, [sitV s]⟩)], 1024, [], 17, 0, tabG⟩)
    (fun k => k ≤ s.plans.length ∧ ∀ j (h : j < s.plans.length), j < k → Fits s s.plans[j]) (fun k => s.plans.length - k) 0 (by simp) ?_ ?_
  · refine Le.mk [(0, some 0)] [0] ⟨rfl, rfl, rfl⟩ ?_ ?_ ?_ <;> simp [go_sem, sitV, hp1, hp2, hp3, hp4, hp5, hp6]
  · rintro k ⟨hk, hno⟩
    simp (disch := omega) [go_sem, sitV]
    refine br_of (fun h => ?_) (fun h => ?_) <;> simp at h
    · have he : nth (s.plans.map plnV) k = plnV s.plans[k] := nth_map h
      simp (disch := omega) [go_sem, h, he, plnV, sitV]
      refine callK_bool (hf s.plans[k]) [] (by simp [go_sem, plnV, hp1, hp2, hp3, hp4, hp5, hp6, ints_pure]) (fun h1 => ?_) (fun h1 => ?_) (by simp [tabG, go_sem])
      · simp at h1
        simp (disch := omega) [go_sem]
        refine round_of (k + 1) ⟨by omega, fun j h4 hj => ?_⟩ (by omega) (Le.mk [(0, some 0)] [0] ⟨rfl, rfl, rfl⟩ ?_ ?_ ?_)
        · by_cases e : j = k
          · subst e; exact h1
          · exact hno j h4 (by omega)
        all_goals simp [go_sem, sitV, hp1, hp2, hp3, hp4, hp5, hp6]
      · simp at h1
        simp (disch := omega) [go_sem]
        exact ⟨s.plans[k], List.getElem_mem h, h1⟩
    · simp (disch := omega) [go_sem]
      intro x hx
      obtain ⟨j, hj, rfl⟩ := List.getElem_of_mem hx
      exact hno j hj (by omega)

def roundK (s : Sit) (k : Nat) : Int := ((List.range k).map (needsN s)).sum
theorem roundK_succ (s : Sit) (k : Nat) : roundK s (k + 1) = roundK s k + needsN s k := by
  unfold roundK
  rw [List.range_succ, List.map_append, List.sum_append]; simp
theorem roundK_bound (s : Sit) (hN : NeedsOk s) : ∀ k, k ≤ s.phases.length → 0 ≤ roundK s k ∧ roundK s k ≤ 4294967296 * k
  | 0, _ => by simp [roundK]
  | k + 1, h => by
    have := roundK_bound s hN k (by omega)
    have := hN k (by omega)
    rw [roundK_succ]; omega
def timedN (s : Sit) : Bool := [s.watch, s.feed, s.heal, s.low, s.high].all (fun x => inN x 1 1048576) && decide (roundK s s.phases.length ≤ s.low) && decide (s.low ≤ s.high)
theorem timed_spec (s : Sit) (hS : Shaped s) (hN : NeedsOk s) : FnD Tryd.prog 74 [sitV s] (.bool (timedN s)) tabG := by
  have hpu := (⟨grps_pure s.groups, phas_pure s.phases, eyes_pure s.eyes, plns_pure s.plans, sets_pure s.apart, rows_pure s.between⟩ : _ ∧ _ ∧ _ ∧ _ ∧ _ ∧ _)
  obtain ⟨hp1, hp2, hp3, hp4, hp5, hp6⟩ := hpu
  have hne := fun i hi => needs_spec s i hS hi (hN i hi)
  have hph8 : s.phases.length ≤ 8 := hS.2.2.2.1.2
  have hsv : sitV s = .agg [.int .i64 s.id, .sl 3 (s.groups.map grpV), .sl 1 (sets s.apart), .sl 1 (rows s.between), .sl 5 (s.phases.map phaV), .sl 4 (s.eyes.map eyeV), .int .i64 s.watch, .int .i64 s.feed, .int .i64 s.heal, .int .i64 s.low, .int .i64 s.high, .sl 3 (s.plans.map plnV)] := rfl
  rw [hsv] at hne ⊢
  refine fnD_of mixed Tryd.func74 rfl rfl (by simp [Tryd.ntmps74]) fun hwf E => ?_
  simp (disch := omega) [go_sem] at hwf
  simp (disch := omega) [Tryd.ntmps74, go_sem]
  refine awz_loop mixed (fun k : Nat => ⟨[(8, .int .i64 k), (7, .int .i64 s.phases.length), (3, .int .i64 (roundK s k)), (1, .ptr 0 1 0 0), (2, .bool false)], [(0, ⟨.box, 29, 12, [sitV s]⟩)], 1024, [], 42, 0, tabG⟩)
    (fun k => k ≤ s.phases.length) (fun k => s.phases.length - k) 0 (by simp) ?_ ?_
  · refine Le.mk [(0, some 0)] [0] ⟨rfl, rfl, rfl⟩ ?_ ?_ ?_ <;> simp [go_sem, sitV, hp1, hp2, hp3, hp4, hp5, hp6, roundK]
  · intro k hk
    have hb := roundK_bound s hN k hk
    simp (disch := omega) [go_sem, sitV]
    refine br_of (fun h => ?_) (fun h => ?_) <;> simp at h
    · have hnk := hN k h
      simp (disch := omega) [go_sem, sitV]
      refine callK_data (hne k h) [] (by simp [go_sem, hp1, hp2, hp3, hp4, hp5, hp6]) (.inl rfl) (by simp [go_sem]) (fun _ => ?_) (by simp [tabG, go_sem])
      simp (disch := omega) [go_sem]
      refine round_of (k + 1) (by omega) (by omega) (Le.mk [(0, some 0)] [0] ⟨rfl, rfl, rfl⟩ ?_ ?_ ?_)
      all_goals simp [go_sem, sitV, hp1, hp2, hp3, hp4, hp5, hp6, roundK_succ]
    · have hkl : k = s.phases.length := by omega
      subst hkl
      simp (disch := omega) [go_sem, sitV]
      refine callK_bool (ticks_spec [s.watch, s.feed, s.heal, s.low, s.high]) [1200] (by simp [go_sem, ints]) (fun h2 => ?_) (fun h2 => ?_)
      · simp (disch := omega) [go_sem, timedN, h2]
      · simp (disch := omega) [go_sem, timedN, h2]
end Go.Proofs.YthjojamcolmbdaaDoor
