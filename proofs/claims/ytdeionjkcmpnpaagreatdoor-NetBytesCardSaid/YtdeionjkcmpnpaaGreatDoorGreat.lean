
/- Is a site, a region greater than statements go through? -/
import Derived.Test.YtdeionjkcmpnpaaGreatDoorNetA
set_option linter.unusedSimpArgs false
set_option linter.unusedVariables false
namespace Go.Proofs.YtdeionjkcmpnpaaGreatDoor
open Go.AM Go.RowKit
set_option maxRecDepth 100000

def greatS (s : Sit) : Bool := (decide ((40 : Int) < s.groups.length) || decide ((40 : Int) < s.apart.length) || decide ((40 : Int) < s.between.length) || decide ((40 : Int) < s.phases.length) || decide ((60 : Int) < s.eyes.length) || decide ((40 : Int) < s.plans.length))
  || (s.between.any (fun l => decide ((40 : Int) < l.length)) || s.plans.any (fun p => decide ((40 : Int) < p.splits.length)))
theorem any_get {α : Type} {p : α → Bool} {l : List α} {k : Nat} (h : k < l.length) (hp : p l[k] = true) : l.any p = true := List.any_eq_true.2 ⟨_, List.getElem_mem h, hp⟩
theorem any_no {α : Type} {p : α → Bool} {l : List α} (h : ∀ j (hj : j < l.length), p l[j] = false) : l.any p = false := by
  rw [List.any_eq_false]
  intro x hx
  obtain ⟨j, hj, rfl⟩ := List.getElem_of_mem hx
  simp [h j hj]

set_option maxHeartbeats 1000000 in
theorem greatS_spec (s : Sit) : FnD Tryz.prog 32 [sitV s] (.bool (greatS s)) := by
  have hpu := (⟨grps_pure s.groups, phas_pure s.phases, eyes_pure s.eyes, plns_pure s.plans, sets_pure s.apart, rows_pure s.between⟩ : _ ∧ _ ∧ _ ∧ _ ∧ _ ∧ _)
  obtain ⟨hp1, hp2, hp3, hp4, hp5, hp6⟩ := hpu
  unfold sitV
  refine fnD_of mixed Tryz.func32 rfl rfl (by simp [Tryz.ntmps32]) fun hwf E => ?_
  simp (disch := omega) [go_sem, sets_len, rows_len] at hwf
  simp (disch := omega) [Tryz.ntmps32, go_sem, sets_len, rows_len]
  unfold greatS
  refine br_of (fun h => ?_) (fun h => ?_)
  · simp (disch := omega) [go_sem]
    left
    simpa using h
  · have h0 : (decide ((40 : Int) < s.groups.length) || decide ((40 : Int) < s.apart.length) || decide ((40 : Int) < s.between.length) || decide ((40 : Int) < s.phases.length) || decide ((60 : Int) < s.eyes.length) || decide ((40 : Int) < s.plans.length)) = false := by
      simpa using h
    rw [h0, Bool.false_or]
    simp (disch := omega) [go_sem]
    refine awz_loop mixed (fun k : Nat => ⟨[(3, .int .i64 k), (1, .ptr 0 1 0 0), (2, .bool false)], [(0, ⟨.box, 87, 12, [sitV s]⟩)], 1024, [], 68, 0, []⟩)
      (fun k => k ≤ s.between.length ∧ ∀ j (h : j < s.between.length), j < k → decide ((40 : Int) < s.between[j].length) = false) (fun k => s.between.length - k) 0 (by simp) ?_ ?_
    · refine Le.mk [(0, some 0)] [0] ⟨rfl, rfl, rfl⟩ ?_ ?_ ?_ <;> simp [go_sem, sitV, hp1, hp2, hp3, hp4, hp5, hp6]
    · rintro k ⟨hk, hno⟩
      simp (disch := omega) [go_sem, sitV, rows_len]
      refine br_of (fun h1 => ?_) (fun h1 => ?_) <;> simp at h1
      · simp (disch := omega) [go_sem, h1, nth_rows, rows_len, ints_len]
        refine br_of (fun h2 => ?_) (fun h2 => ?_) <;> simp at h2
        · simp (disch := omega) [go_sem]
          left; exact ⟨_, List.getElem_mem h1, h2⟩
        · simp (disch := omega) [go_sem]
          refine round_of (k + 1) ⟨by omega, fun j h3 hj => ?_⟩ (by omega) (Le.mk [(0, some 0)] [0] ⟨rfl, rfl, rfl⟩ ?_ ?_ ?_)
          · by_cases e : j = k
            · subst e; simpa using h2
            · simpa using hno j h3 (by omega)
          all_goals simp [go_sem, sitV, hp1, hp2, hp3, hp4, hp5, hp6]
      · have e1 : s.between.any (fun l => decide ((40 : Int) < l.length)) = false := any_no fun j hj => hno j hj (by omega)
        rw [e1, Bool.false_or]
        simp (disch := omega) [go_sem]
        refine awz_loop mixed (fun k : Nat => ⟨[(4, .int .i64 k), (1, .ptr 0 1 0 0), (2, .bool false)], [(0, ⟨.box, 87, 12, [sitV s]⟩)], 2048, [], 68, 0, []⟩)
          (fun k => k ≤ s.plans.length ∧ ∀ j (h : j < s.plans.length), j < k → decide ((40 : Int) < s.plans[j].splits.length) = false) (fun k => s.plans.length - k) 0 (by simp) ?_ ?_
        · refine Le.mk [(0, some 0)] [0] ⟨rfl, rfl, rfl⟩ ?_ ?_ ?_ <;> simp [go_sem, sitV, hp1, hp2, hp3, hp4, hp5, hp6]
        · rintro m ⟨hm, hno2⟩
          simp (disch := omega) [go_sem, sitV]
          refine br_of (fun h3 => ?_) (fun h3 => ?_) <;> simp at h3
          · have he : nth (s.plans.map plnV) m = plnV s.plans[m] := nth_map h3
            simp (disch := omega) [go_sem, h3, he, plnV, ints_len]
            refine br_of (fun h2 => ?_) (fun h2 => ?_) <;> simp at h2
            · simp (disch := omega) [go_sem]
              exact ⟨_, List.getElem_mem h3, h2⟩
            · simp (disch := omega) [go_sem]
              refine round_of (m + 1) ⟨by omega, fun j h4 hj => ?_⟩ (by omega) (Le.mk [(0, some 0)] [0] ⟨rfl, rfl, rfl⟩ ?_ ?_ ?_)
              · by_cases e : j = m
                · subst e; simpa using h2
                · simpa using hno2 j h4 (by omega)
              all_goals simp [go_sem, sitV, hp1, hp2, hp3, hp4, hp5, hp6]
          · have e2 : s.plans.any (fun p => decide ((40 : Int) < p.splits.length)) = false := any_no fun j hj => hno2 j hj (by omega)
            rw [e2]
            simp (disch := omega) [go_sem]

def greatN (n : NetN) : Bool := (decide ((20 : Int) < n.sites.length) || decide ((30 : Int) < n.subs.length) || decide ((30 : Int) < n.weds.length))
  || (n.sites.any greatS || (n.subs.any (fun u => decide ((60 : Int) < u.sites.length)) || n.weds.any (fun w => decide ((60 : Int) < w.offsets.length))))
set_option maxHeartbeats 1000000 in
theorem greatN_spec (n : NetN) : FnD Tryz.prog 8 [netV n] (.bool (greatN n)) := by
  have hp1 := sits_pure n.sites
  have hp2 := subs_pure n.subs
  have hp3 := weds_pure n.weds
  unfold netV
  refine fnD_of mixed Tryz.func8 rfl rfl (by simp [Tryz.ntmps8]) fun hwf E => ?_
  simp (disch := omega) [go_sem] at hwf
  simp (disch := omega) [Tryz.ntmps8, go_sem]
  unfold greatN
  refine br_of (fun h => ?_) (fun h => ?_)
  · simp (disch := omega) [go_sem]
    left
    simpa using h
  · have h0 : (decide ((20 : Int) < n.sites.length) || decide ((30 : Int) < n.subs.length) || decide ((30 : Int) < n.weds.length)) = false := by
      simpa using h
    rw [h0, Bool.false_or]
    simp (disch := omega) [go_sem]
    refine awz_loop mixed (fun k : Nat => ⟨[(3, .int .i64 k), (1, .ptr 0 1 0 0), (2, .bool false)], [(0, ⟨.box, 26, 6, [netV n]⟩)], 1024, [], 65, 0, []⟩)
      (fun k => k ≤ n.sites.length ∧ ∀ j (h : j < n.sites.length), j < k → greatS n.sites[j] = false) (fun k => n.sites.length - k) 0 (by simp) ?_ ?_
    · refine Le.mk [(0, some 0)] [0] ⟨rfl, rfl, rfl⟩ ?_ ?_ ?_ <;> simp [go_sem, netV, hp1, hp2, hp3]
    · rintro k ⟨hk, hno⟩
      simp (disch := omega) [go_sem, netV]
      refine br_of (fun h1 => ?_) (fun h1 => ?_) <;> simp at h1
      · have he : nth (n.sites.map sitV) k = sitV n.sites[k] := nth_map h1
        simp (disch := omega) [go_sem, h1, he, sitV]
        refine callK_bool (greatS_spec n.sites[k]) [] (by simp [go_sem, sitV, grps_pure, phas_pure, eyes_pure, plns_pure, sets_pure, rows_pure]) (fun h2 => ?_) (fun h2 => ?_)
        · simp (disch := omega) [go_sem]
          left; exact ⟨_, List.getElem_mem h1, h2⟩
        · simp (disch := omega) [go_sem]
          refine round_of (k + 1) ⟨by omega, fun j h3 hj => ?_⟩ (by omega) (Le.mk [(0, some 0)] [0] ⟨rfl, rfl, rfl⟩ ?_ ?_ ?_)
          · by_cases e : j = k
            · subst e; exact h2
            · simpa using hno j h3 (by omega)
          all_goals simp [go_sem, netV, hp1, hp2, hp3]
      · have e1 : n.sites.any greatS = false := any_no fun j hj => hno j hj (by omega)
        rw [e1, Bool.false_or]
        simp (disch := omega) [go_sem]
        refine awz_loop mixed (fun k : Nat => ⟨[(4, .int .i64 k), (1, .ptr 0 1 0 0), (2, .bool false)], [(0, ⟨.box, 26, 6, [netV n]⟩)], 2048, [], 65, 0, []⟩)
          (fun k => k ≤ n.subs.length ∧ ∀ j (h : j < n.subs.length), j < k → decide ((60 : Int) < n.subs[j].sites.length) = false) (fun k => n.subs.length - k) 0 (by simp) ?_ ?_
        · refine Le.mk [(0, some 0)] [0] ⟨rfl, rfl, rfl⟩ ?_ ?_ ?_ <;> simp [go_sem, netV, hp1, hp2, hp3]
        · rintro m ⟨hm, hno2⟩
          simp (disch := omega) [go_sem, netV]
          refine br_of (fun h3 => ?_) (fun h3 => ?_) <;> simp at h3
          · have he : nth (n.subs.map subV) m = subV n.subs[m] := nth_map h3
            simp (disch := omega) [go_sem, h3, he, subV, ints_len]
            refine br_of (fun h2 => ?_) (fun h2 => ?_) <;> simp at h2
            · simp (disch := omega) [go_sem]
              left; exact ⟨_, List.getElem_mem h3, h2⟩
            · simp (disch := omega) [go_sem]
              refine round_of (m + 1) ⟨by omega, fun j h4 hj => ?_⟩ (by omega) (Le.mk [(0, some 0)] [0] ⟨rfl, rfl, rfl⟩ ?_ ?_ ?_)
              · by_cases e : j = m
                · subst e; simpa using h2
                · simpa using hno2 j h4 (by omega)
              all_goals simp [go_sem, netV, hp1, hp2, hp3]
          · have e2 : n.subs.any (fun u => decide ((60 : Int) < u.sites.length)) = false := any_no fun j hj => hno2 j hj (by omega)
            rw [e2, Bool.false_or]
            simp (disch := omega) [go_sem]
            refine awz_loop mixed (fun k : Nat => ⟨[(5, .int .i64 k), (1, .ptr 0 1 0 0), (2, .bool false)], [(0, ⟨.box, 26, 6, [netV n]⟩)], 4096, [], 65, 0, []⟩)
              (fun k => k ≤ n.weds.length ∧ ∀ j (h : j < n.weds.length), j < k → decide ((60 : Int) < n.weds[j].offsets.length) = false) (fun k => n.weds.length - k) 0 (by simp) ?_ ?_
            · refine Le.mk [(0, some 0)] [0] ⟨rfl, rfl, rfl⟩ ?_ ?_ ?_ <;> simp [go_sem, netV, hp1, hp2, hp3]
            · rintro r ⟨hr, hno3⟩
              simp (disch := omega) [go_sem, netV]
              refine br_of (fun h5 => ?_) (fun h5 => ?_) <;> simp at h5
              · have he : nth (n.weds.map wedV) r = wedV n.weds[r] := nth_map h5
                simp (disch := omega) [go_sem, h5, he, wedV, ints_len]
                refine br_of (fun h2 => ?_) (fun h2 => ?_) <;> simp at h2
                · simp (disch := omega) [go_sem]
                  exact ⟨_, List.getElem_mem h5, h2⟩
                · simp (disch := omega) [go_sem]
                  refine round_of (r + 1) ⟨by omega, fun j h4 hj => ?_⟩ (by omega) (Le.mk [(0, some 0)] [0] ⟨rfl, rfl, rfl⟩ ?_ ?_ ?_)
                  · by_cases e : j = r
                    · subst e; simpa using h2
                    · simpa using hno3 j h4 (by omega)
                  all_goals simp [go_sem, netV, hp1, hp2, hp3]
              · have e3 : n.weds.any (fun w => decide ((60 : Int) < w.offsets.length)) = false := any_no fun j hj => hno3 j hj (by omega)
                rw [e3]
                simp (disch := omega) [go_sem]
end Go.Proofs.YtdeionjkcmpnpaaGreatDoor
