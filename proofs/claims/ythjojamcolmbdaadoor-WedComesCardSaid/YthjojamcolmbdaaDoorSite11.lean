/- The layer site: what is asked, and its answers. -/
import Derived.Test.YthjojamcolmbdaaDoorSite10
namespace Go.Proofs.YthjojamcolmbdaaDoor
open Go.AM Go.RowKit
set_option maxRecDepth 100000

theorem sit_pure (s : Sit) : (sitV s).pure := by
  simp [sitV, go_sem, grps_pure, phas_pure, eyes_pure, plns_pure, sets_pure, rows_pure]
def groupsV (s : Sit) (g : FuncId) : V := .func (.func g) [] [.tptr 12 [sitV s] 0 0]
noncomputable def askN (s : Sit) (b : Int) (l : List Int) : Int := if SiteOk s then if (l.all fun x => inN x 0 (b - 1)) = true then 0 else 2 else 50

theorem asked_spec (s : Sit) (g : FuncId) (b : Int) (l : List Int) (hb : 0 ≤ b ∧ b ≤ 140737488355328) (hg : FnD Tryd.prog g [.tptr 12 [sitV s] 0 0] (.int .i64 b)) :
    FnD Tryd.prog 76 [sitV s, groupsV s g, .sl 1 (ints l)] (.int .i64 (askN s b l)) tabG := by
  have hpu := (⟨grps_pure s.groups, phas_pure s.phases, eyes_pure s.eyes, plns_pure s.plans, sets_pure s.apart, rows_pure s.between⟩ : _ ∧ _ ∧ _ ∧ _ ∧ _ ∧ _)
  obtain ⟨hp1, hp2, hp3, hp4, hp5, hp6⟩ := hpu
  have hc := check_spec s
  have hsv : sitV s = .agg [.int .i64 s.id, .sl 3 (s.groups.map grpV), .sl 1 (sets s.apart), .sl 1 (rows s.between), .sl 5 (s.phases.map phaV), .sl 4 (s.eyes.map eyeV), .int .i64 s.watch, .int .i64 s.feed, .int .i64 s.heal, .int .i64 s.low, .int .i64 s.high, .sl 3 (s.plans.map plnV)] := rfl
  unfold groupsV
  rw [hsv] at hc hg ⊢
  refine fnD_of mixed Tryd.func76 rfl rfl (by simp [Tryd.ntmps76]) fun hwf E => ?_
  simp (disch := omega) [go_sem, ints_len] at hwf
  simp (disch := omega) [Tryd.ntmps76, go_sem]
  refine callK_data hc [] (by simp [go_sem, hp1, hp2, hp3, hp4, hp5, hp6]) (.inl rfl) (by simp [go_sem]) (fun _ => ?_) (by simp [tabG, go_sem])
  by_cases hOk : SiteOk s
  · rw [checkN_ok hOk]
    simp (disch := omega) [go_sem, ints_len]
    refine awz_loop mixed (fun k : Nat => ⟨[(17, .int .i64 k), (16, .int .i64 l.length), (15, .sl 1 (ints l)), (1, .func (.func g) [] [.tptr 12 [sitV s] 0 0]), (6, .int .i64 0)], [], 1024, [], 28, 0, tabG⟩)
      (fun k => k ≤ l.length ∧ ∀ j (h : j < l.length), j < k → inN l[j] 0 (b - 1) = true) (fun k => l.length - k) 0 (by simp) ?_ ?_
    · refine Le.mk [] [] ⟨rfl, rfl, rfl⟩ ?_ ?_ ?_ <;> simp [go_sem, ints_pure, sitV, hp1, hp2, hp3, hp4, hp5, hp6]
    · rintro k ⟨hk, hno⟩
      simp (disch := omega) [go_sem]
      refine br_of (fun h => ?_) (fun h => ?_) <;> simp at h
      · simp (disch := omega) [go_sem, ints_len, nth_ints, h]
        refine callK_data hg [] (by simp [go_sem, sitV, hp1, hp2, hp3, hp4, hp5, hp6]) (.inl rfl) (by simp [go_sem]) (fun _ => ?_)
        simp (disch := omega) [go_sem]
        refine callK_bool (in_spec l[k] 0 (b - 1)) [] (by simp [go_sem]) (fun h1 => ?_) (fun h1 => ?_)
        · simp (disch := omega) [go_sem]
          refine round_of (k + 1) ⟨by omega, fun j h3 hj => ?_⟩ (by omega) (Le.mk [] [] ⟨rfl, rfl, rfl⟩ ?_ ?_ ?_)
          · by_cases e : j = k
            · subst e; exact h1
            · exact hno j h3 (by omega)
          all_goals simp (disch := omega) [go_sem, ints_pure, sitV, hp1, hp2, hp3, hp4, hp5, hp6]
        · simp (disch := omega) [go_sem]
          unfold askN
          rw [if_pos hOk, if_neg]
          simp only [List.all_eq_true]
          intro hA
          have := hA _ (List.getElem_mem h)
          rw [h1] at this; cases this
      · simp (disch := omega) [go_sem]
        unfold askN
        rw [if_pos hOk, if_pos]
        simp only [List.all_eq_true]
        intro x hx
        obtain ⟨j, hj, rfl⟩ := List.getElem_of_mem hx
        exact hno j hj (by omega)
  · rw [checkN_bad hOk]
    simp (disch := omega) [go_sem]
    unfold askN; rw [if_neg hOk]
end Go.Proofs.YthjojamcolmbdaaDoor
