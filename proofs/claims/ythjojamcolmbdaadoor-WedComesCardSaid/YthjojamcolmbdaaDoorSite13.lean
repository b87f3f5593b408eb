/- The layer site: Between. -/
import Derived.Test.YthjojamcolmbdaaDoorSite12
namespace Go.Proofs.YthjojamcolmbdaaDoor
open Go.AM Go.RowKit
set_option maxRecDepth 100000

theorem between1_spec (s : Sit) : FnD Tryd.prog 79 [.tptr 12 [sitV s] 0 0] (.int .i64 s.groups.length) := by
  unfold sitV
  refine fnD_of mixed Tryd.func79 rfl rfl (by simp [Tryd.ntmps79]) fun hwf E => ?_
  simp (disch := omega) [Tryd.ntmps79, go_sem]

theorem sbetween_spec (s : Sit) (a b : Int) : FnD Tryd.prog 20 [sitV s, .int .i64 a, .int .i64 b] (.tup [.int .i64 (if askN s s.groups.length [a, b] = 0 then betw s a.toNat b.toNat else 0), .int .i64 (askN s s.groups.length [a, b])]) tabG := by
  have hpu := (⟨grps_pure s.groups, phas_pure s.phases, eyes_pure s.eyes, plns_pure s.plans, sets_pure s.apart, rows_pure s.between⟩ : _ ∧ _ ∧ _ ∧ _ ∧ _ ∧ _)
  obtain ⟨hp1, hp2, hp3, hp4, hp5, hp6⟩ := hpu
  have hsv : sitV s = .agg [.int .i64 s.id, .sl 3 (s.groups.map grpV), .sl 1 (sets s.apart), .sl 1 (rows s.between), .sl 5 (s.phases.map phaV), .sl 4 (s.eyes.map eyeV), .int .i64 s.watch, .int .i64 s.feed, .int .i64 s.heal, .int .i64 s.low, .int .i64 s.high, .sl 3 (s.plans.map plnV)] := rfl
  have hq := fun hb => asked_spec s 79 s.groups.length [a, b] hb (between1_spec s)
  unfold groupsV at hq
  rw [hsv] at hq ⊢
  refine fnD_of mixed Tryd.func20 rfl rfl (by simp [Tryd.ntmps20]) fun hwf E => ?_
  simp (disch := omega) [go_sem] at hwf
  simp (disch := omega) [Tryd.ntmps20, go_sem]
  refine callK_data (hq ⟨by omega, by omega⟩) [0, 112] (by simp [go_sem, ints, hp1, hp2, hp3, hp4, hp5, hp6]) (.inr (by simp [go_sem])) (by simp [go_sem]) (fun _ => ?_) (by simp [tabG, go_sem])
  simp (disch := omega) [go_sem]
  refine br_of (fun h => ?_) (fun h => ?_) <;> simp at h
  · simp (disch := omega) [go_sem, h]
  · obtain ⟨hOk, hl⟩ := askN_zero h
    have ha := hl a (by simp)
    have hb := hl b (by simp)
    obtain ⟨i, rfl⟩ := Int.eq_ofNat_of_zero_le ha.1
    obtain ⟨j, rfl⟩ := Int.eq_ofNat_of_zero_le hb.1
    have hS := hOk.shaped
    have hib : i < s.between.length := by rw [hS.2.2.1]; omega
    have hr := (hS.2.2.2.2.2.2 i hib).1
    rw [show s.between.getD i [] = s.between[i] by simp [hib]] at hr
    have hjb : j < s.between[i].length := by omega
    have i3 : s.between[i][j] = betw s i j := by simp [betw, hib, hjb]
    simp (disch := omega) [go_sem, nth_rows, rows_len, hib, nth_ints, ints_len, hjb, i3]
    exact ⟨fun h' => absurd h h', h.symm⟩
end Go.Proofs.YthjojamcolmbdaaDoor
