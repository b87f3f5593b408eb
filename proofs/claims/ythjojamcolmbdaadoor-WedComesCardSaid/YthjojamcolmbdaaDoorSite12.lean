/- The layer site: Apart, Clear. -/
import Derived.Test.YthjojamcolmbdaaDoorSite11
namespace Go.Proofs.YthjojamcolmbdaaDoor
open Go.AM Go.RowKit
set_option maxRecDepth 100000

theorem apart1_spec (s : Sit) : FnD Tryd.prog 77 [.tptr 12 [sitV s] 0 0] (.int .i64 s.groups.length) := by
  unfold sitV
  refine fnD_of mixed Tryd.func77 rfl rfl (by simp [Tryd.ntmps77]) fun hwf E => ?_
  simp (disch := omega) [Tryd.ntmps77, go_sem]
theorem clear1_spec (s : Sit) : FnD Tryd.prog 80 [.tptr 12 [sitV s] 0 0] (.int .i64 s.phases.length) := by
  unfold sitV
  refine fnD_of mixed Tryd.func80 rfl rfl (by simp [Tryd.ntmps80]) fun hwf E => ?_
  simp (disch := omega) [Tryd.ntmps80, go_sem]

theorem askN_zero {s : Sit} {b : Int} {l : List Int} (h : askN s b l = 0) : SiteOk s ∧ ∀ x ∈ l, 0 ≤ x ∧ x ≤ b - 1 := by
  unfold askN at h
  split at h
  · rename_i hOk
    split at h
    · rename_i hA
      simp only [List.all_eq_true, inN_iff] at hA
      exact ⟨hOk, hA⟩
    · cases h
  · cases h

theorem sapart_spec (s : Sit) (a b : Int) : FnD Tryd.prog 19 [sitV s, .int .i64 a, .int .i64 b] (.tup [.bool (decide (askN s s.groups.length [a, b] = 0) && isAp s a.toNat b.toNat), .int .i64 (askN s s.groups.length [a, b])]) tabG := by
  have hpu := (⟨grps_pure s.groups, phas_pure s.phases, eyes_pure s.eyes, plns_pure s.plans, sets_pure s.apart, rows_pure s.between⟩ : _ ∧ _ ∧ _ ∧ _ ∧ _ ∧ _)
  obtain ⟨hp1, hp2, hp3, hp4, hp5, hp6⟩ := hpu
  have hsv : sitV s = .agg [.int .i64 s.id, .sl 3 (s.groups.map grpV), .sl 1 (sets s.apart), .sl 1 (rows s.between), .sl 5 (s.phases.map phaV), .sl 4 (s.eyes.map eyeV), .int .i64 s.watch, .int .i64 s.feed, .int .i64 s.heal, .int .i64 s.low, .int .i64 s.high, .sl 3 (s.plans.map plnV)] := rfl
  have hq := fun hb => asked_spec s 77 s.groups.length [a, b] hb (apart1_spec s)
  unfold groupsV at hq
  rw [hsv] at hq ⊢
  refine fnD_of mixed Tryd.func19 rfl rfl (by simp [Tryd.ntmps19]) fun hwf E => ?_
  simp (disch := omega) [go_sem] at hwf
  simp (disch := omega) [Tryd.ntmps19, go_sem]
  refine callK_data (hq ⟨by omega, by omega⟩) [0, 112] (by simp [go_sem, ints, hp1, hp2, hp3, hp4, hp5, hp6]) (.inr (by simp [go_sem])) (by simp [go_sem]) (fun _ => ?_) (by simp [tabG, go_sem])
  simp (disch := omega) [go_sem]
  refine br_of (fun h => ?_) (fun h => ?_) <;> simp at h
  · simp (disch := omega) [go_sem, h]
  · obtain ⟨hOk, hl⟩ := askN_zero h
    have ha := hl a (by simp)
    have hb := hl b (by simp)
    obtain ⟨i, rfl⟩ := Int.eq_ofNat_of_zero_le ha.1
    obtain ⟨j, rfl⟩ := Int.eq_ofNat_of_zero_le hb.1
    have hS := hOk.shaped
    have hia : i < s.apart.length := by rw [hS.2.1]; omega
    have hr := (hS.2.2.2.2.2.2 i (by rw [hS.2.2.1]; omega)).2
    rw [show s.apart.getD i 0 = s.apart[i] by simp [hia]] at hr
    have h6 : 2 ^ s.groups.length ≤ 2 ^ 16 := Nat.pow_le_pow_right (by omega) hS.1.2
    have q1 := hasNat_spec s.apart[i] j (by omega)
    rw [show s.apart[i].testBit j = isAp s i j by simp [isAp, hia]] at q1
    simp (disch := omega) [go_sem, nth_sets, sets_len, hia]
    refine callK_data q1 [] (by simp [go_sem]) (.inl rfl) (by simp [go_sem]) (fun _ => ?_)
    simp (disch := omega) [go_sem, h]

theorem sclear_spec (s : Sit) (a b : Int) : FnD Tryd.prog 22 [sitV s, .int .i64 a, .int .i64 b] (.tup [.int .i64 (if askN s s.phases.length [a, b] = 0 then clearN s a.toNat b.toNat else 0), .int .i64 (askN s s.phases.length [a, b])]) tabG := by
  have hpu := (⟨grps_pure s.groups, phas_pure s.phases, eyes_pure s.eyes, plns_pure s.plans, sets_pure s.apart, rows_pure s.between⟩ : _ ∧ _ ∧ _ ∧ _ ∧ _ ∧ _)
  obtain ⟨hp1, hp2, hp3, hp4, hp5, hp6⟩ := hpu
  have hsv : sitV s = .agg [.int .i64 s.id, .sl 3 (s.groups.map grpV), .sl 1 (sets s.apart), .sl 1 (rows s.between), .sl 5 (s.phases.map phaV), .sl 4 (s.eyes.map eyeV), .int .i64 s.watch, .int .i64 s.feed, .int .i64 s.heal, .int .i64 s.low, .int .i64 s.high, .sl 3 (s.plans.map plnV)] := rfl
  have hq := fun hb => asked_spec s 80 s.phases.length [a, b] hb (clear1_spec s)
  have hc := clear_spec s
  unfold groupsV at hq
  rw [hsv] at hq hc ⊢
  refine fnD_of mixed Tryd.func22 rfl rfl (by simp [Tryd.ntmps22]) fun hwf E => ?_
  simp (disch := omega) [go_sem] at hwf
  simp (disch := omega) [Tryd.ntmps22, go_sem]
  refine callK_data (hq ⟨by omega, by omega⟩) [0, 112] (by simp [go_sem, ints, hp1, hp2, hp3, hp4, hp5, hp6]) (.inr (by simp [go_sem])) (by simp [go_sem]) (fun _ => ?_) (by simp [tabG, go_sem])
  simp (disch := omega) [go_sem]
  refine br_of (fun h => ?_) (fun h => ?_) <;> simp at h
  · simp (disch := omega) [go_sem, h]
  · obtain ⟨hOk, hl⟩ := askN_zero h
    have ha := hl a (by simp)
    have hb := hl b (by simp)
    obtain ⟨i, rfl⟩ := Int.eq_ofNat_of_zero_le ha.1
    obtain ⟨j, rfl⟩ := Int.eq_ofNat_of_zero_le hb.1
    simp (disch := omega) [go_sem]
    refine callK_data (hc i j hOk.shaped (by omega) (by omega)) [] (by simp [go_sem, hp1, hp2, hp3, hp4, hp5, hp6]) (.inl rfl) (by simp [go_sem]) (fun _ => ?_) (by simp [tabG, go_sem])
    simp (disch := omega) [go_sem, h]
end Go.Proofs.YthjojamcolmbdaaDoor
