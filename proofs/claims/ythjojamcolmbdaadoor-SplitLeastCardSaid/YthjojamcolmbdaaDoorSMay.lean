/- SiteMay: sites are held to what they may be, and asked. -/
import Derived.Test.YthjojamcolmbdaaDoorTwin2
set_option linter.unusedSimpArgs false
set_option linter.unusedVariables false
namespace Go.Proofs.YthjojamcolmbdaaDoor
open Go.AM Go.RowKit
set_option maxRecDepth 100000

theorem rbetween_spec (s : Sit) (a b : Nat) (ha : a < s.between.length) (hb : b < s.between[a].length) : FnD Tryd.prog 25 [sitV s, .int .i64 a, .int .i64 b] (.int .i64 (betw s a b)) := by
  have i3 : s.between[a][b] = betw s a b := by simp [betw, ha, hb]
  unfold sitV
  refine fnD_of mixed Tryd.func25 rfl rfl (by simp [Tryd.ntmps25]) fun hwf E => ?_
  simp (disch := omega) [Tryd.ntmps25, go_sem, nth_rows, rows_len, ha, nth_ints, ints_len, hb, i3]
set_option maxHeartbeats 1000000 in
theorem rworst_spec (s : Sit) : FnD Tryd.prog 27 [sitV s] (.int .i64 (worstN s)) := by
  have hpu := (⟨grps_pure s.groups, phas_pure s.phases, eyes_pure s.eyes, plns_pure s.plans, sets_pure s.apart, rows_pure s.between⟩ : _ ∧ _ ∧ _ ∧ _ ∧ _ ∧ _)
  obtain ⟨hp1, hp2, hp3, hp4, hp5, hp6⟩ := hpu
  unfold sitV
  refine fnD_of mixed Tryd.func27 rfl rfl (by simp [Tryd.ntmps27]) fun hwf E => ?_
  simp (disch := omega) [go_sem, sets_len, rows_len] at hwf
  simp (disch := omega) [Tryd.ntmps27, go_sem]
  refine awz_loop mixed (fun k : Nat => ⟨[(4, .int .i64 k), (3, .int .i64 (worstK s k)), (1, .ptr 0 1 0 0), (2, .int .i64 0)], [(0, ⟨.box, 29, 12, [sitV s]⟩)], 1024, [], 34, 0, []⟩)
    (fun k => k ≤ s.between.length) (fun k => s.between.length - k) 0 (by omega) ?_ ?_
  · refine Le.mk [(0, some 0)] [0] ⟨rfl, rfl, rfl⟩ ?_ ?_ ?_ <;> simp [go_sem, sitV, hp1, hp2, hp3, hp4, hp5, hp6, worstK]
  · intro k hk
    simp (disch := omega) [go_sem, sitV, rows_len]
    refine br_of (fun h => ?_) (fun h => ?_) <;> simp at h
    · have hsucc := worstK_succ h
      have hrl : s.between[k].length ≤ 140737488355328 := by
        have := wfs_mem (f := fun r => V.sl 1 (ints r)) hwf.2.2.2.1.2 _ (List.getElem_mem h)
        simp [go_sem, ints_len] at this
        omega
      have hnr := nth_rows h
      simp (disch := omega) [go_sem]
      generalize hrow : s.between[k] = row at *
      refine awz_loop mixed (fun m : Nat => ⟨[(5, .int .i64 m), (4, .int .i64 k), (3, .int .i64 (rowMost row m (worstK s k))), (1, .ptr 0 1 0 0), (2, .int .i64 0)], [(0, ⟨.box, 29, 12, [sitV s]⟩)], 2048, [], 34, 0, []⟩)
        (fun m => m ≤ row.length) (fun m => row.length - m) 0 (by omega) ?_ ?_
      · refine Le.mk [(0, some 0)] [0] ⟨rfl, rfl, rfl⟩ ?_ ?_ ?_ <;> simp [go_sem, sitV, hp1, hp2, hp3, hp4, hp5, hp6, rowMost]
      · intro m hm
        simp (disch := omega) [go_sem, sitV, rows_len, hnr, ints_len, h]
        refine br_of (fun h2 => ?_) (fun h2 => ?_) <;> simp at h2
        · simp (disch := omega) [go_sem, rows_len, hnr, ints_len, nth_ints, h2, h]
          refine round_of (m + 1) (by omega) (by omega) (Le.mk [(0, some 0)] [0] ⟨rfl, rfl, rfl⟩ ?_ ?_ ?_) <;> simp [go_sem, sitV, hp1, hp2, hp3, hp4, hp5, hp6, rowMost_succ _ h2, maxI]
        · have hml : m = row.length := by omega
          subst hml
          simp (disch := omega) [go_sem]
          refine round_of (k + 1) (by omega) (by omega) (Le.mk [(0, some 0)] [0] ⟨rfl, rfl, rfl⟩ ?_ ?_ ?_) <;> simp [go_sem, sitV, hp1, hp2, hp3, hp4, hp5, hp6, hsucc, rowMost]
    · have hkl : k = s.between.length := by omega
      subst hkl
      simp (disch := omega) [go_sem, worstN]

theorem askN_bad {s : Sit} {b : Int} {l : List Int} (h : ¬ SiteOk s) : askN s b l = 50 := by unfold askN; rw [if_neg h]
theorem askN_ok {s : Sit} {b x y : Int} (h : SiteOk s) (h2 : (0 ≤ x ∧ x < b) ∧ 0 ≤ y ∧ y < b) : askN s b [x, y] = 0 := by
  unfold askN; rw [if_pos h, if_pos]
  simp [inN]; omega
theorem askN_arg {s : Sit} {b x y : Int} (h : SiteOk s) (h2 : ¬ ((0 ≤ x ∧ x < b) ∧ 0 ≤ y ∧ y < b)) : askN s b [x, y] = 2 := by
  unfold askN; rw [if_pos h, if_neg]
  simp [inN]; omega

set_option maxHeartbeats 4000000 in
theorem smay_spec (s : Sit) (a b : Int) (p : Pln) : FnD Tryd.prog 3 [sitV s, .int .i64 a, .int .i64 b, plnV p] (.bool true) tabG := by
  have hpu := (⟨grps_pure s.groups, phas_pure s.phases, eyes_pure s.eyes, plns_pure s.plans, sets_pure s.apart, rows_pure s.between⟩ : _ ∧ _ ∧ _ ∧ _ ∧ _ ∧ _)
  obtain ⟨hp1, hp2, hp3, hp4, hp5, hp6⟩ := hpu
  have hip := ints_pure p.splits
  have qg := greatS_spec s
  have qt := fun h => twin_spec s h
  have qc := check_spec s
  have qr := rcheck_spec s
  have q1 := sapart_spec s a b
  have q2 := sbetween_spec s a b
  have q3 := worst_spec s
  have q4 := sclear_spec s a b
  have q5 := plan_spec s p
  have q6 := rsames_spec s
  have q7 := rworst_spec s
  have r1 := fun i j h1 h2 => rapart_spec s i j h1 h2
  have r2 := fun i j h1 h2 => rbetween_spec s i j h1 h2
  have r3 := fun i j h1 h2 h3 => rclear_spec s i j h1 h2 h3
  have r4 := fun h1 h2 h3 => rplan_spec s p h1 h2 h3
  have hsv : sitV s = .agg [.int .i64 s.id, .sl 3 (s.groups.map grpV), .sl 1 (sets s.apart), .sl 1 (rows s.between), .sl 5 (s.phases.map phaV), .sl 4 (s.eyes.map eyeV), .int .i64 s.watch, .int .i64 s.feed, .int .i64 s.heal, .int .i64 s.low, .int .i64 s.high, .sl 3 (s.plans.map plnV)] := rfl
  have hpv : plnV p = .agg [.int .i64 p.cycle, .int .i64 p.offset, .sl 1 (ints p.splits)] := rfl
  rw [hsv] at qg qt qc qr q1 q2 q3 q4 q5 q6 q7 r1 r2 r3 r4 ⊢
  rw [hpv] at q5 r4 ⊢
  refine fnD_of mixed Tryd.func3 rfl rfl (by simp [Tryd.ntmps3]) fun hwf E => ?_
  simp (disch := omega) [go_sem, sets_len, rows_len, ints_len] at hwf
  simp (disch := omega) [Tryd.ntmps3, go_sem]
  refine callK_bool qg [] (by simp [go_sem, hp1, hp2, hp3, hp4, hp5, hp6]) (fun h1 => ?_) (fun h1 => ?_)
  · simp (disch := omega) [go_sem]
  · simp (disch := omega) [go_sem, ints_len]
    refine br_of (fun h2 => ?_) (fun h2 => ?_) <;> simp at h2
    · simp (disch := omega) [go_sem]
    · simp (disch := omega) [go_sem]
      refine callK_data (qt h1) [] (by simp [go_sem, hp1, hp2, hp3, hp4, hp5, hp6]) (.inl rfl) (by simp [go_sem, hp1, hp2, hp3, hp4, hp5, hp6]) (fun _ => ?_)
      simp (disch := omega) [go_sem]
      refine callK_data qr [] (by simp [go_sem, hp1, hp2, hp3, hp4, hp5, hp6]) (.inl rfl) (by simp [go_sem]) (fun _ => ?_)
      simp (disch := omega) [go_sem]
      refine callK_data qc [] (by simp [go_sem, hp1, hp2, hp3, hp4, hp5, hp6]) (.inl rfl) (by simp [go_sem]) (fun _ => ?_) (by simp [tabG, go_sem])
      simp (disch := omega) [go_sem]
      refine callK_data q1 [] (by simp [go_sem, hp1, hp2, hp3, hp4, hp5, hp6]) (.inl rfl) (by simp [go_sem]) (fun _ => ?_) (by simp [tabG, go_sem])
      simp (disch := omega) [go_sem]
      refine callK_data q2 [] (by simp [go_sem, hp1, hp2, hp3, hp4, hp5, hp6]) (.inl rfl) (by simp [go_sem]) (fun _ => ?_) (by simp [tabG, go_sem])
      simp (disch := omega) [go_sem]
      refine callK_data q3 [] (by simp [go_sem, hp1, hp2, hp3, hp4, hp5, hp6]) (.inl rfl) (by simp [go_sem]) (fun _ => ?_) (by simp [tabG, go_sem])
      simp (disch := omega) [go_sem]
      refine callK_data q4 [] (by simp [go_sem, hp1, hp2, hp3, hp4, hp5, hp6]) (.inl rfl) (by simp [go_sem]) (fun _ => ?_) (by simp [tabG, go_sem])
      simp (disch := omega) [go_sem]
      refine callK_data q5 [] (by simp [go_sem, hp1, hp2, hp3, hp4, hp5, hp6, hip]) (.inl rfl) (by simp [go_sem]) (fun _ => ?_) (by simp [tabG, go_sem])
      by_cases hOk : SiteOk s
      · have hG : GroupsOk s := (groups_site.1 hOk).1
        have hS := hOk.shaped
        have hla := hS.2.1
        have hlb := hS.2.2.1
        have hn16 := hS.1
        have hrl : ∀ i (h : i < s.between.length), s.between[i].length = s.groups.length := fun i h => by
          have := (hS.2.2.2.2.2.2 i h).1
          rwa [show s.between.getD i [] = s.between[i] by simp [h]] at this
        rw [checkN_ok hOk]
        by_cases hab : (0 ≤ a ∧ a < s.groups.length) ∧ 0 ≤ b ∧ b < s.groups.length
        · have k1 := askN_ok (b := (s.groups.length : Int)) hOk hab
          by_cases hcd : (0 ≤ a ∧ a < s.phases.length) ∧ 0 ≤ b ∧ b < s.phases.length
          · have k2 := askN_ok (b := (s.phases.length : Int)) hOk hcd
            obtain ⟨i, rfl⟩ := Int.eq_ofNat_of_zero_le hab.1.1
            obtain ⟨j, rfl⟩ := Int.eq_ofNat_of_zero_le hab.2.1
            have z1 : ¬ (i : Int) < 0 := by omega
            have z2 : ¬ (j : Int) < 0 := by omega
            have g2 : ¬ s.groups.length ≤ i := by omega
            have g4 : ¬ s.groups.length ≤ j := by omega
            have f2 : ¬ s.phases.length ≤ i := by omega
            have f4 : ¬ s.phases.length ≤ j := by omega
            simp (disch := omega) [go_sem, z1, z2, k1, k2, hOk, g2, g4, f2, f4]
            refine callK_data (r1 i j (by omega) (by omega)) [] (by simp [go_sem, hp1, hp2, hp3, hp4, hp5, hp6]) (.inl rfl) (by simp [go_sem]) (fun _ => ?_)
            simp (disch := omega) [go_sem, z1, z2, k1, k2, hOk, g2, g4, f2, f4]
            refine callK_data (r2 i j (by omega) (by rw [hrl i (by omega)]; omega)) [] (by simp [go_sem, hp1, hp2, hp3, hp4, hp5, hp6]) (.inl rfl) (by simp [go_sem]) (fun _ => ?_)
            simp (disch := omega) [go_sem, z1, z2, k1, k2, hOk, g2, g4, f2, f4]
            refine callK_data (r3 i j hG (by omega) (by omega)) [] (by simp [go_sem, hp1, hp2, hp3, hp4, hp5, hp6]) (.inl rfl) (by simp [go_sem]) (fun _ => ?_)
            simp (disch := omega) [go_sem, z1, z2, k1, k2, hOk, g2, g4, f2, f4]
            refine callK_data q7 [] (by simp [go_sem, hp1, hp2, hp3, hp4, hp5, hp6]) (.inl rfl) (by simp [go_sem]) (fun _ => ?_)
            simp (disch := omega) [go_sem, hOk]
            refine callK_data (r4 hG hOk.needs hOk.low) [] (by simp [go_sem, hp1, hp2, hp3, hp4, hp5, hp6, hip]) (.inl rfl) (by simp [go_sem]) (fun _ => ?_)
            simp (disch := omega) [go_sem, hOk]
            refine callK_data q6 [] (by simp [go_sem, hp1, hp2, hp3, hp4, hp5, hp6]) (.inl rfl) (by simp [go_sem]) (fun _ => ?_)
            simp (disch := omega) [go_sem, hOk]
          · have k2 := askN_arg (b := (s.phases.length : Int)) hOk hcd
            obtain ⟨i, rfl⟩ := Int.eq_ofNat_of_zero_le hab.1.1
            obtain ⟨j, rfl⟩ := Int.eq_ofNat_of_zero_le hab.2.1
            have z1 : ¬ (i : Int) < 0 := by omega
            have z2 : ¬ (j : Int) < 0 := by omega
            have g2 : ¬ s.groups.length ≤ i := by omega
            have g4 : ¬ s.groups.length ≤ j := by omega
            have f5 : (decide (s.phases.length ≤ i) || decide (s.phases.length ≤ j)) = true := by simp; omega
            simp (disch := omega) [go_sem, z1, z2, k1, k2, hOk, g2, g4, f5]
            refine callK_data (r1 i j (by omega) (by omega)) [] (by simp [go_sem, hp1, hp2, hp3, hp4, hp5, hp6]) (.inl rfl) (by simp [go_sem]) (fun _ => ?_)
            simp (disch := omega) [go_sem, z1, z2, k1, k2, hOk, g2, g4, f5]
            refine callK_data (r2 i j (by omega) (by rw [hrl i (by omega)]; omega)) [] (by simp [go_sem, hp1, hp2, hp3, hp4, hp5, hp6]) (.inl rfl) (by simp [go_sem]) (fun _ => ?_)
            simp (disch := omega) [go_sem, z1, z2, k1, k2, hOk, g2, g4, f5]
            refine callK_data q7 [] (by simp [go_sem, hp1, hp2, hp3, hp4, hp5, hp6]) (.inl rfl) (by simp [go_sem]) (fun _ => ?_)
            simp (disch := omega) [go_sem, hOk]
            refine callK_data (r4 hG hOk.needs hOk.low) [] (by simp [go_sem, hp1, hp2, hp3, hp4, hp5, hp6, hip]) (.inl rfl) (by simp [go_sem]) (fun _ => ?_)
            simp (disch := omega) [go_sem, hOk]
            refine callK_data q6 [] (by simp [go_sem, hp1, hp2, hp3, hp4, hp5, hp6]) (.inl rfl) (by simp [go_sem]) (fun _ => ?_)
            simp (disch := omega) [go_sem, hOk]
        · have k1 := askN_arg (b := (s.groups.length : Int)) hOk hab
          by_cases hcd : (0 ≤ a ∧ a < s.phases.length) ∧ 0 ≤ b ∧ b < s.phases.length
          · have k2 := askN_ok (b := (s.phases.length : Int)) hOk hcd
            obtain ⟨i, rfl⟩ := Int.eq_ofNat_of_zero_le hcd.1.1
            obtain ⟨j, rfl⟩ := Int.eq_ofNat_of_zero_le hcd.2.1
            have z1 : ¬ (i : Int) < 0 := by omega
            have z2 : ¬ (j : Int) < 0 := by omega
            have g5 : (decide (s.groups.length ≤ i) || decide (s.groups.length ≤ j)) = true := by simp; omega
            have f2 : ¬ s.phases.length ≤ i := by omega
            have f4 : ¬ s.phases.length ≤ j := by omega
            simp (disch := omega) [go_sem, z1, z2, k1, k2, hOk, g5, f2, f4]
            refine callK_data (r3 i j hG (by omega) (by omega)) [] (by simp [go_sem, hp1, hp2, hp3, hp4, hp5, hp6]) (.inl rfl) (by simp [go_sem]) (fun _ => ?_)
            simp (disch := omega) [go_sem, z1, z2, k1, k2, hOk, g5, f2, f4]
            refine callK_data q7 [] (by simp [go_sem, hp1, hp2, hp3, hp4, hp5, hp6]) (.inl rfl) (by simp [go_sem]) (fun _ => ?_)
            simp (disch := omega) [go_sem, hOk]
            refine callK_data (r4 hG hOk.needs hOk.low) [] (by simp [go_sem, hp1, hp2, hp3, hp4, hp5, hp6, hip]) (.inl rfl) (by simp [go_sem]) (fun _ => ?_)
            simp (disch := omega) [go_sem, hOk]
            refine callK_data q6 [] (by simp [go_sem, hp1, hp2, hp3, hp4, hp5, hp6]) (.inl rfl) (by simp [go_sem]) (fun _ => ?_)
            simp (disch := omega) [go_sem, hOk]
          · have k2 := askN_arg (b := (s.phases.length : Int)) hOk hcd
            have g5 : (decide (a < 0) || decide ((s.groups.length : Int) ≤ a) || decide (b < 0) || decide ((s.groups.length : Int) ≤ b)) = true := by simp; omega
            have f5 : (decide (a < 0) || decide ((s.phases.length : Int) ≤ a) || decide (b < 0) || decide ((s.phases.length : Int) ≤ b)) = true := by simp; omega
            simp (disch := omega) [go_sem, k1, k2, hOk, g5, f5]
            refine callK_data q7 [] (by simp [go_sem, hp1, hp2, hp3, hp4, hp5, hp6]) (.inl rfl) (by simp [go_sem]) (fun _ => ?_)
            simp (disch := omega) [go_sem, hOk]
            refine callK_data (r4 hG hOk.needs hOk.low) [] (by simp [go_sem, hp1, hp2, hp3, hp4, hp5, hp6, hip]) (.inl rfl) (by simp [go_sem]) (fun _ => ?_)
            simp (disch := omega) [go_sem, hOk]
            refine callK_data q6 [] (by simp [go_sem, hp1, hp2, hp3, hp4, hp5, hp6]) (.inl rfl) (by simp [go_sem]) (fun _ => ?_)
            simp (disch := omega) [go_sem, hOk]
      · have k1 := fun b l => askN_bad (b := b) (l := l) hOk
        rw [checkN_bad hOk]
        simp (disch := omega) [go_sem, k1, hOk]
end Go.Proofs.YthjojamcolmbdaaDoor
