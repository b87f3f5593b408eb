/- The statement SiteBack: the walk. -/
import Derived.Test.YtiibccoaopjoiaaDoorSmall5
set_option linter.unusedSimpArgs false
set_option linter.unusedVariables false
namespace Go.Proofs.YtiibccoaopjoiaaDoor
open Go.AM Go.RowKit
set_option maxRecDepth 100000

theorem write_good {s : Sit} (h : SiteOk s) : FnD Tryd.prog 20 [sitV s] (.tup [.sl 1 (bts (writeB s)), .int .i64 0]) tabG := by
  have q := write_spec s
  rw [checkN_ok h, show writeV s = writeB s by unfold writeV; rw [if_pos h]] at q
  exact q
theorem write_nogood {s : Sit} (h : ¬ SiteOk s) : FnD Tryd.prog 20 [sitV s] (.tup [.sl 1 [], .int .i64 50]) tabG := by
  have q := write_spec s
  rw [checkN_bad h, show writeV s = [] by unfold writeV; rw [if_neg h]] at q
  exact q
theorem read_good {s : Sit} (h : SiteOk s) : FnD Tryd.prog 21 [.sl 1 (bts (writeB s))] (.tup [sitV s, .int .i64 0]) tabG := by
  have q := sread_spec (writeB s)
  obtain ⟨h1, h2⟩ := read_write h
  rw [(read_ok h1).1, (read_ok h1).2, h2] at q
  exact q
theorem read_nogood {l : List UInt8} (h : ¬ ∃ s, SiteOk s ∧ writeB s = l) : FnD Tryd.prog 21 [.sl 1 (bts l)] (.tup [sitV zeroS, .int .i64 8]) tabG := by
  have q := sread_spec l
  rw [← read_iff] at h
  rw [(read_bad h).1, (read_bad h).2] at q
  exact q
theorem check_good {s : Sit} (h : SiteOk s) : FnD Tryd.prog 22 [sitV s] (.int .i64 0) tabG := by
  have q := check_spec s
  rw [checkN_ok h] at q
  exact q
theorem check_nogood {s : Sit} (h : ¬ SiteOk s) : FnD Tryd.prog 22 [sitV s] (.int .i64 50) tabG := by
  have q := check_spec s
  rw [checkN_bad h] at q
  exact q
abbrev sitU (s : Sit) : V := .agg [.int .i64 s.id, .sl 3 (s.groups.map grpV), .sl 1 (sets s.apart), .sl 1 (rows s.between), .sl 5 (s.phases.map phaV), .sl 4 (s.eyes.map eyeV), .int .i64 s.watch, .int .i64 s.feed, .int .i64 s.heal, .int .i64 s.low, .int .i64 s.high, .sl 3 (s.plans.map plnV)]
theorem sitU_eq (s : Sit) : sitV s = sitU s := rfl
theorem sitU_pure (s : Sit) : (sitU s).pure := sit_pure s
set_option maxHeartbeats 4000000 in
theorem sback_spec (s : Sit) (l : List UInt8) : FnD Tryd.prog 3 [sitV s, .sl 1 (bts l)] (.bool true) tabG := by
  have hps := sitU_pure s
  have hpl := bts_pure l
  have hll := bts_len l
  have qs := small5_spec s
  have w1 := fun h => write_good (s := s) h
  have w2 := fun h => write_nogood (s := s) h
  have r1 := fun h => read_good (s := s) h
  have c1 := fun h => check_good (s := s) h
  have c2 := fun h => check_nogood (s := s) h
  have hpw := bts_pure (writeB s)
  have hbw := bytesV_bts (writeB s)
  rw [sitU_eq] at qs w1 w2 r1 c1 c2 ⊢
  generalize writeB s = w at *
  refine fnD_of mixed Tryd.func3 rfl rfl (by simp [Tryd.ntmps3]) fun hwf E => ?_
  simp (disch := omega) [Tryd.ntmps3, go_sem]
  refine callK_data alive5_spec [] (by simp [go_sem]) (.inl rfl) (by simp [go_sem]) (fun _ => ?_) (by simp [tabG, go_sem])
  simp (disch := omega) [go_sem]
  refine callK_data qs [] (by simp [go_sem, grps_pure, sets_pure, rows_pure, phas_pure, eyes_pure, plns_pure]) (.inl rfl) (by simp [go_sem]) (fun _ => ?_)
  simp (disch := omega) [go_sem, hll]
  refine br_of (fun h1 => ?_) (fun h1 => ?_)
  · simp (disch := omega) [go_sem]
  · simp (disch := omega) [go_sem]
    by_cases hk : SiteOk s
    · refine callK_data (w1 hk) [] (by simp [go_sem, grps_pure, sets_pure, rows_pure, phas_pure, eyes_pure, plns_pure]) (.inl rfl) (by simp [go_sem, hpw]) (fun _ => ?_) (by simp [tabG, go_sem])
      simp (disch := omega) [go_sem]
      refine callK_data (r1 hk) [] (by simp [go_sem, hpw]) (.inl rfl) (by simp [go_sem, grps_pure, sets_pure, rows_pure, phas_pure, eyes_pure, plns_pure]) (fun _ => ?_) (by simp [tabG, go_sem])
      simp (disch := omega) [go_sem]
      refine callK_data (w1 hk) [] (by simp [go_sem, grps_pure, sets_pure, rows_pure, phas_pure, eyes_pure, plns_pure]) (.inl rfl) (by simp [go_sem, hpw]) (fun _ => ?_) (by simp [tabG, go_sem])
      simp (disch := omega) [go_sem, hbw, strV]
      refine callK_data (c1 hk) [] (by simp [go_sem, grps_pure, sets_pure, rows_pure, phas_pure, eyes_pure, plns_pure]) (.inl rfl) (by simp [go_sem]) (fun _ => ?_) (by simp [tabG, go_sem])
      simp (disch := omega) [go_sem]
      by_cases hb : ∃ t, SiteOk t ∧ writeB t = l
      · obtain ⟨t, ht, hbt⟩ := hb
        have r2 := read_good ht
        have w4 := write_good ht
        rw [hbt, sitU_eq] at r2
        rw [hbt, sitU_eq] at w4
        have hbl := bytesV_bts l
        refine callK_data r2 [] (by simp [go_sem, hpl]) (.inl rfl) (by simp [go_sem, grps_pure, sets_pure, rows_pure, phas_pure, eyes_pure, plns_pure]) (fun _ => ?_) (by simp [tabG, go_sem])
        simp (disch := omega) [go_sem]
        refine callK_data w4 [] (by simp [go_sem, grps_pure, sets_pure, rows_pure, phas_pure, eyes_pure, plns_pure]) (.inl rfl) (by simp [go_sem, hpl]) (fun _ => ?_) (by simp [tabG, go_sem])
        simp (disch := omega) [go_sem, hbl, strV]
      · have r3 := read_nogood hb
        refine callK_data r3 [] (by simp [go_sem, hpl]) (.inl rfl) (by simp [sitV, zeroS, sets, rows, go_sem]) (fun _ => ?_) (by simp [tabG, go_sem])
        simp (disch := omega) [go_sem, sitV, zeroS]
    · refine callK_data (w2 hk) [] (by simp [go_sem, grps_pure, sets_pure, rows_pure, phas_pure, eyes_pure, plns_pure]) (.inl rfl) (by simp [go_sem]) (fun _ => ?_) (by simp [tabG, go_sem])
      simp (disch := omega) [go_sem]
      refine callK_data (c2 hk) [] (by simp [go_sem, grps_pure, sets_pure, rows_pure, phas_pure, eyes_pure, plns_pure]) (.inl rfl) (by simp [go_sem]) (fun _ => ?_) (by simp [tabG, go_sem])
      simp (disch := omega) [go_sem]
      by_cases hb : ∃ t, SiteOk t ∧ writeB t = l
      · obtain ⟨t, ht, hbt⟩ := hb
        have r2 := read_good ht
        have w4 := write_good ht
        rw [hbt, sitU_eq] at r2
        rw [hbt, sitU_eq] at w4
        have hbl := bytesV_bts l
        refine callK_data r2 [] (by simp [go_sem, hpl]) (.inl rfl) (by simp [go_sem, grps_pure, sets_pure, rows_pure, phas_pure, eyes_pure, plns_pure]) (fun _ => ?_) (by simp [tabG, go_sem])
        simp (disch := omega) [go_sem]
        refine callK_data w4 [] (by simp [go_sem, grps_pure, sets_pure, rows_pure, phas_pure, eyes_pure, plns_pure]) (.inl rfl) (by simp [go_sem, hpl]) (fun _ => ?_) (by simp [tabG, go_sem])
        simp (disch := omega) [go_sem, hbl, strV]
      · have r3 := read_nogood hb
        refine callK_data r3 [] (by simp [go_sem, hpl]) (.inl rfl) (by simp [sitV, zeroS, sets, rows, go_sem]) (fun _ => ?_) (by simp [tabG, go_sem])
        simp (disch := omega) [go_sem, sitV, zeroS]
end Go.Proofs.YtiibccoaopjoiaaDoor
