
/- The document's twins of sites, and what is the same. -/
import Derived.Test.YtdeionjkcmpnpaaGreatDoorRefS
set_option linter.unusedSimpArgs false
set_option linter.unusedVariables false
namespace Go.Proofs.YtdeionjkcmpnpaaGreatDoor
open Go.AM Go.RowKit
set_option maxRecDepth 100000

theorem rsame_spec (l : List Int) : FnD Tryz.prog 50 [.sl 1 (ints l), .sl 1 (ints l)] (.bool true) := by
  refine fnD_of mixed Tryz.func50 rfl rfl (by simp [Tryz.ntmps50]) fun hwf E => ?_
  simp (disch := omega) [go_sem, ints_len] at hwf
  simp (disch := omega) [Tryz.ntmps50, go_sem, ints_len]
  refine awz_loop mixed (fun k : Nat => ⟨[(5, .int .i64 k), (0, .sl 1 (ints l)), (1, .sl 1 (ints l)), (4, .bool false)], [], 1024, [], 26, 0, []⟩)
    (fun k => k ≤ l.length) (fun k => l.length - k) 0 (by omega) ?_ ?_
  · refine Le.mk [] [] ⟨rfl, rfl, rfl⟩ ?_ ?_ ?_ <;> simp [go_sem, ints_pure]
  · intro k hk
    simp (disch := omega) [go_sem, ints_len]
    refine br_of (fun h => ?_) (fun h => ?_) <;> simp at h
    · simp (disch := omega) [go_sem, ints_len, nth_ints, h]
      refine ⟨.inl (by kernel_rfl), ?_⟩
      refine round_of (k + 1) (by omega) (by omega) (Le.mk [] [] ⟨rfl, rfl, rfl⟩ ?_ ?_ ?_) <;> simp [go_sem, ints_pure]
    · simp (disch := omega) [go_sem]
theorem rsameplan_spec (p : Pln) : FnD Tryz.prog 162 [plnV p, plnV p] (.bool true) := by
  unfold plnV
  refine fnD_of mixed Tryz.func162 rfl rfl (by simp [Tryz.ntmps162]) fun hwf E => ?_
  simp (disch := omega) [Tryz.ntmps162, go_sem]
  refine callK_data (rsame_spec p.splits) [] (by simp [go_sem, ints_pure]) (.inl rfl) (by simp [go_sem]) (fun _ => ?_)
  simp (disch := omega) [go_sem]
theorem rsameplans_spec (l : List Pln) : FnD Tryz.prog 100 [.sl 3 (l.map plnV), .sl 3 (l.map plnV)] (.bool true) := by
  have hp := plns_pure l
  refine fnD_of mixed Tryz.func100 rfl rfl (by simp [Tryz.ntmps100]) fun hwf E => ?_
  simp (disch := omega) [go_sem] at hwf
  simp (disch := omega) [Tryz.ntmps100, go_sem]
  refine awz_loop mixed (fun k : Nat => ⟨[(5, .int .i64 k), (0, .sl 3 (l.map plnV)), (1, .sl 3 (l.map plnV)), (4, .bool false)], [], 1024, [], 27, 0, []⟩)
    (fun k => k ≤ l.length) (fun k => l.length - k) 0 (by omega) ?_ ?_
  · refine Le.mk [] [] ⟨rfl, rfl, rfl⟩ ?_ ?_ ?_ <;> simp [go_sem, hp]
  · intro k hk
    simp (disch := omega) [go_sem]
    refine br_of (fun h => ?_) (fun h => ?_) <;> simp at h
    · have hg : nth (l.map plnV) k = plnV l[k] := nth_map h
      have hq := rsameplan_spec l[k]
      unfold plnV at hq
      simp (disch := omega) [go_sem, h, hg, plnV]
      refine callK_data hq [] (by simp [go_sem, ints_pure]) (.inl rfl) (by simp [go_sem]) (fun _ => ?_)
      simp (disch := omega) [go_sem]
      refine ⟨.inl (by kernel_rfl), ?_⟩
      refine round_of (k + 1) (by omega) (by omega) (Le.mk [] [] ⟨rfl, rfl, rfl⟩ ?_ ?_ ?_) <;> simp [go_sem, hp]
    · simp (disch := omega) [go_sem]

set_option maxHeartbeats 4000000 in
theorem rsames_spec (s : Sit) : FnD Tryz.prog 49 [sitV s, sitV s] (.bool true) := by
  have hpu := (⟨grps_pure s.groups, phas_pure s.phases, eyes_pure s.eyes, plns_pure s.plans, sets_pure s.apart, rows_pure s.between⟩ : _ ∧ _ ∧ _ ∧ _ ∧ _ ∧ _)
  obtain ⟨hp1, hp2, hp3, hp4, hp5, hp6⟩ := hpu
  unfold sitV
  refine fnD_of mixed Tryz.func49 rfl rfl (by simp [Tryz.ntmps49]) fun hwf E => ?_
  simp (disch := omega) [go_sem, sets_len, rows_len] at hwf
  simp (disch := omega) [Tryz.ntmps49, go_sem, sets_len, rows_len]
  refine awz_loop mixed (fun k : Nat => ⟨[(5, .int .i64 k), (3, .ptr 16 1 0 0), (2, .ptr 0 1 0 0), (4, .bool false)], [(16, ⟨.box, 87, 12, [sitV s]⟩), (0, ⟨.box, 87, 12, [sitV s]⟩)], 1024, [], 191, 0, []⟩)
    (fun k => k ≤ s.groups.length) (fun k => s.groups.length - k) 0 (by omega) ?_ ?_
  · refine Le.mk [(0, some 0), (16, some 16)] [0, 16] ⟨rfl, rfl, rfl⟩ ?_ ?_ ?_ <;> simp [go_sem, sitV, hp1, hp2, hp3, hp4, hp5, hp6]
  · intro k hk
    simp (disch := omega) [go_sem, sitV, sets_len, rows_len]
    refine br_of (fun h => ?_) (fun h => ?_) <;> simp at h
    · have hg : nth (s.groups.map grpV) k = grpV s.groups[k] := nth_map h
      simp (disch := omega) [go_sem, h, hg, grpV]
      refine ⟨.inl (by kernel_rfl), ?_⟩
      refine round_of (k + 1) (by omega) (by omega) (Le.mk [(0, some 0), (16, some 16)] [0, 16] ⟨rfl, rfl, rfl⟩ ?_ ?_ ?_) <;> simp [go_sem, sitV, hp1, hp2, hp3, hp4, hp5, hp6]
    · have hkl : k = s.groups.length := by omega
      clear h
      subst hkl
      simp (disch := omega) [go_sem]
      refine awz_loop mixed (fun k : Nat => ⟨[(6, .int .i64 k), (3, .ptr 16 1 0 0), (2, .ptr 0 1 0 0), (4, .bool false)], [(16, ⟨.box, 87, 12, [sitV s]⟩), (0, ⟨.box, 87, 12, [sitV s]⟩)], 2048, [], 191, 0, []⟩)
        (fun k => k ≤ s.apart.length) (fun k => s.apart.length - k) 0 (by omega) ?_ ?_
      · refine Le.mk [(0, some 0), (16, some 16)] [0, 16] ⟨rfl, rfl, rfl⟩ ?_ ?_ ?_ <;> simp [go_sem, sitV, hp1, hp2, hp3, hp4, hp5, hp6]
      · intro k hk
        simp (disch := omega) [go_sem, sitV, sets_len, rows_len]
        refine br_of (fun h => ?_) (fun h => ?_) <;> simp at h
        · simp (disch := omega) [go_sem, h, nth_sets, sets_len]
          refine ⟨.inl (by kernel_rfl), ?_⟩
          refine round_of (k + 1) (by omega) (by omega) (Le.mk [(0, some 0), (16, some 16)] [0, 16] ⟨rfl, rfl, rfl⟩ ?_ ?_ ?_) <;> simp [go_sem, sitV, hp1, hp2, hp3, hp4, hp5, hp6]
        · have hkl : k = s.apart.length := by omega
          clear h
          subst hkl
          simp (disch := omega) [go_sem]
          refine awz_loop mixed (fun k : Nat => ⟨[(7, .int .i64 k), (3, .ptr 16 1 0 0), (2, .ptr 0 1 0 0), (4, .bool false)], [(16, ⟨.box, 87, 12, [sitV s]⟩), (0, ⟨.box, 87, 12, [sitV s]⟩)], 3072, [], 191, 0, []⟩)
            (fun k => k ≤ s.between.length) (fun k => s.between.length - k) 0 (by omega) ?_ ?_
          · refine Le.mk [(0, some 0), (16, some 16)] [0, 16] ⟨rfl, rfl, rfl⟩ ?_ ?_ ?_ <;> simp [go_sem, sitV, hp1, hp2, hp3, hp4, hp5, hp6]
          · intro k hk
            simp (disch := omega) [go_sem, sitV, sets_len, rows_len]
            refine br_of (fun h => ?_) (fun h => ?_) <;> simp at h
            · simp (disch := omega) [go_sem, h, nth_rows, rows_len]
              refine callK_data (rsame_spec s.between[k]) [] (by simp [go_sem, ints_pure]) (.inl rfl) (by simp [go_sem]) (fun _ => ?_)
              simp (disch := omega) [go_sem]
              refine ⟨.inl (by kernel_rfl), ?_⟩
              refine round_of (k + 1) (by omega) (by omega) (Le.mk [(0, some 0), (16, some 16)] [0, 16] ⟨rfl, rfl, rfl⟩ ?_ ?_ ?_) <;> simp [go_sem, sitV, hp1, hp2, hp3, hp4, hp5, hp6]
            · have hkl : k = s.between.length := by omega
              clear h
              subst hkl
              simp (disch := omega) [go_sem]
              refine awz_loop mixed (fun k : Nat => ⟨[(8, .int .i64 k), (3, .ptr 16 1 0 0), (2, .ptr 0 1 0 0), (4, .bool false)], [(16, ⟨.box, 87, 12, [sitV s]⟩), (0, ⟨.box, 87, 12, [sitV s]⟩)], 4096, [], 191, 0, []⟩)
                (fun k => k ≤ s.phases.length) (fun k => s.phases.length - k) 0 (by omega) ?_ ?_
              · refine Le.mk [(0, some 0), (16, some 16)] [0, 16] ⟨rfl, rfl, rfl⟩ ?_ ?_ ?_ <;> simp [go_sem, sitV, hp1, hp2, hp3, hp4, hp5, hp6]
              · intro k hk
                simp (disch := omega) [go_sem, sitV, sets_len, rows_len]
                refine br_of (fun h => ?_) (fun h => ?_) <;> simp at h
                · have hg : nth (s.phases.map phaV) k = phaV s.phases[k] := nth_map h
                  simp (disch := omega) [go_sem, h, hg, phaV]
                  refine ⟨.inl (by kernel_rfl), ?_⟩
                  refine round_of (k + 1) (by omega) (by omega) (Le.mk [(0, some 0), (16, some 16)] [0, 16] ⟨rfl, rfl, rfl⟩ ?_ ?_ ?_) <;> simp [go_sem, sitV, hp1, hp2, hp3, hp4, hp5, hp6]
                · have hkl : k = s.phases.length := by omega
                  clear h
                  subst hkl
                  simp (disch := omega) [go_sem]
                  refine awz_loop mixed (fun k : Nat => ⟨[(9, .int .i64 k), (3, .ptr 16 1 0 0), (2, .ptr 0 1 0 0), (4, .bool false)], [(16, ⟨.box, 87, 12, [sitV s]⟩), (0, ⟨.box, 87, 12, [sitV s]⟩)], 5120, [], 191, 0, []⟩)
                    (fun k => k ≤ s.eyes.length) (fun k => s.eyes.length - k) 0 (by omega) ?_ ?_
                  · refine Le.mk [(0, some 0), (16, some 16)] [0, 16] ⟨rfl, rfl, rfl⟩ ?_ ?_ ?_ <;> simp [go_sem, sitV, hp1, hp2, hp3, hp4, hp5, hp6]
                  · intro k hk
                    simp (disch := omega) [go_sem, sitV, sets_len, rows_len]
                    refine br_of (fun h => ?_) (fun h => ?_) <;> simp at h
                    · have hg : nth (s.eyes.map eyeV) k = eyeV s.eyes[k] := nth_map h
                      simp (disch := omega) [go_sem, h, hg, eyeV]
                      refine ⟨.inl (by kernel_rfl), ?_⟩
                      refine round_of (k + 1) (by omega) (by omega) (Le.mk [(0, some 0), (16, some 16)] [0, 16] ⟨rfl, rfl, rfl⟩ ?_ ?_ ?_) <;> simp [go_sem, sitV, hp1, hp2, hp3, hp4, hp5, hp6]
                    · have hkl : k = s.eyes.length := by omega
                      clear h
                      subst hkl
                      simp (disch := omega) [go_sem, sitV]
                      refine callK_data (rsameplans_spec s.plans) [] (by simp [go_sem, hp1, hp2, hp3, hp4, hp5, hp6]) (.inl rfl) (by simp [go_sem]) (fun _ => ?_)
                      simp (disch := omega) [go_sem]

end Go.Proofs.YtdeionjkcmpnpaaGreatDoor
