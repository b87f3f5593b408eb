
/- The reference stoplineref26, given what stoplineref17.Near answers. -/
import Derived.Test.YtdeionjkcmpnpaaDoorSNext
import Derived.Test.YtdeionjkcmpnpaaDoorRefS
set_option linter.unusedSimpArgs false
set_option linter.unusedVariables false
namespace Go.Proofs.YtdeionjkcmpnpaaDoor
open Go.AM Go.RowKit
set_option maxRecDepth 100000

theorem r26in_spec (x : Int) : FnD Tryd.prog 53 [.int .i64 x] (.bool (inN x 0 1048576)) := by
  refine fnD_of mixed Tryd.func53 rfl rfl (by simp [Tryd.ntmps53]) fun hwf E => ?_
  simp (disch := omega) [Tryd.ntmps53, go_sem, inN]
theorem r26plans_spec (s : Sit) : FnD Tryd.prog 52 [sitV s] (.int .i64 (manyN s)) := by
  unfold sitV
  refine fnD_of mixed Tryd.func52 rfl rfl (by simp [Tryd.ntmps52]) fun hwf E => ?_
  simp (disch := omega) [go_sem, sets_len, rows_len] at hwf
  simp (disch := omega) [Tryd.ntmps52, go_sem]
  refine br_of (fun h => ?_) (fun h => ?_) <;> simp at h
  · have e : manyN s = 1 := by unfold manyN; simp [h]
    simp (disch := omega) [go_sem, e]
  · have e : manyN s = s.plans.length := by
      have : s.plans.length ≠ 0 := by simpa using h
      unfold manyN; split <;> omega
    simp (disch := omega) [go_sem, e]
set_option maxHeartbeats 1000000 in
theorem same17_spec (p : Pln) : FnD Tryd.prog 17 [plnV p, plnV p] (.bool true) := by
  have hp := ints_pure p.splits
  unfold plnV
  refine fnD_of mixed Tryd.func17 rfl rfl (by simp [Tryd.ntmps17]) fun hwf E => ?_
  simp (disch := omega) [go_sem, ints_len] at hwf
  simp (disch := omega) [Tryd.ntmps17, go_sem, ints_len]
  refine awz_loop mixed (fun k : Nat => ⟨[(5, .int .i64 k), (3, .ptr 16 1 0 0), (2, .ptr 0 1 0 0)], [(16, ⟨.box, 36, 3, [plnV p]⟩), (0, ⟨.box, 36, 3, [plnV p]⟩)], 2048, [], 45, 0, []⟩) (fun k => k ≤ p.splits.length) (fun k => p.splits.length - k) 0 (by omega) ?_ ?_
  · refine Le.mk [(0, some 0), (16, some 16)] [0, 16] ⟨rfl, rfl, rfl⟩ ?_ ?_ ?_ <;> simp [go_sem, plnV, hp]
  · intro k hk
    simp (disch := omega) [go_sem, plnV, ints_len]
    refine br_of (fun h => ?_) (fun h => ?_) <;> simp at h
    · have g : k < p.splits.length := by omega
      have hg := nth_ints g
      simp (disch := omega) [go_sem, g, hg, ints_len]
      refine ⟨.inl (by kernel_rfl), round_of (k + 1) (by omega) (by omega) (Le.mk [(0, some 0), (16, some 16)] [0, 16] ⟨rfl, rfl, rfl⟩ ?_ ?_ ?_)⟩ <;> simp [go_sem, plnV, hp]
    · simp (disch := omega) [go_sem]
theorem hears25_spec (now wish0 many wish need : Int) (hm : many + 1 ≤ 9223372036854775807) : FnD Tryd.prog 62 [voteV (now, wish0, many), .int .i64 wish, .int .i64 need] (voteV (heardN now wish0 many wish need)) := by
  unfold voteV
  refine fnD_of mixed Tryd.func62 rfl rfl (by simp [Tryd.ntmps62]) fun hwf E => ?_
  simp (disch := omega) [go_sem] at hwf
  simp (disch := omega) [Tryd.ntmps62, go_sem]
  refine br_of (fun h1 => ?_) (fun h1 => ?_) <;> simp at h1
  · have e := heardN_eq (wish0 := wish0) (many := many) (need := need) h1
    simp (disch := omega) [go_sem, e]
  · simp (disch := omega) [go_sem]
    refine br_of (fun h2 => ?_) (fun h2 => ?_) <;> simp at h2
    · have h2' : wish = wish0 ∧ 0 < many := ⟨h2.1.symm, h2.2⟩
      simp (disch := omega) [go_sem]
      refine br_of (fun h3 => ?_) (fun h3 => ?_) <;> simp at h3
      · have e := heardN_up (now := now) (need := need) h1 h2' (by omega)
        simp (disch := omega) [go_sem, e]
      · have e := heardN_more (now := now) (need := need) h1 h2' (by omega)
        simp (disch := omega) [go_sem, e, Int.add_comm]
    · have h2' : wish = wish0 → many ≤ 0 := fun h => h2 h.symm
      simp (disch := omega) [go_sem]
      refine br_of (fun h3 => ?_) (fun h3 => ?_) <;> simp at h3
      · simp (disch := omega) [go_sem, heardN_up1 h1 h2' h3]
      · simp (disch := omega) [go_sem, heardN_one h1 h2' h3]


/-! Scaled -/
def sc26 (s : Sit) (o : Pln) (c : Int) : Nat → St
  | 0 => ⟨[(9, .int .i64 0), (8, .ptr 272 1 0 0), (7, .ptr 176 1 0 0), (6, .ptr 16 1 0 0), (3, .ptr 0 1 0 0), (2, .int .i64 c)], [(272, ⟨.box, 36, 3, [.agg [.int .i64 c, .int .i64 o.offset, .nilS]]⟩), (176, ⟨.box, 36, 3, [plnV o]⟩), (16, ⟨.box, 36, 3, [.agg [.int .i64 0, .int .i64 0, .nilS]]⟩), (0, ⟨.box, 29, 12, [sitV s]⟩)], 2048, [], 52, 0, []⟩
  | k + 1 => ⟨[(9, .int .i64 (k + 1 : Nat)), (8, .ptr 272 1 0 0), (7, .ptr 176 1 0 0), (6, .ptr 16 1 0 0), (3, .ptr 0 1 0 0), (2, .int .i64 c)], [(1008, ⟨.arr, 3, 1, ints (drawL o c (k + 1))⟩), (272, ⟨.box, 36, 3, [.agg [.int .i64 c, .int .i64 o.offset, .obj 1008 (k + 1)]]⟩), (176, ⟨.box, 36, 3, [plnV o]⟩), (16, ⟨.box, 36, 3, [.agg [.int .i64 0, .int .i64 0, .nilS]]⟩), (0, ⟨.box, 29, 12, [sitV s]⟩)], 2048, [], 52, 0, []⟩
def Near17 (s : Sit) : Prop := ∀ p, FnD Tryd.prog 115 [sitV s, plnV p] (plnV (clampN s p))
set_option maxHeartbeats 2000000 in
theorem scaled26_spec (s : Sit) (i : Nat) (c : Int) (qc : Near17 s) (hOk : SiteOk s) (hi : i = 0 ∨ i < s.plans.length) (hc : 0 ≤ c ∧ c ≤ 1048576) : FnD Tryd.prog 54 [sitV s, .int .i64 i, .int .i64 c] (plnV (scaleN s i c)) := by
  have hpu := (⟨grps_pure s.groups, phas_pure s.phases, eyes_pure s.eyes, plns_pure s.plans, sets_pure s.apart, rows_pure s.between⟩ : _ ∧ _ ∧ _ ∧ _ ∧ _ ∧ _)
  obtain ⟨hp1, hp2, hp3, hp4, hp5, hp6⟩ := hpu
  have hN := hOk.needs
  have hL := hOk.low
  have h8 := (groups_site.1 hOk).2.1.1
  have hfs := (groups_site.1 hOk).2.2.2.2.2.2
  have hplp : (plnV (scaleN s i c)).pure := by simp [plnV, go_sem, ints_pure]
  have hpq : ∀ p, (plnV p).pure := fun p => by simp [plnV, go_sem, ints_pure]
  have hsv : sitV s = .agg [.int .i64 s.id, .sl 3 (s.groups.map grpV), .sl 1 (sets s.apart), .sl 1 (rows s.between), .sl 5 (s.phases.map phaV), .sl 4 (s.eyes.map eyeV), .int .i64 s.watch, .int .i64 s.feed, .int .i64 s.heal, .int .i64 s.low, .int .i64 s.high, .sl 3 (s.plans.map plnV)] := rfl
  have hpv : ∀ p, plnV p = .agg [.int .i64 p.cycle, .int .i64 p.offset, .sl 1 (ints p.splits)] := fun _ => rfl
  unfold Near17 at qc
  rw [hsv] at qc ⊢
  refine fnD_of mixed Tryd.func54 rfl rfl (by simp [Tryd.ntmps54]) fun hwf E => ?_
  simp (disch := omega) [go_sem, sets_len, rows_len] at hwf
  simp (disch := omega) [Tryd.ntmps54, go_sem]
  refine br_of (fun h => ?_) (fun h => ?_) <;> simp at h
  rotate_left
  · have hip : i < s.plans.length := by
      have : s.plans.length ≠ 0 := by simpa using h
      omega
    have hg : nth (s.plans.map plnV) i = plnV s.plans[i] := nth_map hip
    have hsc : scaleN s i c = clampN s (drawP s.plans[i] c) := by unfold scaleN; rw [dif_pos hip]
    have hF : Fits s s.plans[i] := by
      have := List.all_eq_true.1 hfs _ (List.getElem_mem hip)
      simpa using this
    rw [hsc]
    simp (disch := omega) [go_sem, hip, hg, hpv]
    generalize s.plans[i] = o at *
    obtain ⟨f1, f2, f3, f4, f5⟩ := (fits_iff hN).1 hF
    have hios := ints_pure o.splits
    have hoc : 1 ≤ o.cycle ∧ o.cycle ≤ 1048576 := by omega
    refine awz_loop mixed (sc26 s o c) (fun k => k ≤ o.splits.length) (fun k => o.splits.length - k) 0 (by omega) ?_ ?_
    · refine (Le.mk [(0, some 0), (16, some 16), (176, some 176), (272, some 272)] [0, 16, 176, 272] ⟨rfl, rfl, rfl⟩ ?_ ?_ ?_) <;> simp [go_sem, sc26, sitV, plnV, hp1, hp2, hp3, hp4, hp5, hp6, hios, ints_len]
    · intro k hk
      have part : ∀ h : k < o.splits.length, (0 ≤ o.splits[k] * c ∧ o.splits[k] * c ≤ 1099511627776) ∧ (o.splits[k] * c).tdiv o.cycle = o.splits[k] * c / o.cycle ∧ 0 ≤ o.splits[k] * c / o.cycle ∧ o.splits[k] * c / o.cycle ≤ 1099511627776 := fun h => by
        have g1 := f4 k h
        have g2 := hN k (by omega)
        have b0 : 0 ≤ o.splits[k] * c := Int.mul_nonneg (by omega) hc.1
        have b1 : o.splits[k] * c ≤ 1048576 * 1048576 := Int.mul_le_mul (by omega) hc.2 hc.1 (by omega)
        refine ⟨⟨b0, by omega⟩, Int.tdiv_eq_ediv_of_nonneg b0, Int.ediv_nonneg b0 (by omega), ?_⟩
        have := Int.ediv_le_self o.cycle b0
        omega
      cases k with
      | zero =>
        simp (disch := omega) [go_sem, sc26, sitV, plnV, ints_len]
        refine br_of (fun g => ?_) (fun g => ?_) <;> simp at g
        · have g' : 0 < o.splits.length := by omega
          have hp := part g'
          have hd := drawL_succ (o := o) (c := c) g'
          have hd1 : ints (drawL o c 1) = [.int .i64 (o.splits[0] * c / o.cycle)] := by rw [hd]; simp [drawL, ints]
          simp (disch := omega) [go_sem, g', ints_len, nth_ints]
          refine ⟨by omega, .inl (by kernel_rfl), ?_⟩
          refine round_of 1 (by omega) (by omega) (Le.mk [(0, some 0), (16, some 16), (176, some 176), (272, some 272), (1008, some 2336)] [0, 16, 176, 272, 2336] ⟨rfl, rfl, rfl⟩ ?_ ?_ ?_) <;> simp [go_sem, sc26, sitV, plnV, hp1, hp2, hp3, hp4, hp5, hp6, hios, hd1, hp.2.1]
        · first | omega | (simp [g] at f3; omega)
      | succ k =>
        simp (disch := omega) [go_sem, sc26, sitV, plnV, ints_len]
        refine br_of (fun g => ?_) (fun g => ?_) <;> simp at g
        · have g' : k + 1 < o.splits.length := by omega
          have hp := part g'
          have hd2 : ints (drawL o c (k + 1 + 1)) = ints (drawL o c (k + 1)) ++ [.int .i64 (o.splits[k + 1] * c / o.cycle)] := by rw [drawL_succ g', ints_app]; rfl
          have hpd := ints_pure (drawL o c (k + 1))
          have hdl := drawL_len (o := o) (c := c) (k := k + 1) (by omega)
          simp (disch := omega) [go_sem, g', ints_len, nth_ints, hdl]
          refine ⟨by omega, by omega, by omega, .inl (by kernel_rfl), ?_⟩
          refine round_of (k + 1 + 1) (by omega) (by omega) (Le.mk [(0, some 0), (16, some 16), (176, some 176), (272, some 272), (1008, some 1008)] [0, 16, 176, 272, 1008] ⟨rfl, rfl, rfl⟩ ?_ ?_ ?_) <;> simp [go_sem, sc26, sitV, plnV, hp1, hp2, hp3, hp4, hp5, hp6, hios, hd2, hpd, hp.2.1]
        · have hkl : k + 1 = o.splits.length := by omega
          have hpd := ints_pure (drawL o c o.splits.length)
          have hdl := drawL_len (o := o) (c := c) (k := o.splits.length) (by omega)
          have qd := qc (drawP o c)
          rw [hkl]
          simp (disch := omega) [go_sem, ints_len, hdl]
          refine callK_frz qd [1008] [(1008, ⟨.ro, 3, 1, ints (drawL o c o.splits.length)⟩)] ?_ ?_ (by simp [go_sem, plnV, ints_pure]) (fun _ => ?_)
          · simp [go_sem, drawP, plnV, hp1, hp2, hp3, hp4, hp5, hp6, hdl]
            exact ⟨by rw [ints_len, hdl], argsLe_self hpd⟩
          · simp [go_sem, hpd, hdl]
            try exact argsLe_self hpd
          · simp (disch := omega) [go_sem, plnV, ints_len]
  · have hip : ¬ i < s.plans.length := by simp [h]
    have hsc : scaleN s i c = clampN s ⟨c, 0, []⟩ := by unfold scaleN; rw [dif_neg hip]
    rw [hsc]
    simp (disch := omega) [go_sem]
    refine callK_data (qc ⟨c, 0, []⟩) [] (by simp [go_sem, plnV, ints, hp1, hp2, hp3, hp4, hp5, hp6]) (.inl rfl) (by simp [go_sem, plnV, ints_pure]) (fun _ => ?_)
    simp (disch := omega) [go_sem, plnV, ints_len]
end Go.Proofs.YtdeionjkcmpnpaaDoor
