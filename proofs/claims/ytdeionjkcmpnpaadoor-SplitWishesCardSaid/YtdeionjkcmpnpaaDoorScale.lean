
/- The layer split: a site's plan for a cycle. -/
import Derived.Test.YtdeionjkcmpnpaaDoorClamp2
set_option linter.unusedSimpArgs false
set_option linter.unusedVariables false
namespace Go.Proofs.YtdeionjkcmpnpaaDoor
open Go.AM Go.RowKit
set_option maxRecDepth 100000

/-- A plan drawn out to a cycle, its first k parts. -/
def drawL (o : Pln) (c : Int) (k : Nat) : List Int := (o.splits.take k).map fun n => n * c / o.cycle
theorem drawL_len {o : Pln} {c : Int} {k : Nat} (h : k ≤ o.splits.length) : (drawL o c k).length = k := by unfold drawL; rw [List.length_map, List.length_take]; omega
theorem drawL_succ {o : Pln} {c : Int} {k : Nat} (h : k < o.splits.length) : drawL o c (k + 1) = drawL o c k ++ [o.splits[k] * c / o.cycle] := by
  unfold drawL; rw [List.take_succ_eq_append_getElem h, List.map_append]; rfl
def drawP (o : Pln) (c : Int) : Pln := ⟨c, o.offset, drawL o c o.splits.length⟩
noncomputable def scaleN (s : Sit) (i : Nat) (c : Int) : Pln := clampN s (if h : i < s.plans.length then drawP s.plans[i] c else ⟨c, 0, []⟩)
theorem scale_fits {s : Sit} (i : Nat) (c : Int) (hOk : SiteOk s) : Fits s (scaleN s i c) := clamp_fits _ hOk

def scF (s : Sit) (o : Pln) (c : Int) : Nat → St
  | 0 => ⟨[(28, .int .i64 0), (27, .int .i64 o.splits.length), (26, .sl 1 (ints o.splits)), (8, .ptr 240 1 0 0), (7, .ptr 64 1 0 0), (6, .ptr 16 1 0 0), (3, .ptr 0 1 0 0), (2, .int .i64 c)], [(240, ⟨.box, 36, 3, [plnV o]⟩), (64, ⟨.box, 36, 3, [.agg [.int .i64 c, .int .i64 o.offset, .nilS]]⟩), (16, ⟨.box, 36, 3, [.agg [.int .i64 0, .int .i64 0, .nilS]]⟩), (0, ⟨.box, 29, 12, [sitV s]⟩)], 2048, [], 51, 0, tabG⟩
  | k + 1 => ⟨[(28, .int .i64 (k + 1 : Nat)), (27, .int .i64 o.splits.length), (26, .sl 1 (ints o.splits)), (8, .ptr 240 1 0 0), (7, .ptr 64 1 0 0), (6, .ptr 16 1 0 0), (3, .ptr 0 1 0 0), (2, .int .i64 c)], [(1008, ⟨.arr, 3, 1, ints (drawL o c (k + 1))⟩), (240, ⟨.box, 36, 3, [plnV o]⟩), (64, ⟨.box, 36, 3, [.agg [.int .i64 c, .int .i64 o.offset, .obj 1008 (k + 1)]]⟩), (16, ⟨.box, 36, 3, [.agg [.int .i64 0, .int .i64 0, .nilS]]⟩), (0, ⟨.box, 29, 12, [sitV s]⟩)], 2048, [], 51, 0, tabG⟩

set_option maxHeartbeats 2000000 in
theorem scale_spec (s : Sit) (i : Nat) (c : Int) (hOk : SiteOk s) (hi : i = 0 ∨ i < s.plans.length) (hc : 0 ≤ c ∧ c ≤ 1048576) : FnD Tryd.prog 50 [sitV s, .int .i64 i, .int .i64 c] (plnV (scaleN s i c)) tabG := by
  have hpu := (⟨grps_pure s.groups, phas_pure s.phases, eyes_pure s.eyes, plns_pure s.plans, sets_pure s.apart, rows_pure s.between⟩ : _ ∧ _ ∧ _ ∧ _ ∧ _ ∧ _)
  obtain ⟨hp1, hp2, hp3, hp4, hp5, hp6⟩ := hpu
  have qc := fun p => clamp_spec s p hOk
  have hN := hOk.needs
  have hL := hOk.low
  have h8 := (groups_site.1 hOk).2.1.1
  have hfs := (groups_site.1 hOk).2.2.2.2.2.2
  have hplp : (plnV (scaleN s i c)).pure := by simp [plnV, go_sem, ints_pure]
  have hpq : ∀ p, (plnV p).pure := fun p => by simp [plnV, go_sem, ints_pure]
  have hsv : sitV s = .agg [.int .i64 s.id, .sl 3 (s.groups.map grpV), .sl 1 (sets s.apart), .sl 1 (rows s.between), .sl 5 (s.phases.map phaV), .sl 4 (s.eyes.map eyeV), .int .i64 s.watch, .int .i64 s.feed, .int .i64 s.heal, .int .i64 s.low, .int .i64 s.high, .sl 3 (s.plans.map plnV)] := rfl
  have hpv : ∀ p, plnV p = .agg [.int .i64 p.cycle, .int .i64 p.offset, .sl 1 (ints p.splits)] := fun _ => rfl
  rw [hsv] at qc ⊢
  refine fnD_of mixed Tryd.func50 rfl rfl (by simp [Tryd.ntmps50]) fun hwf E => ?_
  simp (disch := omega) [go_sem, sets_len, rows_len] at hwf
  simp (disch := omega) [Tryd.ntmps50, go_sem]
  refine br_of (fun h => ?_) (fun h => ?_) <;> simp at h
  · have hip : i < s.plans.length := by omega
    have hg : nth (s.plans.map plnV) i = plnV s.plans[i] := nth_map hip
    have hsc : scaleN s i c = clampN s (drawP s.plans[i] c) := by unfold scaleN; rw [dif_pos hip]
    have hF : Fits s s.plans[i] := by
      have := List.all_eq_true.1 hfs _ (List.getElem_mem hip)
      simpa using this
    rw [hsc]
    simp (disch := omega) [go_sem, hip, hg, hpv]
    generalize s.plans[i] = o at *
    obtain ⟨f1, f2, f3, f4, f5⟩ := (fits_iff hN).1 hF
    have hios := ints_pure o.splits
    have hoc : 1 ≤ o.cycle ∧ o.cycle ≤ 1048576 := by omega
    refine awz_loop mixed (scF s o c) (fun k => k ≤ o.splits.length) (fun k => o.splits.length - k) 0 (by omega) ?_ ?_
    · refine (Le.mk [(0, some 0), (16, some 16), (64, some 64), (240, some 240)] [0, 16, 64, 240] ⟨rfl, rfl, rfl⟩ ?_ ?_ ?_) <;> simp [go_sem, scF, sitV, plnV, hp1, hp2, hp3, hp4, hp5, hp6, hios, ints_len]
    · intro k hk
      have part : ∀ h : k < o.splits.length, (0 ≤ o.splits[k] * c ∧ o.splits[k] * c ≤ 1099511627776) ∧ (o.splits[k] * c).tdiv o.cycle = o.splits[k] * c / o.cycle ∧ 0 ≤ o.splits[k] * c / o.cycle ∧ o.splits[k] * c / o.cycle ≤ 1099511627776 := fun h => by
        have g1 := f4 k h
        have g2 := hN k (by omega)
        have b0 : 0 ≤ o.splits[k] * c := Int.mul_nonneg (by omega) hc.1
        have b1 : o.splits[k] * c ≤ 1048576 * 1048576 := Int.mul_le_mul (by omega) hc.2 hc.1 (by omega)
        refine ⟨⟨b0, by omega⟩, Int.tdiv_eq_ediv_of_nonneg b0, Int.ediv_nonneg b0 (by omega), ?_⟩
        have := Int.ediv_le_self o.cycle b0
        omega
      cases k with
      | zero =>
        simp (disch := omega) [go_sem, scF, sitV, plnV, ints_len]
        refine br_of (fun g => ?_) (fun g => ?_) <;> simp at g
        · have g' : 0 < o.splits.length := by omega
          have hp := part g'
          have hd := drawL_succ (o := o) (c := c) g'
          have hd1 : ints (drawL o c 1) = [.int .i64 (o.splits[0] * c / o.cycle)] := by rw [hd]; simp [drawL, ints]
          simp (disch := omega) [go_sem, g', ints_len, nth_ints]
          refine ⟨by omega, .inl (by kernel_rfl), ?_⟩
          refine round_of 1 (by omega) (by omega) (Le.mk [(0, some 0), (16, some 16), (64, some 64), (240, some 240), (1008, some 2256)] [0, 16, 64, 240, 2256] ⟨rfl, rfl, rfl⟩ ?_ ?_ ?_) <;> simp [go_sem, scF, sitV, plnV, hp1, hp2, hp3, hp4, hp5, hp6, hios, hd1, hp.2.1]
        · first | omega | (simp [g] at f3; omega)
      | succ k =>
        simp (disch := omega) [go_sem, scF, sitV, plnV, ints_len]
        refine br_of (fun g => ?_) (fun g => ?_) <;> simp at g
        · have g' : k + 1 < o.splits.length := by omega
          have hp := part g'
          have hd2 : ints (drawL o c (k + 1 + 1)) = ints (drawL o c (k + 1)) ++ [.int .i64 (o.splits[k + 1] * c / o.cycle)] := by rw [drawL_succ g', ints_app]; rfl
          have hpd := ints_pure (drawL o c (k + 1))
          have hdl := drawL_len (o := o) (c := c) (k := k + 1) (by omega)
          simp (disch := omega) [go_sem, g', ints_len, nth_ints, hdl]
          refine ⟨by omega, by omega, by omega, .inl (by kernel_rfl), ?_⟩
          refine round_of (k + 1 + 1) (by omega) (by omega) (Le.mk [(0, some 0), (16, some 16), (64, some 64), (240, some 240), (1008, some 1008)] [0, 16, 64, 240, 1008] ⟨rfl, rfl, rfl⟩ ?_ ?_ ?_) <;> simp [go_sem, scF, sitV, plnV, hp1, hp2, hp3, hp4, hp5, hp6, hios, hd2, hpd, hp.2.1]
        · have hkl : k + 1 = o.splits.length := by omega
          have hpd := ints_pure (drawL o c o.splits.length)
          have hdl := drawL_len (o := o) (c := c) (k := o.splits.length) (by omega)
          have qd := qc (drawP o c)
          rw [hkl]
          simp (disch := omega) [go_sem, ints_len, hdl]
          refine callK_frz qd [1008] [(1008, ⟨.ro, 3, 1, ints (drawL o c o.splits.length)⟩)] ?_ ?_ (by simp [go_sem, plnV, ints_pure]) (fun _ => ?_) (by simp [tabG, go_sem])
          · simp [go_sem, drawP, plnV, hp1, hp2, hp3, hp4, hp5, hp6, hdl]
            exact ⟨by rw [ints_len, hdl], argsLe_self hpd⟩
          · simp [go_sem, hpd, hdl]
            try exact argsLe_self hpd
          · simp (disch := omega) [go_sem, plnV, ints_len]
  · have hip : ¬ i < s.plans.length := by simp [h]
    have hsc : scaleN s i c = clampN s ⟨c, 0, []⟩ := by unfold scaleN; rw [dif_neg hip]
    rw [hsc]
    simp (disch := omega) [go_sem]
    refine callK_data (qc ⟨c, 0, []⟩) [] (by simp [go_sem, plnV, ints, hp1, hp2, hp3, hp4, hp5, hp6]) (.inl rfl) (by simp [go_sem, plnV, ints_pure]) (fun _ => ?_) (by simp [tabG, go_sem])
    simp (disch := omega) [go_sem, plnV, ints_len]
    trace_state
end Go.Proofs.YtdeionjkcmpnpaaDoor
