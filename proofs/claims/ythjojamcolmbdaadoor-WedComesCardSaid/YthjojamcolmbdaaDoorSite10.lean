/- The layer site: Plan and Worst. -/
import Derived.Test.YthjojamcolmbdaaDoorSite9
namespace Go.Proofs.YthjojamcolmbdaaDoor
open Go.AM Go.RowKit
set_option maxRecDepth 100000

theorem SiteOk.shaped {s : Sit} (h : SiteOk s) : Shaped s := (h 0 (by omega)).2
theorem SiteOk.apart {s : Sit} (h : SiteOk s) : ApartOk s := h 1 (by omega)
theorem SiteOk.phased {s : Sit} (h : SiteOk s) : PhasedOk s := h 2 (by omega)
theorem SiteOk.needs {s : Sit} (h : SiteOk s) : NeedsOk s := needs_ok s h.shaped h.apart h.phased
theorem SiteOk.low {s : Sit} (h : SiteOk s) : 0 ≤ s.low ∧ s.high ≤ 1048576 := by
  have h4 : timedN s = true := h 4 (by omega)
  simp [timedN, inN] at h4
  omega
theorem checkN_ok {s : Sit} (h : SiteOk s) : checkN s = 0 := by unfold checkN; rw [if_pos h]
theorem checkN_bad {s : Sit} (h : ¬ SiteOk s) : checkN s = 50 := by unfold checkN; rw [if_neg h]

theorem plan_spec (s : Sit) (p : Pln) : FnD Tryd.prog 23 [sitV s, plnV p] (.tup [.bool (decide (SiteOk s) && decide (Fits s p)), .int .i64 (checkN s)]) tabG := by
  have hpu := (⟨grps_pure s.groups, phas_pure s.phases, eyes_pure s.eyes, plns_pure s.plans, sets_pure s.apart, rows_pure s.between⟩ : _ ∧ _ ∧ _ ∧ _ ∧ _ ∧ _)
  obtain ⟨hp1, hp2, hp3, hp4, hp5, hp6⟩ := hpu
  have hc := check_spec s
  have hf := fun (h : SiteOk s) => fits_spec s p h.shaped h.needs h.low
  have hsv : sitV s = .agg [.int .i64 s.id, .sl 3 (s.groups.map grpV), .sl 1 (sets s.apart), .sl 1 (rows s.between), .sl 5 (s.phases.map phaV), .sl 4 (s.eyes.map eyeV), .int .i64 s.watch, .int .i64 s.feed, .int .i64 s.heal, .int .i64 s.low, .int .i64 s.high, .sl 3 (s.plans.map plnV)] := rfl
  have hpv : plnV p = .agg [.int .i64 p.cycle, .int .i64 p.offset, .sl 1 (ints p.splits)] := rfl
  rw [hsv] at hc hf ⊢
  rw [hpv] at hf ⊢
  refine fnD_of mixed Tryd.func23 rfl rfl (by simp [Tryd.ntmps23]) fun hwf E => ?_
  simp (disch := omega) [Tryd.ntmps23, go_sem]
  refine callK_data hc [] (by simp [go_sem, hp1, hp2, hp3, hp4, hp5, hp6]) (.inl rfl) (by simp [go_sem]) (fun _ => ?_) (by simp [tabG, go_sem])
  by_cases hOk : SiteOk s
  · rw [checkN_ok hOk]
    simp (disch := omega) [go_sem]
    refine callK_data (hf hOk) [] (by simp [go_sem, hp1, hp2, hp3, hp4, hp5, hp6, ints_pure]) (.inl rfl) (by simp [go_sem]) (fun _ => ?_) (by simp [tabG, go_sem])
    simp (disch := omega) [go_sem, hOk]
  · rw [checkN_bad hOk]
    simp (disch := omega) [go_sem, hOk]

def rowMost (row : List Int) (k : Nat) (n : Int) : Int := (row.take k).foldl maxI n
theorem rowMost_succ {row : List Int} {k : Nat} (n : Int) (h : k < row.length) : rowMost row (k + 1) n = maxI (rowMost row k n) row[k] := by
  unfold rowMost
  rw [List.take_succ_eq_append_getElem h, List.foldl_append]; rfl
def worstK (s : Sit) (k : Nat) : Int := (s.between.take k).foldl (fun m row => row.foldl maxI m) 0
theorem worstK_succ {s : Sit} {k : Nat} (h : k < s.between.length) : worstK s (k + 1) = s.between[k].foldl maxI (worstK s k) := by
  unfold worstK
  rw [List.take_succ_eq_append_getElem h, List.foldl_append]; rfl
def worstN (s : Sit) : Int := worstK s s.between.length

theorem worst_spec (s : Sit) : FnD Tryd.prog 21 [sitV s] (.tup [.int .i64 (if SiteOk s then worstN s else 0), .int .i64 (checkN s)]) tabG := by
  have hpu := (⟨grps_pure s.groups, phas_pure s.phases, eyes_pure s.eyes, plns_pure s.plans, sets_pure s.apart, rows_pure s.between⟩ : _ ∧ _ ∧ _ ∧ _ ∧ _ ∧ _)
  obtain ⟨hp1, hp2, hp3, hp4, hp5, hp6⟩ := hpu
  have hc := check_spec s
  have hsv : sitV s = .agg [.int .i64 s.id, .sl 3 (s.groups.map grpV), .sl 1 (sets s.apart), .sl 1 (rows s.between), .sl 5 (s.phases.map phaV), .sl 4 (s.eyes.map eyeV), .int .i64 s.watch, .int .i64 s.feed, .int .i64 s.heal, .int .i64 s.low, .int .i64 s.high, .sl 3 (s.plans.map plnV)] := rfl
  rw [hsv] at hc ⊢
  refine fnD_of mixed Tryd.func21 rfl rfl (by simp [Tryd.ntmps21]) fun hwf E => ?_
  simp (disch := omega) [Tryd.ntmps21, go_sem]
  refine callK_data hc [] (by simp [go_sem, hp1, hp2, hp3, hp4, hp5, hp6]) (.inl rfl) (by simp [go_sem]) (fun _ => ?_) (by simp [tabG, go_sem])
  by_cases hOk : SiteOk s
  · rw [checkN_ok hOk, if_pos hOk]
    have hgl : s.between.length ≤ 16 := by have := hOk.shaped; unfold Shaped at this; omega
    simp (disch := omega) [go_sem, rows_len]
    refine awz_loop mixed (fun k : Nat => ⟨[(17, .int .i64 k), (16, .int .i64 s.between.length), (15, .sl 1 (rows s.between)), (2, .int .i64 (worstK s k)), (3, .int .i64 0)], [], 1024, [], 33, 0, tabG⟩)
      (fun k => k ≤ s.between.length) (fun k => s.between.length - k) 0 (by simp) ?_ ?_
    · refine Le.mk [] [] ⟨rfl, rfl, rfl⟩ ?_ ?_ ?_ <;> simp [go_sem, hp6, worstK]
    · intro k hk
      simp (disch := omega) [go_sem]
      refine br_of (fun h => ?_) (fun h => ?_) <;> simp at h
      · have hrl : s.between[k].length ≤ 16 := by
          have hr := (hOk.shaped.2.2.2.2.2.2 k h).1
          rw [show s.between.getD k [] = s.between[k] by simp [h]] at hr
          have := hOk.shaped.1
          omega
        have hsucc := worstK_succ h
        simp (disch := omega) [go_sem, nth_rows, rows_len, h, ints_len]
        generalize s.between[k] = row at *
        refine awz_loop mixed (fun m : Nat => ⟨[(23, .int .i64 m), (22, .int .i64 row.length), (21, .sl 1 (ints row)), (17, .int .i64 k), (16, .int .i64 s.between.length), (15, .sl 1 (rows s.between)), (2, .int .i64 (rowMost row m (worstK s k))), (3, .int .i64 0)], [], 2048, [], 33, 0, tabG⟩)
          (fun m => m ≤ row.length) (fun m => row.length - m) 0 (by simp) ?_ ?_
        · refine Le.mk [] [] ⟨rfl, rfl, rfl⟩ ?_ ?_ ?_ <;> simp [go_sem, hp6, ints_pure, rowMost]
        · intro m hm
          simp (disch := omega) [go_sem]
          refine br_of (fun h2 => ?_) (fun h2 => ?_) <;> simp at h2
          · simp (disch := omega) [go_sem, ints_len, nth_ints, h2]
            refine round_of (m + 1) (by omega) (by omega) (Le.mk [] [] ⟨rfl, rfl, rfl⟩ ?_ ?_ ?_) <;> simp [go_sem, hp6, ints_pure, rowMost_succ _ h2, maxI]
          · have hml : m = row.length := by omega
            subst hml
            simp (disch := omega) [go_sem]
            refine round_of (k + 1) (by omega) (by omega) (Le.mk [] [] ⟨rfl, rfl, rfl⟩ ?_ ?_ ?_) <;> simp [go_sem, hp6, hsucc, rowMost]
      · have hkl : k = s.between.length := by omega
        subst hkl
        simp (disch := omega) [go_sem, worstN]
  · rw [checkN_bad hOk, if_neg hOk]
    simp (disch := omega) [go_sem]
end Go.Proofs.YthjojamcolmbdaaDoor
