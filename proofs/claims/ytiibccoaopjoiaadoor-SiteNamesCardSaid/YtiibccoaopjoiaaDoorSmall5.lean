/- The statements of the layer site: the site of the chapter, how large things are. -/
import Derived.Test.YtiibccoaopjoiaaDoorRw
import Derived.Test.YtiibccoaopjoiaaDoorRegP
set_option linter.unusedSimpArgs false
set_option linter.unusedVariables false
namespace Go.Proofs.YtiibccoaopjoiaaDoor
open Go.AM Go.RowKit
set_option maxRecDepth 100000

theorem two5_spec : FnD Tryd.prog 62 [] (sitV (siteN 0)) := by
  refine fnD_of mixed Tryd.func62 rfl rfl (by simp [Tryd.ntmps62]) fun hwf E => ?_
  simp (disch := omega) [Tryd.ntmps62, go_sem]
  simp [siteN, sitV, grpV, phaV, sets, rows, ints, go_sem]
theorem write5 : FnD Tryd.prog 20 [sitV (siteN 0)] (.tup [.sl 1 (bts (writeB (siteN 0))), .int .i64 0]) tabG := by
  have h := write_spec (siteN 0)
  rw [checkN_ok siteN_ok0, show writeV (siteN 0) = writeB (siteN 0) by unfold writeV; rw [if_pos siteN_ok0]] at h
  exact h
theorem read5 : FnD Tryd.prog 21 [.sl 1 (bts (writeB (siteN 0)))] (.tup [sitV (siteN 0), .int .i64 0]) tabG := by
  have h := sread_spec (writeB (siteN 0))
  obtain ⟨h1, h2⟩ := read_write siteN_ok0
  rw [(read_ok h1).1, (read_ok h1).2, h2] at h
  exact h
theorem alive5_spec : FnD Tryd.prog 18 [] (.bool true) tabG := by
  have q1 := write5
  have q2 := read5
  have hpw := bts_pure (writeB (siteN 0))
  have hp := sit_pure (siteN 0)
  generalize writeB (siteN 0) = w at *
  refine fnD_of mixed Tryd.func18 rfl rfl (by simp [Tryd.ntmps18]) fun hwf E => ?_
  simp (disch := omega) [Tryd.ntmps18, go_sem]
  refine callK_data two5_spec [] (by simp [go_sem]) (.inl rfl) hp (fun _ => ?_)
  simp (disch := omega) [go_sem]
  refine callK_data q1 [] (by simp [go_sem, hp]) (.inl rfl) (by simp [go_sem, hpw]) (fun _ => ?_) (by simp [tabG, go_sem])
  simp (disch := omega) [go_sem]
  refine callK_data q2 [] (by simp [go_sem, hpw]) (.inl rfl) (by simp [go_sem, hp]) (fun _ => ?_) (by simp [tabG, go_sem])
  simp (disch := omega) [go_sem, sitV, siteN]

/-! small -/
def sizeF : List Nat → Int → Int
  | [], n => n
  | x :: r, n => if n < 1000 then sizeF r (n + (x : Int) / 20) else n
def sm0 (s : Sit) : Int := (s.groups.length : Int) + s.apart.length + s.between.length + s.phases.length + s.eyes.length + s.plans.length
def sm1 (s : Sit) : Int := sizeF (s.between.map List.length) (sm0 s)
def smallN (s : Sit) : Bool := decide (sizeF (s.plans.map fun p => p.splits.length) (sm1 s) < 150)
theorem sizeF_stop : ∀ (l : List Nat) (n : Int), ¬ n < 1000 → sizeF l n = n
  | [], n, h => rfl
  | x :: r, n, h => by rw [sizeF, if_neg h]
set_option maxHeartbeats 4000000 in
theorem small5_spec (s : Sit) : FnD Tryd.prog 19 [sitV s] (.bool (smallN s)) := by
  have hpu := (⟨grps_pure s.groups, phas_pure s.phases, eyes_pure s.eyes, plns_pure s.plans, sets_pure s.apart, rows_pure s.between⟩ : _ ∧ _ ∧ _ ∧ _ ∧ _ ∧ _)
  obtain ⟨hp1, hp2, hp3, hp4, hp5, hp6⟩ := hpu
  have hsv : sitV s = .agg [.int .i64 s.id, .sl 3 (s.groups.map grpV), .sl 1 (sets s.apart), .sl 1 (rows s.between), .sl 5 (s.phases.map phaV), .sl 4 (s.eyes.map eyeV), .int .i64 s.watch, .int .i64 s.feed, .int .i64 s.heal, .int .i64 s.low, .int .i64 s.high, .sl 3 (s.plans.map plnV)] := rfl
  rw [hsv]
  refine fnD_of mixed Tryd.func19 rfl rfl (by simp [Tryd.ntmps19]) fun hwf E => ?_
  simp (disch := omega) [go_sem, sets_len, rows_len] at hwf
  simp (disch := omega) [Tryd.ntmps19, go_sem, sets_len, rows_len]
  obtain ⟨_, ⟨z1, _⟩, ⟨z2, _⟩, ⟨z3, zb⟩, ⟨z4, _⟩, ⟨z5, _⟩, _, _, _, _, _, z6, zp⟩ := hwf
  have h0 : 0 ≤ sm0 s ∧ sm0 s ≤ 844424930131968 := by unfold sm0; omega
  refine awz_loop mixed (fun p : Nat × Int => ⟨[(4, .int .i64 p.1), (3, .int .i64 p.2), (1, .ptr 0 1 0 0)], [(0, ⟨.box, 29, 12, [sitV s]⟩)], 2048, [], 72, 0, []⟩)
    (fun p => p.1 ≤ s.between.length ∧ (0 ≤ p.2 ∧ p.2 ≤ 1125899906842624) ∧ sm1 s = sizeF ((s.between.map List.length).drop p.1) p.2) (fun p => s.between.length - p.1) (0, sm0 s) ⟨by simp, by omega, rfl⟩ ?_ ?_
  · refine Le.mk [(0, some 0)] [0] ⟨rfl, rfl, rfl⟩ ?_ ?_ ?_ <;> simp [go_sem, sitV, hp1, hp2, hp3, hp4, hp5, hp6, sm0]
  · rintro ⟨k, n⟩ ⟨hk, hn, hf⟩
    simp only at hk hn hf
    simp (disch := omega) [go_sem, sitV, sets_len, rows_len]
    refine br_of (fun h => ?_) (fun h => ?_)
    · simp at h
      obtain ⟨h, h2⟩ := h
      have hgr := nth_rows h
      have hlr : s.between[k].length ≤ 140737488355328 := by
        have := wfs_mem (f := fun r => V.sl 1 (ints r)) zb _ (List.getElem_mem h)
        simp [go_sem, ints_len] at this
        exact this.1
      rw [List.drop_eq_getElem_cons (by simpa using h), sizeF, if_pos h2, List.getElem_map] at hf
      generalize hR : s.between[k] = r at *
      simp (disch := omega) [go_sem, h, hgr, hR, rows_len, ints_len]
      refine round_of (k + 1, n + (r.length : Int) / 20) ⟨by simp only; omega, by simp only; omega, hf⟩ (by simp only; omega) (Le.mk [(0, some 0)] [0] ⟨rfl, rfl, rfl⟩ ?_ ?_ ?_) <;> simp [go_sem, sitV, hp1, hp2, hp3, hp4, hp5, hp6]
    · have hf2 : sm1 s = n := by
        rw [hf]
        by_cases hkl : k < s.between.length
        · have : ¬ n < 1000 := by
            intro hx
            simp [hkl, hx] at h
          exact sizeF_stop _ _ this
        · rw [List.drop_of_length_le (by simp; omega)]; rfl
      simp (disch := omega) [go_sem]
      refine awz_loop mixed (fun p : Nat × Int => ⟨[(5, .int .i64 p.1), (3, .int .i64 p.2), (1, .ptr 0 1 0 0)], [(0, ⟨.box, 29, 12, [sitV s]⟩)], 4096, [], 72, 0, []⟩)
        (fun p => p.1 ≤ s.plans.length ∧ (0 ≤ p.2 ∧ p.2 ≤ 2251799813685248) ∧ sizeF (s.plans.map fun p => p.splits.length) (sm1 s) = sizeF ((s.plans.map fun p => p.splits.length).drop p.1) p.2) (fun p => s.plans.length - p.1) (0, n) ⟨by simp, by simp only; omega, by rw [hf2]; rfl⟩ ?_ ?_
      · refine Le.mk [(0, some 0)] [0] ⟨rfl, rfl, rfl⟩ ?_ ?_ ?_ <;> simp [go_sem, sitV, hp1, hp2, hp3, hp4, hp5, hp6]
      · rintro ⟨j, m⟩ ⟨hj, hm, hg⟩
        simp only at hj hm hg
        simp (disch := omega) [go_sem, sitV]
        refine br_of (fun h => ?_) (fun h => ?_)
        · simp at h
          obtain ⟨h, h2⟩ := h
          have hgr : nth (s.plans.map plnV) j = plnV s.plans[j] := nth_map h
          have hlr : s.plans[j].splits.length ≤ 140737488355328 := by
            have := wfs_mem (f := plnV) zp _ (List.getElem_mem h)
            simp [plnV, go_sem, ints_len] at this
            exact this.2.2.1
          rw [List.drop_eq_getElem_cons (by simpa using h), sizeF, if_pos h2, List.getElem_map] at hg
          generalize hR : s.plans[j] = r at *
          obtain ⟨rc, ro, rs⟩ := r
          simp only at *
          simp (disch := omega) [go_sem, h, hgr, hR, plnV, ints_len]
          refine round_of (j + 1, m + (rs.length : Int) / 20) ⟨by simp only; omega, by simp only; omega, hg⟩ (by simp only; omega) (Le.mk [(0, some 0)] [0] ⟨rfl, rfl, rfl⟩ ?_ ?_ ?_) <;> simp [go_sem, sitV, hp1, hp2, hp3, hp4, hp5, hp6]
        · have hg2 : sizeF (s.plans.map fun p => p.splits.length) (sm1 s) = m := by
            rw [hg]
            by_cases hkl : j < s.plans.length
            · have : ¬ m < 1000 := by
                intro hx
                simp [hkl, hx] at h
              exact sizeF_stop _ _ this
            · rw [List.drop_of_length_le (by simp; omega)]; rfl
          simp (disch := omega) [go_sem, smallN, hg2]
end Go.Proofs.YtiibccoaopjoiaaDoor
