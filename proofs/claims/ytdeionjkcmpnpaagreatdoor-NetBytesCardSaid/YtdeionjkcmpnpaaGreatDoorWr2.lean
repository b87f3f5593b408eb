
/- The layer site: a site is written. -/
import Derived.Test.YtdeionjkcmpnpaaGreatDoorWr
set_option linter.unusedSimpArgs false
set_option linter.unusedVariables false
namespace Go.Proofs.YtdeionjkcmpnpaaGreatDoor
open Go.AM Go.RowKit
set_option maxRecDepth 100000

theorem truth_spec (b : Bool) : FnD Tryz.prog 82 [.bool b] (.int .i64 (b2i b)) := by
  refine fnD_of mixed Tryz.func82 rfl rfl (by simp [Tryz.ntmps82]) fun hwf E => ?_
  cases b <;> simp (disch := omega) [Tryz.ntmps82, go_sem, b2i]
noncomputable def writeV (s : Sit) : List UInt8 := if SiteOk s then writeB s else []
def wsS (s : Sit) (sl : List (Nat × V)) (a : List Int) (nx : Nat) : St :=
  ⟨sl ++ [(5, .obj 224 (putN a).length), (1, .ptr 0 1 0 0)], [(224, ⟨.arr, 5, 1, bts (putN a)⟩), (0, ⟨.box, 87, 12, [sitV s]⟩)], nx, [], 155, 0, tabG⟩
def wsA0 (s : Sit) : List Int := [s.id, (s.groups.length : Int)]
def wsA1 (s : Sit) (k : Nat) : List Int := wsA0 s ++ (s.groups.take k).flatMap grpI
def wsA2 (s : Sit) (k : Nat) : List Int := wsA1 s s.groups.length ++ (s.apart.take k).flatMap fun (x : Nat) => [(x : Int)]
def wsA3 (s : Sit) (k : Nat) : List Int := wsA2 s s.apart.length ++ (s.between.take k).flatMap fun r => r
def wsA4 (s : Sit) (k : Nat) : List Int := wsA3 s s.between.length ++ [(s.phases.length : Int)] ++ (s.phases.take k).flatMap phaI
def wsA5 (s : Sit) (k : Nat) : List Int := wsA4 s s.phases.length ++ [(s.eyes.length : Int)] ++ (s.eyes.take k).flatMap eyeI
def wsA6 (s : Sit) : List Int := wsA5 s s.eyes.length ++ tailI s
theorem wsA_all (s : Sit) : wsA6 s ++ plansI s.plans = siteI s := by
  simp only [wsA6, wsA5, wsA4, wsA3, wsA2, wsA1, wsA0, List.take_length, siteI, aps_flat, betw_flat, List.append_assoc, List.cons_append, List.nil_append]
theorem wsA_len {s : Sit} (h : SitW s) (k : Nat) : (wsA1 s k).length ≤ 50 ∧ (wsA2 s k).length ≤ 66 ∧ (wsA3 s k).length ≤ 322 ∧ (wsA4 s k).length ≤ 363 ∧ (wsA5 s k).length ≤ 460 ∧ (wsA6 s).length ≤ 465 := by
  have l1 : ∀ k, ((s.groups.take k).flatMap grpI).length ≤ 3 * 16 := fun k => Nat.le_trans (flat_len fun _ _ => by simp [grpI]) (Nat.mul_le_mul_left _ (by rw [List.length_take]; have := h.gl; omega))
  have l2 : ∀ k, ((s.apart.take k).flatMap fun (x : Nat) => [(x : Int)]).length ≤ 1 * 16 := fun k => Nat.le_trans (flat_len fun _ _ => by simp) (Nat.mul_le_mul_left _ (by rw [List.length_take]; have := h.gl; have := h.al; omega))
  have l3 : ∀ k, ((s.between.take k).flatMap fun r => r).length ≤ 16 * 16 := fun k => Nat.le_trans (flat_len fun r hr => by have := (h.bt r (List.mem_of_mem_take hr)).1; have := h.gl; omega) (Nat.mul_le_mul_left _ (by rw [List.length_take]; have := h.gl; have := h.bl; omega))
  have l4 : ∀ k, ((s.phases.take k).flatMap phaI).length ≤ 5 * 8 := fun k => Nat.le_trans (flat_len fun _ _ => by simp [phaI]) (Nat.mul_le_mul_left _ (by rw [List.length_take]; have := h.pl; omega))
  have l5 : ∀ k, ((s.eyes.take k).flatMap eyeI).length ≤ 4 * 24 := fun k => Nat.le_trans (flat_len fun _ _ => by simp [eyeI]) (Nat.mul_le_mul_left _ (by rw [List.length_take]; have := h.el; omega))
  have a1 := l1 k; have a2 := l1 s.groups.length; have b1 := l2 k; have b2 := l2 s.apart.length; have c1 := l3 k; have c2 := l3 s.between.length; have d1 := l4 k; have d2 := l4 s.phases.length; have e1 := l5 k; have e2 := l5 s.eyes.length
  simp only [wsA6, wsA5, wsA4, wsA3, wsA2, wsA1, wsA0, tailI, List.length_append, List.length_cons, List.length_nil]
  omega
theorem plansI_len {l : List Pln} (h1 : l.length ≤ 8) (h2 : ∀ p ∈ l, PlnW p) : (plansI l).length ≤ 89 := by
  have := flat_len (l := l) (e := planI) (c := 11) fun p hp => by have := (h2 p hp).2.2.1; simp [planI]; omega
  simp only [plansI, List.length_cons]
  omega
theorem insideB_len {s : Sit} (hW : SitW s) : (insideB s).length ≤ 6094 := by
  have h1 := putN_len (siteI s)
  rw [← wsA_all, List.length_append] at h1
  have h2 := (wsA_len hW 0).2.2.2.2.2
  have h3 := plansI_len hW.ql hW.qp
  unfold insideB
  rw [← wsA_all]
  omega
set_option maxHeartbeats 8000000 in
theorem write_spec (s : Sit) : FnD Tryz.prog 36 [sitV s] (.tup [.sl 1 (bts (writeV s)), .int .i64 (checkN s)]) tabG := by
  have hpu := (⟨grps_pure s.groups, phas_pure s.phases, eyes_pure s.eyes, plns_pure s.plans, sets_pure s.apart, rows_pure s.between⟩ : _ ∧ _ ∧ _ ∧ _ ∧ _ ∧ _)
  obtain ⟨hp1, hp2, hp3, hp4, hp5, hp6⟩ := hpu
  have hsv : sitV s = .agg [.int .i64 s.id, .sl 3 (s.groups.map grpV), .sl 1 (sets s.apart), .sl 1 (rows s.between), .sl 5 (s.phases.map phaV), .sl 4 (s.eyes.map eyeV), .int .i64 s.watch, .int .i64 s.feed, .int .i64 s.heal, .int .i64 s.low, .int .i64 s.high, .sl 3 (s.plans.map plnV)] := rfl
  have hc := check_spec s
  rw [hsv] at hc ⊢
  refine fnD_of mixed Tryz.func36 rfl rfl (by simp [Tryz.ntmps36]) fun hwf E => ?_
  simp (disch := omega) [go_sem, sets_len, rows_len] at hwf
  simp (disch := omega) [Tryz.ntmps36, go_sem]
  refine callK_data hc [] (by simp [go_sem, hp1, hp2, hp3, hp4, hp5, hp6]) (.inl rfl) (by simp [go_sem]) (fun _ => ?_) (by simp [tabG, go_sem])
  by_cases hOk : SiteOk s
  · have hW := hOk.written
    have hL := wsA_len hW
    have e : writeV s = writeB s := by unfold writeV; rw [if_pos hOk]
    rw [checkN_ok hOk, e]
    have q0 := put_nil (wsA0 s) (by have := hW.id; simp [wsA0]; omega) (by simp [wsA0])
    simp (disch := omega) [go_sem]
    refine callK_ref q0 [(0, none)] [] [208] [] ?_ ?_ ?_ (.inl ⟨rfl, .inr ?_⟩) (fun _ => ?_)
    · simp [go_sem, ints, wsA0]
    · simp [go_sem]
    · simp [go_sem]
    · simp [go_sem, bts_noSls]
    simp (disch := omega) [go_sem]
    refine awz_loop mixed (fun k : Nat => wsS s [(33, .int .i64 k), (32, .int .i64 s.groups.length), (31, .sl 3 (s.groups.map grpV))] (wsA1 s k) 2048) (fun k => k ≤ s.groups.length) (fun k => s.groups.length - k) 0 (by omega) ?_ ?_
    · refine Le.mk [(0, some 0), (224, some 224)] [0, 224] ⟨rfl, rfl, rfl⟩ ?_ ?_ ?_ <;> simp [go_sem, wsS, wsA1, wsA0, sitV, hp1, hp2, hp3, hp4, hp5, hp6, bts_pure, sets_len, rows_len]
    · intro k hk
      have hLk := hL k
      simp (disch := omega) [go_sem, wsS, sitV, sets_len, rows_len]
      refine br_of (fun h => ?_) (fun h => ?_) <;> simp at h
      · have hmem : s.groups[k] ∈ s.groups := List.getElem_mem h
        have hb := hW.gr _ hmem
        have hg : nth (s.groups.map grpV) k = grpV s.groups[k] := nth_map h
        have hA : wsA1 s (k + 1) = wsA1 s k ++ grpI s.groups[k] := by simp only [wsA1]; rw [flat_take h, List.append_assoc]
        have q := put_num (wsA1 s k) (grpI s.groups[k]) (by simp [grpI]; omega) (by omega) (by simp [grpI])
        clear hmem
        generalize s.groups[k] = x at *
        obtain ⟨g1, g2, g3⟩ := x
        simp only [grpI] at *
        simp (disch := omega) [go_sem, h, hg, grpV, sets_len, rows_len]
        refine callK_ref q [(0, some 224)] [224] [2256] [] ?_ ?_ ?_ (.inl ⟨rfl, .inr ?_⟩) (fun _ => ?_)
        · simp [go_sem, ints, ints_pure]
        · simp [go_sem, bts_pure]
        · simp [go_sem]
        · simp [go_sem, bts_noSls]
        simp (disch := omega) [go_sem]
        refine round_of (k + 1) (by omega) (by omega) (Le.mk [(0, some 0), (224, some 224)] [0, 224] ⟨rfl, rfl, rfl⟩ ?_ ?_ ?_) <;> simp [go_sem, wsS, sitV, hp1, hp2, hp3, hp4, hp5, hp6, bts_pure, hA]
      · have hkl : k = s.groups.length := by omega
        subst hkl
        simp (disch := omega) [go_sem, sets_len, rows_len]
        refine awz_loop mixed (fun k : Nat => wsS s [(51, .int .i64 k), (50, .int .i64 s.apart.length), (49, .sl 1 (sets s.apart))] (wsA2 s k) 4096) (fun k => k ≤ s.apart.length) (fun k => s.apart.length - k) 0 (by omega) ?_ ?_
        · refine Le.mk [(0, some 0), (224, some 224)] [0, 224] ⟨rfl, rfl, rfl⟩ ?_ ?_ ?_ <;> simp [go_sem, wsS, wsA2, sitV, hp1, hp2, hp3, hp4, hp5, hp6, bts_pure, sets_len, rows_len]
        · intro k hk
          have hLk := hL k
          simp (disch := omega) [go_sem, wsS, sitV, sets_len, rows_len]
          refine br_of (fun h => ?_) (fun h => ?_) <;> simp at h
          · have hmem : s.apart[k] ∈ s.apart := List.getElem_mem h
            have hb := hW.ap _ hmem
            have hg := nth_sets h
            have hA : wsA2 s (k + 1) = wsA2 s k ++ [(s.apart[k] : Int)] := by simp only [wsA2]; rw [flat_take h, List.append_assoc]
            have q := put_num (wsA2 s k) [(s.apart[k] : Int)] (by simp) (by omega) (by simp)
            clear hmem
            generalize s.apart[k] = x at *
            simp (disch := omega) [go_sem, h, hg, sets_len, rows_len]
            refine callK_ref q [(0, some 224)] [224] [4208] [] ?_ ?_ ?_ (.inl ⟨rfl, .inr ?_⟩) (fun _ => ?_)
            · simp [go_sem, ints, ints_pure]
            · simp [go_sem, bts_pure]
            · simp [go_sem]
            · simp [go_sem, bts_noSls]
            simp (disch := omega) [go_sem]
            refine round_of (k + 1) (by omega) (by omega) (Le.mk [(0, some 0), (224, some 224)] [0, 224] ⟨rfl, rfl, rfl⟩ ?_ ?_ ?_) <;> simp [go_sem, wsS, sitV, hp1, hp2, hp3, hp4, hp5, hp6, bts_pure, hA]
          · have hkl : k = s.apart.length := by omega
            subst hkl
            simp (disch := omega) [go_sem, sets_len, rows_len]
            refine awz_loop mixed (fun k : Nat => wsS s [(64, .int .i64 k), (63, .int .i64 s.between.length), (62, .sl 1 (rows s.between))] (wsA3 s k) 8192) (fun k => k ≤ s.between.length) (fun k => s.between.length - k) 0 (by omega) ?_ ?_
            · refine Le.mk [(0, some 0), (224, some 224)] [0, 224] ⟨rfl, rfl, rfl⟩ ?_ ?_ ?_ <;> simp [go_sem, wsS, wsA3, sitV, hp1, hp2, hp3, hp4, hp5, hp6, bts_pure, sets_len, rows_len]
            · intro k hk
              have hLk := hL k
              simp (disch := omega) [go_sem, wsS, sitV, sets_len, rows_len]
              refine br_of (fun h => ?_) (fun h => ?_) <;> simp at h
              · have hmem : s.between[k] ∈ s.between := List.getElem_mem h
                have hb := hW.bt _ hmem
                have hg := nth_rows h
                have hA : wsA3 s (k + 1) = wsA3 s k ++ s.between[k] := by simp only [wsA3]; rw [flat_take h, List.append_assoc]
                have hgl := hW.gl
                have q := put_num (wsA3 s k) s.between[k] (fun x hx => (hb.2 x hx).1) (by omega) (by omega)
                clear hmem
                generalize s.between[k] = x at *
                simp (disch := omega) [go_sem, h, hg, sets_len, rows_len]
                refine callK_ref q [(0, some 224)] [224] [] [] ?_ ?_ ?_ (.inl ⟨rfl, .inr ?_⟩) (fun _ => ?_)
                · simp [go_sem, ints, ints_pure]
                · simp [go_sem, bts_pure]
                · simp [go_sem]
                · simp [go_sem, bts_noSls]
                simp (disch := omega) [go_sem]
                refine round_of (k + 1) (by omega) (by omega) (Le.mk [(0, some 0), (224, some 224)] [0, 224] ⟨rfl, rfl, rfl⟩ ?_ ?_ ?_) <;> simp [go_sem, wsS, sitV, hp1, hp2, hp3, hp4, hp5, hp6, bts_pure, hA]
              · have hkl : k = s.between.length := by omega
                subst hkl
                simp (disch := omega) [go_sem, sets_len, rows_len]
                have q := put_num (wsA3 s s.between.length) [(s.phases.length : Int)] (by simp) (by omega) (by simp)
                refine callK_ref q [(0, some 224)] [224] [8272] [] ?_ ?_ ?_ (.inl ⟨rfl, .inr ?_⟩) (fun _ => ?_)
                · simp [go_sem, ints]
                · simp [go_sem, bts_pure]
                · simp [go_sem]
                · simp [go_sem, bts_noSls]
                simp (disch := omega) [go_sem]
                refine awz_loop mixed (fun k : Nat => wsS s [(81, .int .i64 k), (80, .int .i64 s.phases.length), (79, .sl 5 (s.phases.map phaV))] (wsA4 s k) 16384) (fun k => k ≤ s.phases.length) (fun k => s.phases.length - k) 0 (by omega) ?_ ?_
                · refine Le.mk [(0, some 0), (224, some 224)] [0, 224] ⟨rfl, rfl, rfl⟩ ?_ ?_ ?_ <;> simp [go_sem, wsS, wsA4, sitV, hp1, hp2, hp3, hp4, hp5, hp6, bts_pure, sets_len, rows_len]
                · intro k hk
                  have hLk := hL k
                  simp (disch := omega) [go_sem, wsS, sitV, sets_len, rows_len]
                  refine br_of (fun h => ?_) (fun h => ?_) <;> simp at h
                  · have hmem : s.phases[k] ∈ s.phases := List.getElem_mem h
                    have hb := hW.ph _ hmem
                    have hg : nth (s.phases.map phaV) k = phaV s.phases[k] := nth_map h
                    have hA : wsA4 s (k + 1) = wsA4 s k ++ phaI s.phases[k] := by simp only [wsA4]; rw [flat_take h]; simp only [List.append_assoc]
                    have hb2 : 0 ≤ b2i s.phases[k].always := by unfold b2i; split <;> omega
                    have q := put_num (wsA4 s k) (phaI s.phases[k]) (by simp [phaI]; omega) (by omega) (by simp [phaI])
                    have qt := truth_spec s.phases[k].always
                    clear hmem
                    generalize s.phases[k] = x at *
                    obtain ⟨g1, g2, g3, g4, g5⟩ := x
                    simp only [phaI] at *
                    simp (disch := omega) [go_sem, h, hg, phaV, sets_len, rows_len]
                    refine callK_data qt [] (by simp [go_sem]) (.inl rfl) (by simp [go_sem]) (fun _ => ?_)
                    simp (disch := omega) [go_sem]
                    refine callK_ref q [(0, some 224)] [224] [16672] [] ?_ ?_ ?_ (.inl ⟨rfl, .inr ?_⟩) (fun _ => ?_)
                    · simp [go_sem, ints, ints_pure]
                    · simp [go_sem, bts_pure]
                    · simp [go_sem]
                    · simp [go_sem, bts_noSls]
                    simp (disch := omega) [go_sem]
                    refine ⟨.inl (by kernel_rfl), ?_⟩
                    refine round_of (k + 1) (by omega) (by omega) (Le.mk [(0, some 0), (224, some 224)] [0, 224] ⟨rfl, rfl, rfl⟩ ?_ ?_ ?_) <;> simp [go_sem, wsS, sitV, hp1, hp2, hp3, hp4, hp5, hp6, bts_pure, hA]
                  · have hkl : k = s.phases.length := by omega
                    subst hkl
                    simp (disch := omega) [go_sem, sets_len, rows_len]
                    have q := put_num (wsA4 s s.phases.length) [(s.eyes.length : Int)] (by simp) (by omega) (by simp)
                    refine callK_ref q [(0, some 224)] [224] [16464] [] ?_ ?_ ?_ (.inl ⟨rfl, .inr ?_⟩) (fun _ => ?_)
                    · simp [go_sem, ints]
                    · simp [go_sem, bts_pure]
                    · simp [go_sem]
                    · simp [go_sem, bts_noSls]
                    simp (disch := omega) [go_sem]
                    refine awz_loop mixed (fun k : Nat => wsS s [(110, .int .i64 k), (109, .int .i64 s.eyes.length), (108, .sl 4 (s.eyes.map eyeV))] (wsA5 s k) 32768) (fun k => k ≤ s.eyes.length) (fun k => s.eyes.length - k) 0 (by omega) ?_ ?_
                    · refine Le.mk [(0, some 0), (224, some 224)] [0, 224] ⟨rfl, rfl, rfl⟩ ?_ ?_ ?_ <;> simp [go_sem, wsS, wsA5, sitV, hp1, hp2, hp3, hp4, hp5, hp6, bts_pure, sets_len, rows_len]
                    · intro k hk
                      have hLk := hL k
                      simp (disch := omega) [go_sem, wsS, sitV, sets_len, rows_len]
                      refine br_of (fun h => ?_) (fun h => ?_) <;> simp at h
                      · have hmem : s.eyes[k] ∈ s.eyes := List.getElem_mem h
                        have hb := hW.ey _ hmem
                        have hg : nth (s.eyes.map eyeV) k = eyeV s.eyes[k] := nth_map h
                        have hA : wsA5 s (k + 1) = wsA5 s k ++ eyeI s.eyes[k] := by simp only [wsA5]; rw [flat_take h]; simp only [List.append_assoc]
                        have q := put_num (wsA5 s k) (eyeI s.eyes[k]) (by simp [eyeI]; omega) (by omega) (by simp [eyeI])
                        clear hmem
                        generalize s.eyes[k] = x at *
                        obtain ⟨g1, g2, g3, g4⟩ := x
                        simp only [eyeI] at *
                        simp (disch := omega) [go_sem, h, hg, eyeV, sets_len, rows_len]
                        refine callK_ref q [(0, some 224)] [224] [32992] [] ?_ ?_ ?_ (.inl ⟨rfl, .inr ?_⟩) (fun _ => ?_)
                        · simp [go_sem, ints, ints_pure]
                        · simp [go_sem, bts_pure]
                        · simp [go_sem]
                        · simp [go_sem, bts_noSls]
                        simp (disch := omega) [go_sem]
                        refine round_of (k + 1) (by omega) (by omega) (Le.mk [(0, some 0), (224, some 224)] [0, 224] ⟨rfl, rfl, rfl⟩ ?_ ?_ ?_) <;> simp [go_sem, wsS, sitV, hp1, hp2, hp3, hp4, hp5, hp6, bts_pure, hA]
                      · have hkl : k = s.eyes.length := by omega
                        subst hkl
                        simp (disch := omega) [go_sem, sets_len, rows_len]
                        have ht := hW.tl
                        have q := put_num (wsA5 s s.eyes.length) (tailI s) (fun x hx => (ht x hx).1) (by omega) (by simp [tailI])
                        rw [show wsA5 s s.eyes.length ++ tailI s = wsA6 s from rfl] at q
                        refine callK_ref q [(0, some 224)] [224] [32960] [] ?_ ?_ ?_ (.inl ⟨rfl, .inr ?_⟩) (fun _ => ?_)
                        · simp [go_sem, ints, tailI]
                        · simp [go_sem, bts_pure]
                        · simp [go_sem]
                        · simp [go_sem, bts_noSls]
                        have q1 := whole_spec s.plans
                        have ew := whole_of hW.ql hW.qp
                        have eb : wholeB s.plans = putN (plansI s.plans) := by unfold wholeB; rw [if_pos ew]
                        rw [ew, eb] at q1
                        have hi : putN (wsA6 s) ++ putN (plansI s.plans) = insideB s := by rw [← putN_app, wsA_all]; rfl
                        have hib : bts (putN (wsA6 s)) ++ bts (putN (plansI s.plans)) = bts (insideB s) := by rw [← bts_app, hi]
                        have hil : (putN (wsA6 s)).length + (putN (plansI s.plans)).length = (insideB s).length := by rw [← hi, List.length_append]
                        have hz := putN_len (wsA6 s)
                        have hz2 := insideB_len hW
                        have hpi := bts_pure (insideB s)
                        have hpw := bts_pure (putN (plansI s.plans))
                        have hps := bts_pure (sumB (insideB s))
                        have hls := sumB_len (insideB s)
                        have hr6 : ∀ τ, rens τ (bts (putN (wsA6 s))) = bts (putN (wsA6 s)) := fun τ => rens_pure _ (bts_pure _)
                        simp (disch := omega) [go_sem, hr6]
                        refine callK_data q1 [] (by simp [go_sem, hp4]) (.inl rfl) (by simp [go_sem, hpw]) (fun _ => ?_)
                        simp (disch := omega) [go_sem, bts_len, hib, hil, hr6]
                        refine ⟨by omega, ?_⟩
                        refine callK_ref (sum_ref (insideB s)) [] [] [224] [] ?_ ?_ ?_ (.inl ⟨rfl, .inr ?_⟩) (fun _ => ?_)
                        · simp [go_sem, bts_len, hpi]
                        · simp [go_sem]
                        · simp [go_sem]
                        · simp [go_sem, bts_noSls]
                        simp (disch := omega) [go_sem, bts_len, hls]
                        refine ⟨by omega, ?_⟩
                        rw [show writeB s = insideB s ++ sumB (insideB s) from rfl, bts_app]
                        exact all2_append (argsLe_self hpi) (argsLe_self hps)
  · have e : writeV s = [] := by unfold writeV; rw [if_neg hOk]
    rw [checkN_bad hOk, e]
    simp (disch := omega) [go_sem, bts]
end Go.Proofs.YtdeionjkcmpnpaaGreatDoor
