
/- The document's own answer on plans that fit. -/
import Derived.Test.YtdeionjkcmpnpaaDoorRefS
set_option linter.unusedSimpArgs false
set_option linter.unusedVariables false
namespace Go.Proofs.YtdeionjkcmpnpaaDoor
open Go.AM Go.RowKit
set_option maxRecDepth 100000

theorem shr_and (t b : Nat) : (t / 2 ^ b &&& 1 = 1) ↔ t.testBit b = true := by
  rw [Nat.and_one_is_mod, Nat.testBit_eq_decide_div_mod_eq, decide_eq_true_iff]
theorem fdiv_pow (t b : Nat) : (t : Int).fdiv (2 ^ b) = ((t / 2 ^ b : Nat) : Int) := by
  rw [show ((2 : Int) ^ b) = ((2 ^ b : Nat) : Int) by simp, Int.fdiv_eq_ediv_of_nonneg _ (Int.natCast_nonneg _)]
  exact (Int.natCast_ediv _ _).symm
theorem bits_one {t b : Nat} (ht : t < 4294967296) : ∃ m : Nat, bitsV .and .u32 ((t : Int) / 2 ^ b) 1 = some (.int .u32 (m : Int)) ∧ (m = 1 ↔ t.testBit b = true) := by
  refine ⟨t / 2 ^ b &&& 1, ?_, shr_and t b⟩
  have hq : t / 2 ^ b < 4294967296 := Nat.lt_of_le_of_lt (Nat.div_le_self _ _) ht
  rw [← bits_and hq (by decide), show ((t / 2 ^ b : Nat) : Int) = (t : Int) / 2 ^ b by simp]
  rfl
theorem r17in_spec (s : Sit) (i a : Nat) (hi : i < s.phases.length) (ha : a < 32) : FnD Tryd.prog 175 [sitV s, .int .i64 i, .int .i64 a] (.bool ((setAt s i).testBit a)) := by
  have hi2 : nth (s.phases.map phaV) i = phaV s.phases[i] := nth_map hi
  have eA : s.phases[i].set = setAt s i := by simp [setAt, hi]
  unfold sitV
  refine fnD_of mixed Tryd.func175 rfl rfl (by simp [Tryd.ntmps175]) fun hwf E => ?_
  simp (disch := omega) [go_sem, sets_len, rows_len] at hwf
  have hA32 := wf_set hwf.1.2.2.2.2.1.2 i
  obtain ⟨m, hb, hr⟩ := bits_one (b := a) hA32
  simp (disch := omega) [Tryd.ntmps175, go_sem, hi, hi2, phaV, eA, fdiv_pow, hb]
  rw [Bool.eq_iff_iff, beq_iff_eq, ← hr]
  omega
theorem r8apart_spec (s : Sit) (a b : Nat) (ha : a < s.apart.length) (hb : b < 32) : FnD Tryd.prog 176 [sitV s, .int .i64 a, .int .i64 b] (.bool (isAp s a b)) := by
  unfold sitV
  refine fnD_of mixed Tryd.func176 rfl rfl (by simp [Tryd.ntmps176]) fun hwf E => ?_
  simp (disch := omega) [go_sem, sets_len, rows_len] at hwf
  have hlt := wf_apart hwf.1.2.2.1.2 a ha
  obtain ⟨m, hb2, hr⟩ := bits_one (b := b) hlt
  rw [show s.apart[a].testBit b = isAp s a b by simp [isAp, ha]] at hr
  simp (disch := omega) [Tryd.ntmps176, go_sem, nth_sets, sets_len, ha, fdiv_pow, hb2]
  rw [Bool.eq_iff_iff, beq_iff_eq, ← hr]
  omega
theorem r8between_spec (s : Sit) (a b : Nat) (ha : a < s.between.length) (hb : b < s.between[a].length) : FnD Tryd.prog 177 [sitV s, .int .i64 a, .int .i64 b] (.int .i64 (betw s a b)) := by
  have i3 : s.between[a][b] = betw s a b := by simp [betw, ha, hb]
  unfold sitV
  refine fnD_of mixed Tryd.func177 rfl rfl (by simp [Tryd.ntmps177]) fun hwf E => ?_
  simp (disch := omega) [Tryd.ntmps177, go_sem, nth_rows, rows_len, ha, nth_ints, ints_len, hb, i3]
theorem after_spec (s : Sit) (i : Nat) (hi : i < s.phases.length) : FnD Tryd.prog 174 [sitV s, .int .i64 i] (.int .i64 ((i + 1) % s.phases.length : Nat)) := by
  have e0 : i + 1 = s.phases.length → (i + 1) % s.phases.length = 0 := fun e => by rw [e]; exact Nat.mod_self _
  have e1 : i + 1 < s.phases.length → (i + 1) % s.phases.length = i + 1 := fun h => Nat.mod_eq_of_lt h
  generalize (i + 1) % s.phases.length = m at *
  unfold sitV
  refine fnD_of mixed Tryd.func174 rfl rfl (by simp [Tryd.ntmps174]) fun hwf E => ?_
  simp (disch := omega) [go_sem, sets_len, rows_len] at hwf
  simp (disch := omega) [Tryd.ntmps174, go_sem]
  refine br_of (fun h => ?_) (fun h => ?_) <;> simp at h
  · obtain rfl := e0 (by omega)
    simp (disch := omega) [go_sem]
  · obtain rfl := e1 (by omega)
    simp (disch := omega) [go_sem]

set_option maxHeartbeats 2000000 in
theorem gap_spec (s : Sit) (i : Nat) (hG : GroupsOk s) (hi : i < s.phases.length) : FnD Tryd.prog 157 [sitV s, .int .i64 i] (.int .i64 (clearN s i ((i + 1) % s.phases.length))) := by
  have hpu := (⟨grps_pure s.groups, phas_pure s.phases, eyes_pure s.eyes, plns_pure s.plans, sets_pure s.apart, rows_pure s.between⟩ : _ ∧ _ ∧ _ ∧ _ ∧ _ ∧ _)
  obtain ⟨hp1, hp2, hp3, hp4, hp5, hp6⟩ := hpu
  obtain ⟨hG1, hG2, hla, hlb, hG5, hG6⟩ := id hG
  have hj : (i + 1) % s.phases.length < s.phases.length := Nat.mod_lt _ (by omega)
  have qf := after_spec s i hi
  generalize (i + 1) % s.phases.length = j at *
  have qi := fun i a h1 h2 => r17in_spec s i a h1 h2
  have qa := fun a b h1 h2 => r8apart_spec s a b h1 h2
  have qb := fun a b h1 h2 => r8between_spec s a b h1 h2
  have hsv : sitV s = .agg [.int .i64 s.id, .sl 3 (s.groups.map grpV), .sl 1 (sets s.apart), .sl 1 (rows s.between), .sl 5 (s.phases.map phaV), .sl 4 (s.eyes.map eyeV), .int .i64 s.watch, .int .i64 s.feed, .int .i64 s.heal, .int .i64 s.low, .int .i64 s.high, .sl 3 (s.plans.map plnV)] := rfl
  rw [hsv] at qf qi qa qb ⊢
  refine fnD_of mixed Tryd.func157 rfl rfl (by simp [Tryd.ntmps157]) fun hwf E => ?_
  simp (disch := omega) [go_sem, sets_len, rows_len] at hwf
  simp (disch := omega) [Tryd.ntmps157, go_sem]
  refine callK_data qf [] (by simp [go_sem, hp1, hp2, hp3, hp4, hp5, hp6]) (.inl rfl) (by simp [go_sem]) (fun _ => ?_)
  simp (disch := omega) [go_sem]
  unfold clearN
  refine awz_loop mixed (fun k : Nat => ⟨[(7, .int .i64 k), (6, .int .i64 (clearK s (setAt s i) (setAt s j) k)), (5, .int .i64 j), (2, .ptr 0 1 0 0), (1, .int .i64 i), (4, .int .i64 0)], [(0, ⟨.box, 29, 12, [sitV s]⟩)], 1024, [], 55, 0, []⟩)
    (fun k => k ≤ s.groups.length) (fun k => s.groups.length - k) 0 (by omega) ?_ ?_
  · refine Le.mk [(0, some 0)] [0] ⟨rfl, rfl, rfl⟩ ?_ ?_ ?_ <;> simp [go_sem, sitV, hp1, hp2, hp3, hp4, hp5, hp6, clearK]
  · intro a ha
    simp (disch := omega) [go_sem, sitV]
    refine br_of (fun h => ?_) (fun h => ?_) <;> simp at h
    · simp (disch := omega) [go_sem]
      have hsucc : clearK s (setAt s i) (setAt s j) (a + 1) = rowK s (setAt s i) (setAt s j) a s.groups.length (clearK s (setAt s i) (setAt s j) a) := by
        rw [clearK_succ, rowK_clear s _ _ a s.groups.length _ (by omega) (fun b hb => hG.high a h b hb)]
      generalize clearK s (setAt s i) (setAt s j) a = M0 at *
      refine awz_loop mixed (fun b : Nat => ⟨[(8, .int .i64 b), (7, .int .i64 a), (6, .int .i64 (rowK s (setAt s i) (setAt s j) a b M0)), (5, .int .i64 j), (2, .ptr 0 1 0 0), (1, .int .i64 i), (4, .int .i64 0)], [(0, ⟨.box, 29, 12, [sitV s]⟩)], 4096, [], 55, 0, []⟩)
        (fun b => b ≤ s.groups.length) (fun b => s.groups.length - b) 0 (by omega) ?_ ?_
      · refine Le.mk [(0, some 0)] [0] ⟨rfl, rfl, rfl⟩ ?_ ?_ ?_ <;> simp [go_sem, sitV, hp1, hp2, hp3, hp4, hp5, hp6, rowK]
      · intro b hb
        simp (disch := omega) [go_sem, sitV]
        refine br_of (fun h2 => ?_) (fun h2 => ?_) <;> simp at h2
        · have hs2 := rowK_succ s (setAt s i) (setAt s j) a b M0
          have hkb : a < s.between.length := by omega
          have hrl : s.between[a].length = s.groups.length := by
            have := (hG5 a h).2.1
            rwa [show s.between.getD a [] = s.between[a] by simp [hkb]] at this
          generalize rowK s (setAt s i) (setAt s j) a b M0 = M1 at *
          simp (disch := omega) [go_sem]
          refine callK_bool (qi i a hi (by omega)) [] (by simp [go_sem, hp1, hp2, hp3, hp4, hp5, hp6]) (fun j1 => ?_) (fun j1 => ?_)
          · simp (disch := omega) [go_sem]
            refine callK_bool (qi j b hj (by omega)) [] (by simp [go_sem, hp1, hp2, hp3, hp4, hp5, hp6]) (fun j2 => ?_) (fun j2 => ?_)
            · simp (disch := omega) [go_sem]
              refine callK_bool (qa a b (by omega) (by omega)) [] (by simp [go_sem, hp1, hp2, hp3, hp4, hp5, hp6]) (fun j3 => ?_) (fun j3 => ?_)
              · simp (disch := omega) [go_sem]
                refine callK_data (qb a b hkb (by omega)) [] (by simp [go_sem, hp1, hp2, hp3, hp4, hp5, hp6]) (.inl rfl) (by simp [go_sem]) (fun _ => ?_)
                simp (disch := omega) [go_sem]
                refine br_of (fun j4 => ?_) (fun j4 => ?_) <;> simp at j4
                · simp (disch := omega) [go_sem]
                  refine callK_data (qb a b hkb (by omega)) [] (by simp [go_sem, hp1, hp2, hp3, hp4, hp5, hp6]) (.inl rfl) (by simp [go_sem]) (fun _ => ?_)
                  simp (disch := omega) [go_sem]
                  refine round_of (b + 1) (by omega) (by omega) (Le.mk [(0, some 0)] [0] ⟨rfl, rfl, rfl⟩ ?_ ?_ ?_) <;> simp [go_sem, sitV, hp1, hp2, hp3, hp4, hp5, hp6, hs2, j1, j2, j3, maxI, j4]
                · have j5 : ¬ M1 < betw s a b := by omega
                  simp (disch := omega) [go_sem]
                  refine round_of (b + 1) (by omega) (by omega) (Le.mk [(0, some 0)] [0] ⟨rfl, rfl, rfl⟩ ?_ ?_ ?_) <;> simp [go_sem, sitV, hp1, hp2, hp3, hp4, hp5, hp6, hs2, j1, j2, j3, maxI, j5]
              · simp (disch := omega) [go_sem]
                refine round_of (b + 1) (by omega) (by omega) (Le.mk [(0, some 0)] [0] ⟨rfl, rfl, rfl⟩ ?_ ?_ ?_) <;> simp [go_sem, sitV, hp1, hp2, hp3, hp4, hp5, hp6, hs2, j1, j2, j3]
            · simp (disch := omega) [go_sem]
              refine round_of (b + 1) (by omega) (by omega) (Le.mk [(0, some 0)] [0] ⟨rfl, rfl, rfl⟩ ?_ ?_ ?_) <;> simp [go_sem, sitV, hp1, hp2, hp3, hp4, hp5, hp6, hs2, j1, j2]
          · simp (disch := omega) [go_sem]
            refine round_of (b + 1) (by omega) (by omega) (Le.mk [(0, some 0)] [0] ⟨rfl, rfl, rfl⟩ ?_ ?_ ?_) <;> simp [go_sem, sitV, hp1, hp2, hp3, hp4, hp5, hp6, hs2, j1]
        · have hbl : b = s.groups.length := by omega
          subst hbl
          simp (disch := omega) [go_sem]
          refine round_of (a + 1) (by omega) (by omega) (Le.mk [(0, some 0)] [0] ⟨rfl, rfl, rfl⟩ ?_ ?_ ?_) <;> simp [go_sem, sitV, hp1, hp2, hp3, hp4, hp5, hp6, hsucc]
    · have hal : a = s.groups.length := by omega
      subst hal
      simp (disch := omega) [go_sem]

/-- The document's way to tell whether a plan fits is the program's. -/
theorem fits_iff {s : Sit} {p : Pln} (hN : NeedsOk s) : Fits s p ↔ (s.low ≤ p.cycle ∧ p.cycle ≤ s.high) ∧ (0 ≤ p.offset ∧ p.offset ≤ p.cycle - 1) ∧ p.splits.length = s.phases.length ∧ (∀ i, ∀ h : i < p.splits.length, needsN s i ≤ p.splits[i] ∧ p.splits[i] ≤ p.cycle) ∧ p.splits.sum = p.cycle := by
  have hl0 : leftK p p.splits.length = p.cycle - p.splits.sum := by unfold leftK; rw [List.take_length]
  constructor
  · rintro ⟨h1, h2, h3, h4, h5⟩
    refine ⟨h1, h2, h3, fun i hi => ?_, by omega⟩
    have hf := h4 i hi
    unfold fitAt at hf
    rw [show p.splits.getD i 0 = p.splits[i] by simp [hi]] at hf
    refine ⟨hf.1, ?_⟩
    have : leftK p i ≤ p.cycle := by
      have : ∀ k, k ≤ p.splits.length → leftK p k ≤ p.cycle := fun k => by
        induction k with
        | zero => intro _; simp [leftK]
        | succ k ih =>
          intro hk
          have := ih (by omega)
          have h6 := h4 k (by omega)
          unfold fitAt at h6
          rw [show p.splits.getD k 0 = p.splits[k]'(by omega) by simp [show k < p.splits.length by omega]] at h6
          have h7 := hN k (by omega)
          rw [leftK_succ p k (by omega)]
          omega
      exact this i (by omega)
    omega
  · rintro ⟨h1, h2, h3, h4, h5⟩
    have key : ∀ k, k ≤ p.splits.length → 0 ≤ leftK p (p.splits.length - k) := fun k => by
      induction k with
      | zero => intro _; rw [Nat.sub_zero, hl0]; omega
      | succ k ih =>
        intro hk
        have h6 := ih (by omega)
        have hlt : p.splits.length - (k + 1) < p.splits.length := by omega
        have h7 := leftK_succ p (p.splits.length - (k + 1)) hlt
        rw [show p.splits.length - (k + 1) + 1 = p.splits.length - k by omega] at h7
        have h8 := h4 _ hlt
        have h9 := hN (p.splits.length - (k + 1)) (by omega)
        omega
    refine ⟨h1, h2, h3, fun i hi => ?_, by rw [hl0]; omega⟩
    unfold fitAt
    rw [show p.splits.getD i 0 = p.splits[i] by simp [hi]]
    refine ⟨(h4 i hi).1, ?_⟩
    have h6 := key (p.splits.length - (i + 1)) (by omega)
    rw [show p.splits.length - (p.splits.length - (i + 1)) = i + 1 by omega, leftK_succ p i hi] at h6
    omega

def sumK (p : Pln) (k : Nat) : Int := (p.splits.take k).sum
theorem sumK_succ (p : Pln) (k : Nat) (h : k < p.splits.length) : sumK p (k + 1) = sumK p k + p.splits[k] := by
  unfold sumK
  rw [List.take_succ_eq_append_getElem h, List.sum_append]; simp

end Go.Proofs.YtdeionjkcmpnpaaDoor
