/- The layer site: shapes. -/
import Derived.Test.YthjojamcolmbdaaDoorSite2
namespace Go.Proofs.YthjojamcolmbdaaDoor
open Go.AM Go.RowKit
set_option maxRecDepth 100000

def rowOk (s : Sit) (i : Nat) : Prop := (s.between.getD i []).length = s.groups.length ∧ s.apart.getD i 0 < 2 ^ s.groups.length
instance (s : Sit) (i : Nat) : Decidable (rowOk s i) := by unfold rowOk; infer_instance
def Shaped (s : Sit) : Prop := (1 ≤ s.groups.length ∧ s.groups.length ≤ 16) ∧ s.apart.length = s.groups.length ∧ s.between.length = s.groups.length ∧ (1 ≤ s.phases.length ∧ s.phases.length ≤ 8) ∧ s.eyes.length ≤ 24 ∧ s.plans.length ≤ 8 ∧
  ∀ i, i < s.between.length → rowOk s i
instance (s : Sit) : Decidable (Shaped s) := by unfold Shaped; infer_instance
theorem sets_len (l : List Nat) : (sets l).length = l.length := by simp [sets]
theorem rows_len (l : List (List Int)) : (rows l).length = l.length := by simp [rows]
theorem nth_sets {l : List Nat} {k : Nat} (h : k < l.length) : nth (sets l) k = .int .u32 (l[k] : Int) := by rw [sets, nth_map h]
theorem nth_rows {l : List (List Int)} {k : Nat} (h : k < l.length) : nth (rows l) k = .sl 1 (ints l[k]) := by rw [rows, nth_map h]
theorem inN_iff {x a b : Int} : inN x a b = true ↔ a ≤ x ∧ x ≤ b := by simp [inN]

theorem shr_zero (a n : Nat) : ((a : Int).fdiv (2 ^ n) = 0) ↔ a < 2 ^ n := by
  rw [Int.fdiv_eq_ediv_of_nonneg _ (by exact_mod_cast Nat.zero_le (2 ^ n)), show ((2 : Int) ^ n) = ((2 ^ n : Nat) : Int) by simp, ← Int.natCast_ediv, Int.natCast_eq_zero, Nat.div_eq_zero_iff]
  have := Nat.two_pow_pos n
  omega
theorem shape_spec (s : Sit) : FnD Tryd.prog 70 [sitV s] (.bool (decide (Shaped s))) := by
  have hpu := (⟨grps_pure s.groups, phas_pure s.phases, eyes_pure s.eyes, plns_pure s.plans, sets_pure s.apart, rows_pure s.between⟩ : _ ∧ _ ∧ _ ∧ _ ∧ _ ∧ _)
  obtain ⟨hp1, hp2, hp3, hp4, hp5, hp6⟩ := hpu
  unfold sitV
  refine fnD_of mixed Tryd.func70 rfl rfl (by simp [Tryd.ntmps70]) fun hwf E => ?_
  simp (disch := omega) [go_sem] at hwf
  simp (disch := omega) [Tryd.ntmps70, go_sem, sets_len, rows_len]
  refine callK_bool (in_spec s.groups.length 1 16) [] (by simp [go_sem]) (fun h1 => ?_) (fun h1 => ?_)
  · rw [inN_iff] at h1
    simp (disch := omega) [go_sem, sets_len, rows_len]
    refine gbr_of (fun h2 => ?_) (fun h2 => ?_)
    · simp at h2
      simp (disch := omega) [go_sem, h2]
      refine callK_bool (in_spec s.phases.length 1 8) [] (by simp [go_sem]) (fun h3 => ?_) (fun h3 => ?_)
      · rw [inN_iff] at h3
        simp (disch := omega) [go_sem, sets_len, rows_len, h2]
        refine br_of (fun h4 => ?_) (fun h4 => ?_) <;> simp at h4
        · simp (disch := omega) [go_sem]
          rintro ⟨_, _, _, _, a, b, _⟩; omega
        · simp (disch := omega) [go_sem, sets_len, rows_len]
          have ha : s.apart.length = s.groups.length := by omega
          have hb : s.between.length = s.groups.length := by omega
          refine awz_loop mixed (fun k : Nat => ⟨[(48, .int .i64 k), (47, .int .i64 s.between.length), (46, .sl 1 (rows s.between)), (1, .ptr 0 1 0 0), (3, .int .i64 s.groups.length), (2, .bool false)], [(0, ⟨.box, 29, 12, [sitV s]⟩)], 2048, [], 68, 0, []⟩)
            (fun k => k ≤ s.between.length ∧ ∀ i, i < k → rowOk s i) (fun k => s.between.length - k) 0 ⟨by omega, fun i hi => by omega⟩ ?_ ?_
          · refine Le.mk [(0, some 0)] [0] ⟨rfl, rfl, rfl⟩ ?_ ?_ ?_ <;> simp [go_sem, sitV, hp1, hp2, hp3, hp4, hp5, hp6, hb]
          · rintro k ⟨hk, hno⟩
            simp (disch := omega) [go_sem, sitV, rows_len]
            refine br_of (fun h => ?_) (fun h => ?_) <;> simp at h
            · have hka : k < s.apart.length := by omega
              simp (disch := omega) [go_sem, h, nth_rows, sitV, rows_len, ints_len, sets_len, nth_sets, hka]
              have hz := shr_zero s.apart[k] s.groups.length
              have g1 : s.between.getD k [] = s.between[k] := by simp [h]
              have g2 : s.apart.getD k 0 = s.apart[k] := by simp [hka]
              refine br_of (fun h5 => ?_) (fun h5 => ?_)
              · simp (disch := omega) [go_sem]
                rintro ⟨_, _, _, _, _, _, hall⟩
                have := hall k h
                unfold rowOk at this
                rw [g1, g2] at this
                simp [hz, this.1, this.2] at h5
              · simp only [Bool.or_eq_false_iff, bne_eq_false_iff_eq, hz] at h5
                simp (disch := omega) [go_sem]
                refine round_of (k + 1) ⟨by omega, fun j hj => ?_⟩ (by omega) (Le.mk [(0, some 0)] [0] ⟨rfl, rfl, rfl⟩ ?_ ?_ ?_)
                · by_cases e : j = k
                  · subst e; unfold rowOk; rw [g1, g2]; exact ⟨by have h6 := h5.1; simp at h6; omega, h5.2⟩
                  · exact hno j (by omega)
                all_goals simp [go_sem, sitV, hp1, hp2, hp3, hp4, hp5, hp6]
            · simp (disch := omega) [go_sem]
              exact ⟨by omega, ha, hb, by omega, by omega, by omega, fun i hi => hno i (by omega)⟩
      · have h3' : ¬ (1 ≤ (s.phases.length : Int) ∧ (s.phases.length : Int) ≤ 8) := by rw [← inN_iff]; simp [h3]
        simp (disch := omega) [go_sem]
        rintro ⟨_, _, _, a, _⟩; omega
    · simp at h2
      simp (disch := omega) [go_sem, h2]
      refine ⟨by omega, by omega, ?_⟩
      rintro ⟨_, a, b, _⟩; omega
  · have h1' : ¬ (1 ≤ (s.groups.length : Int) ∧ (s.groups.length : Int) ≤ 16) := by rw [← inN_iff]; simp [h1]
    simp (disch := omega) [go_sem]
    rintro ⟨a, _⟩; omega
end Go.Proofs.YthjojamcolmbdaaDoor
