/- The layer site: what phases need is bounded; site.Check. -/
import Derived.Test.YthjojamcolmbdaaDoorSite8
namespace Go.Proofs.YthjojamcolmbdaaDoor
open Go.AM Go.RowKit
set_option maxRecDepth 100000

theorem fold_bound (f : Nat → Int) : ∀ (l : List Nat) (n : Int), (∀ b ∈ l, 0 ≤ f b ∧ f b ≤ 1048576) → 0 ≤ n ∧ n ≤ 1048576 → 0 ≤ l.foldl (fun m b => maxI m (f b)) n ∧ l.foldl (fun m b => maxI m (f b)) n ≤ 1048576
  | [], n, _, h => h
  | b :: l, n, hf, h => by
    have hb := hf b (by simp)
    refine fold_bound f l _ (fun c hc => hf c (by simp [hc])) ?_
    show 0 ≤ maxI n (f b) ∧ maxI n (f b) ≤ 1048576
    unfold maxI; split <;> omega
theorem betw_bound (s : Sit) (hA : ApartOk s) (a b : Nat) (ha : a < s.groups.length) (hb : b < s.groups.length) : 0 ≤ betw s a b ∧ betw s a b ≤ 1048576 := by
  obtain ⟨h1, h2⟩ := hA a ha
  obtain ⟨-, h3, h4⟩ := h2 b hb
  have hy := (h1 ha).2.2
  have hya : yelAt s a = s.groups[a].yellow := by simp [yelAt, ha]
  cases h : isAp s a b
  · rw [h4 h]; omega
  · have := h3 h; omega
theorem clear_bound (s : Sit) (hS : Shaped s) (hA : ApartOk s) (i j : Nat) : 0 ≤ clearN s i j ∧ clearN s i j ≤ 1048576 := by
  unfold clearN
  have : ∀ k, k ≤ s.groups.length → 0 ≤ clearK s (setAt s i) (setAt s j) k ∧ clearK s (setAt s i) (setAt s j) k ≤ 1048576 := by
    intro k
    induction k with
    | zero => intro _; simp [clearK]
    | succ k ih =>
      intro hk
      have ih := ih (by omega)
      rw [clearK_succ]
      unfold clearRow
      split
      · unfold most
        refine fold_bound _ _ _ (fun b hb => ?_) ih
        have hb2 := (bitsOf_mem.1 hb).2
        rw [Nat.testBit_and] at hb2
        have hbn : b < s.groups.length := by
          apply Classical.byContradiction
          intro hnb
          have hr := (hS.2.2.2.2.2.2 k (by rw [hS.2.2.1]; omega)).2
          have : (s.apart.getD k 0).testBit b = false := Nat.testBit_lt_two_pow (Nat.lt_of_lt_of_le hr (Nat.pow_le_pow_right (by omega) (by omega)))
          simp only [this, Bool.false_and] at hb2
          cases hb2
        exact betw_bound s hA k b (by omega) hbn
      · exact ih
  exact this _ (Nat.le_refl _)
theorem needs_ok (s : Sit) (hS : Shaped s) (hA : ApartOk s) (hP : PhasedOk s) : NeedsOk s := by
  intro i hi
  have hc := clear_bound s hS hA i ((i + 1) % s.phases.length)
  have hm := (hP.1 i hi hi).2.2.1.1
  have : minAt s i = s.phases[i].min := by simp [minAt, hi]
  unfold needsN; omega

def chk (s : Sit) : Nat → Prop
  | 0 => (0 ≤ s.id ∧ s.id ≤ 65535) ∧ Shaped s
  | 1 => ApartOk s
  | 2 => PhasedOk s
  | 3 => s.eyes.all (eyeOk s.phases.length) = true
  | 4 => timedN s = true
  | 5 => (s.plans.all fun p => decide (Fits s p)) = true
  | _ => True
def SiteOk (s : Sit) : Prop := ∀ i, i < 6 → chk s i
noncomputable instance (s : Sit) : Decidable (SiteOk s) := Classical.propDecidable _
noncomputable def checkN (s : Sit) : Int := if SiteOk s then 0 else 50

set_option maxHeartbeats 1000000 in
theorem check_spec (s : Sit) : FnD Tryd.prog 18 [sitV s] (.int .i64 (checkN s)) tabG := by
  have hpu := (⟨grps_pure s.groups, phas_pure s.phases, eyes_pure s.eyes, plns_pure s.plans, sets_pure s.apart, rows_pure s.between⟩ : _ ∧ _ ∧ _ ∧ _ ∧ _ ∧ _)
  obtain ⟨hp1, hp2, hp3, hp4, hp5, hp6⟩ := hpu
  unfold sitV
  refine fnD_of mixed Tryd.func18 rfl rfl (by simp [Tryd.ntmps18]) fun hwf E => ?_
  simp (disch := omega) [go_sem] at hwf
  simp (disch := omega) [Tryd.ntmps18, go_sem]
  have bad : ∀ i, i < 6 → ¬ chk s i → checkN s = 50 := fun i hi h => by unfold checkN; rw [if_neg fun hA => h (hA i hi)]
  refine awz_loop mixed (fun k : Nat => ⟨[(5, .int .i64 k), (3, .bool false), (1, .ptr 0 1 0 0), (2, .int .i64 0)], [(0, ⟨.box, 29, 12, [sitV s]⟩)], 1024, [], 48, 0, tabG⟩)
    (fun k => k ≤ 6 ∧ ∀ i, i < k → chk s i) (fun k => 6 - k) 0 ⟨by omega, fun a ha => by omega⟩ ?_ ?_
  · refine Le.mk [(0, some 0)] [0] ⟨rfl, rfl, rfl⟩ ?_ ?_ ?_ <;> simp [go_sem, sitV, hp1, hp2, hp3, hp4, hp5, hp6]
  · rintro k ⟨hk, hno⟩
    have hcases : k = 0 ∨ k = 1 ∨ k = 2 ∨ k = 3 ∨ k = 4 ∨ k = 5 ∨ k = 6 := by omega
    rcases hcases with rfl | rfl | rfl | rfl | rfl | rfl | rfl
    · simp (disch := omega) [go_sem, sitV]
      refine callK_bool (in_spec s.id 0 65535) [] (by simp [go_sem]) (fun h0 => ?_) (fun h0 => ?_)
      · simp (disch := omega) [go_sem, sitV]
        refine callK_bool (shape_spec s) [] (by simp [go_sem, sitV, hp1, hp2, hp3, hp4, hp5, hp6]) (fun h1 => ?_) (fun h1 => ?_)
        · simp (disch := omega) [go_sem]
          refine round_of 1 ⟨by omega, fun i hi => ?_⟩ (by omega) (Le.mk [(0, some 0)] [0] ⟨rfl, rfl, rfl⟩ ?_ ?_ ?_)
          · have : i = 0 := by omega
            subst this; exact ⟨inN_iff.1 h0, by simpa using h1⟩
          all_goals simp [go_sem, sitV, hp1, hp2, hp3, hp4, hp5, hp6]
        · simp (disch := omega) [go_sem]
          exact (bad 0 (by omega) (fun hc => by simp at h1; exact h1 hc.2)).symm
      · simp (disch := omega) [go_sem]
        exact (bad 0 (by omega) (fun hc => by have := inN_iff.2 hc.1; rw [h0] at this; cases this)).symm
    · have hS : Shaped s := (hno 0 (by omega)).2
      simp (disch := omega) [go_sem, sitV]
      refine callK_bool (apart_spec s hS) [] (by simp [go_sem, sitV, hp1, hp2, hp3, hp4, hp5, hp6]) (fun h1 => ?_) (fun h1 => ?_)
      · simp (disch := omega) [go_sem]
        refine round_of 2 ⟨by omega, fun i hi => ?_⟩ (by omega) (Le.mk [(0, some 0)] [0] ⟨rfl, rfl, rfl⟩ ?_ ?_ ?_)
        · by_cases e : i = 1
          · subst e; simpa [chk] using h1
          · exact hno i (by omega)
        all_goals simp [go_sem, sitV, hp1, hp2, hp3, hp4, hp5, hp6]
      · simp (disch := omega) [go_sem]
        exact (bad 1 (by omega) (by simpa [chk] using h1)).symm
    · have hS : Shaped s := (hno 0 (by omega)).2
      simp (disch := omega) [go_sem, sitV]
      refine callK_bool (phased_spec s hS) [] (by simp [go_sem, sitV, hp1, hp2, hp3, hp4, hp5, hp6]) (fun h1 => ?_) (fun h1 => ?_) (by simp [tabG, go_sem])
      · simp (disch := omega) [go_sem]
        refine round_of 3 ⟨by omega, fun i hi => ?_⟩ (by omega) (Le.mk [(0, some 0)] [0] ⟨rfl, rfl, rfl⟩ ?_ ?_ ?_)
        · by_cases e : i = 2
          · subst e; simpa [chk] using h1
          · exact hno i (by omega)
        all_goals simp [go_sem, sitV, hp1, hp2, hp3, hp4, hp5, hp6]
      · simp (disch := omega) [go_sem]
        exact (bad 2 (by omega) (by simpa [chk] using h1)).symm
    · simp (disch := omega) [go_sem, sitV]
      refine callK_bool (eyed_spec s) [] (by simp [go_sem, sitV, hp1, hp2, hp3, hp4, hp5, hp6]) (fun h1 => ?_) (fun h1 => ?_)
      · simp (disch := omega) [go_sem]
        refine round_of 4 ⟨by omega, fun i hi => ?_⟩ (by omega) (Le.mk [(0, some 0)] [0] ⟨rfl, rfl, rfl⟩ ?_ ?_ ?_)
        · by_cases e : i = 3
          · subst e; simpa [chk] using h1
          · exact hno i (by omega)
        all_goals simp [go_sem, sitV, hp1, hp2, hp3, hp4, hp5, hp6]
      · simp (disch := omega) [go_sem]
        exact (bad 3 (by omega) (by simpa [chk] using h1)).symm
    · have hS : Shaped s := (hno 0 (by omega)).2
      have hN : NeedsOk s := needs_ok s hS (hno 1 (by omega)) (hno 2 (by omega))
      simp (disch := omega) [go_sem, sitV]
      refine callK_bool (timed_spec s hS hN) [] (by simp [go_sem, sitV, hp1, hp2, hp3, hp4, hp5, hp6]) (fun h1 => ?_) (fun h1 => ?_) (by simp [tabG, go_sem])
      · simp (disch := omega) [go_sem]
        refine round_of 5 ⟨by omega, fun i hi => ?_⟩ (by omega) (Le.mk [(0, some 0)] [0] ⟨rfl, rfl, rfl⟩ ?_ ?_ ?_)
        · by_cases e : i = 4
          · subst e; simpa [chk] using h1
          · exact hno i (by omega)
        all_goals simp [go_sem, sitV, hp1, hp2, hp3, hp4, hp5, hp6]
      · simp (disch := omega) [go_sem]
        exact (bad 4 (by omega) (by simpa [chk] using h1)).symm
    · have hS : Shaped s := (hno 0 (by omega)).2
      have hN : NeedsOk s := needs_ok s hS (hno 1 (by omega)) (hno 2 (by omega))
      have hL : 0 ≤ s.low ∧ s.high ≤ 1048576 := by
        have h4 : timedN s = true := hno 4 (by omega)
        simp [timedN, inN] at h4
        omega
      simp (disch := omega) [go_sem, sitV]
      refine callK_bool (planned_spec s hS hN hL) [] (by simp [go_sem, sitV, hp1, hp2, hp3, hp4, hp5, hp6]) (fun h1 => ?_) (fun h1 => ?_) (by simp [tabG, go_sem])
      · simp (disch := omega) [go_sem]
        refine round_of 6 ⟨by omega, fun i hi => ?_⟩ (by omega) (Le.mk [(0, some 0)] [0] ⟨rfl, rfl, rfl⟩ ?_ ?_ ?_)
        · by_cases e : i = 5
          · subst e; simpa [chk] using h1
          · exact hno i (by omega)
        all_goals simp [go_sem, sitV, hp1, hp2, hp3, hp4, hp5, hp6]
      · simp (disch := omega) [go_sem]
        exact (bad 5 (by omega) (by simpa [chk] using h1)).symm
    · simp (disch := omega) [go_sem]
      unfold checkN; rw [if_pos (show SiteOk s from hno)]
end Go.Proofs.YthjojamcolmbdaaDoor
