/- The layer net: Check. -/
import Derived.Test.YthjojamcolmbdaaDoorNet4
namespace Go.Proofs.YthjojamcolmbdaaDoor
open Go.AM Go.RowKit
set_option maxRecDepth 100000

def NetOk (n : NetN) : Prop := TimedOk n ∧ SitedOk n ∧ SubbedOk n ∧ WeddedOk n
noncomputable instance (n : NetN) : Decidable (NetOk n) := Classical.propDecidable _
noncomputable def netN (n : NetN) : Int := if NetOk n then 0 else 60
theorem netN_ok {n : NetN} (h : NetOk n) : netN n = 0 := by unfold netN; rw [if_pos h]
theorem netN_bad {n : NetN} (h : ¬ NetOk n) : netN n = 60 := by unfold netN; rw [if_neg h]
def mays : List V := [.func (.func 100) [] [], .func (.func 101) [] [], .func (.func 102) [] [], .func (.func 103) [] []]
def nchk (n : NetN) : Nat → Prop
  | 0 => TimedOk n
  | 1 => SitedOk n
  | 2 => SubbedOk n
  | _ => WeddedOk n

set_option maxHeartbeats 2000000 in
theorem ncheck_spec (n : NetN) : FnD Tryd.prog 39 [netV n] (.int .i64 (netN n)) tabG := by
  have hp1 := sits_pure n.sites
  have hp2 := subs_pure n.subs
  have hp3 := weds_pure n.weds
  have q0 := ntimed_spec n
  have q1 := sited_spec n
  have q2 := subbed_spec n
  have q3 := fun h => wedded_spec n h
  have hnv : netV n = .agg [.sl 12 (n.sites.map sitV), .sl 2 (n.subs.map subV), .sl 4 (n.weds.map wedV), .int .i64 n.low, .int .i64 n.high, .int .i64 n.step] := rfl
  rw [hnv] at q0 q1 q2 q3 ⊢
  refine fnD_of mixed Tryd.func39 rfl rfl (by simp [Tryd.ntmps39]) fun hwf E => ?_
  simp (disch := omega) [go_sem] at hwf
  simp (disch := omega) [Tryd.ntmps39, go_sem]
  have bad : (¬ TimedOk n ∨ ¬ SitedOk n ∨ ¬ SubbedOk n ∨ ¬ WeddedOk n) → netN n = 60 := fun h => netN_bad fun hA => by
    obtain ⟨a, b, c, d⟩ := hA
    rcases h with h | h | h | h <;> exact h (by assumption)
  refine awz_loop mixed (fun k : Nat => ⟨[(7, .int .i64 k), (6, .int .i64 4), (5, .obj 32 4), (1, .ptr 0 1 0 0), (2, .int .i64 0)], [(32, ⟨.arr, 62, 1, mays⟩), (0, ⟨.box, 59, 6, [netV n]⟩)], 1024, [], 16, 0, tabG⟩)
    (fun k => k ≤ 4 ∧ ∀ i, i < k → nchk n i) (fun k => 4 - k) 0 ⟨by omega, fun a ha => by omega⟩ ?_ ?_
  · refine Le.mk [(0, some 0), (32, some 32)] [0, 32] ⟨rfl, rfl, rfl⟩ ?_ ?_ ?_ <;> simp [go_sem, netV, hp1, hp2, hp3, mays]
  · rintro k ⟨hk, hno⟩
    have hcases : k = 0 ∨ k = 1 ∨ k = 2 ∨ k = 3 ∨ k = 4 := by omega
    rcases hcases with rfl | rfl | rfl | rfl | rfl
    · simp (disch := omega) [go_sem, netV, mays]
      refine callK_bool q0 [] (by simp [go_sem, hp1, hp2, hp3]) (fun h1 => ?_) (fun h1 => ?_)
      · simp (disch := omega) [go_sem]
        refine round_of 1 ⟨by omega, fun i hi => ?_⟩ (by omega) (Le.mk [(0, some 0), (32, some 32)] [0, 32] ⟨rfl, rfl, rfl⟩ ?_ ?_ ?_)
        · obtain rfl : i = 0 := by omega
          exact (decide_eq_true_iff.1 h1 :)
        all_goals simp [go_sem, netV, hp1, hp2, hp3, mays]
      · simp (disch := omega) [go_sem]
        exact (bad (.inl (of_decide_eq_false h1))).symm
    · simp (disch := omega) [go_sem, netV, mays]
      refine callK_bool q1 [] (by simp [go_sem, hp1, hp2, hp3]) (fun h1 => ?_) (fun h1 => ?_) (by simp [tabG, go_sem])
      · simp (disch := omega) [go_sem]
        refine round_of 2 ⟨by omega, fun i hi => ?_⟩ (by omega) (Le.mk [(0, some 0), (32, some 32)] [0, 32] ⟨rfl, rfl, rfl⟩ ?_ ?_ ?_)
        · by_cases e : i = 1
          · subst e; exact (decide_eq_true_iff.1 h1 :)
          · exact hno i (by omega)
        all_goals simp [go_sem, netV, hp1, hp2, hp3, mays]
      · simp (disch := omega) [go_sem]
        exact (bad (.inr (.inl (of_decide_eq_false h1)))).symm
    · simp (disch := omega) [go_sem, netV, mays]
      refine callK_bool q2 [] (by simp [go_sem, hp1, hp2, hp3]) (fun h1 => ?_) (fun h1 => ?_)
      · simp (disch := omega) [go_sem]
        refine round_of 3 ⟨by omega, fun i hi => ?_⟩ (by omega) (Le.mk [(0, some 0), (32, some 32)] [0, 32] ⟨rfl, rfl, rfl⟩ ?_ ?_ ?_)
        · by_cases e : i = 2
          · subst e; exact (decide_eq_true_iff.1 h1 :)
          · exact hno i (by omega)
        all_goals simp [go_sem, netV, hp1, hp2, hp3, mays]
      · simp (disch := omega) [go_sem]
        exact (bad (.inr (.inr (.inl (of_decide_eq_false h1))))).symm
    · have h0 : TimedOk n := hno 0 (by omega)
      simp (disch := omega) [go_sem, netV, mays]
      refine callK_bool (q3 h0.1) [] (by simp [go_sem, hp1, hp2, hp3]) (fun h1 => ?_) (fun h1 => ?_)
      · simp (disch := omega) [go_sem]
        refine round_of 4 ⟨by omega, fun i hi => ?_⟩ (by omega) (Le.mk [(0, some 0), (32, some 32)] [0, 32] ⟨rfl, rfl, rfl⟩ ?_ ?_ ?_)
        · by_cases e : i = 3
          · subst e; exact (decide_eq_true_iff.1 h1 :)
          · exact hno i (by omega)
        all_goals simp [go_sem, netV, hp1, hp2, hp3, mays]
      · simp (disch := omega) [go_sem]
        exact (bad (.inr (.inr (.inr (of_decide_eq_false h1))))).symm
    · simp (disch := omega) [go_sem]
      exact (netN_ok ⟨hno 0 (by omega), hno 1 (by omega), hno 2 (by omega), hno 3 (by omega)⟩).symm

/-! the cycles -/
def cycK (n : NetN) : Nat := ((n.high - n.low) / n.step).toNat
def cycAt (n : NetN) (i : Nat) : Int := n.low + n.step * i
def cycN (n : NetN) (k : Nat) : List Int := (List.range k).map (cycAt n)
theorem cycN_succ (n : NetN) (k : Nat) : cycN n (k + 1) = cycN n k ++ [cycAt n k] := by simp [cycN, List.range_succ]
theorem cycN_len (n : NetN) (k : Nat) : (cycN n k).length = k := by simp [cycN]
theorem TimedOk.q {n : NetN} (h : TimedOk n) : n.step * cycK n = n.high - n.low ∧ cycK n ≤ 64 := by
  obtain ⟨h1, h2, h3, h4, h5⟩ := h
  have hq : (n.high - n.low).tdiv n.step = (n.high - n.low) / n.step := Int.tdiv_eq_ediv_of_nonneg (by omega)
  have hr : (n.high - n.low).tmod n.step = (n.high - n.low) % n.step := Int.tmod_eq_emod_of_nonneg (by omega)
  have hq0 : 0 ≤ (n.high - n.low) / n.step := Int.ediv_nonneg (by omega) (by omega)
  rw [hq] at h5
  rw [hr] at h4
  have e : ((cycK n : Nat) : Int) = (n.high - n.low) / n.step := by unfold cycK; omega
  constructor
  · rw [e]
    exact Int.mul_ediv_cancel_of_emod_eq_zero h4
  · omega
theorem TimedOk.at {n : NetN} (h : TimedOk n) {i : Nat} : cycAt n i ≤ n.high ↔ i ≤ cycK n := by
  have hq := h.q.1
  have hs := h.2.2.1.1
  unfold cycAt
  constructor
  · intro h1
    apply Classical.byContradiction
    intro h2
    have : n.step * ((cycK n : Int) + 1) ≤ n.step * i := Int.mul_le_mul_of_nonneg_left (by omega) (by omega)
    rw [Int.mul_add] at this
    omega
  · intro h1
    have : n.step * (i : Int) ≤ n.step * (cycK n : Int) := Int.mul_le_mul_of_nonneg_left (by omega) (by omega)
    omega
theorem TimedOk.at_bound {n : NetN} (h : TimedOk n) {i : Nat} (hi : i ≤ cycK n + 1) : 1 ≤ cycAt n i ∧ cycAt n i ≤ 2097152 := by
  have hq := h.q.1
  have hs := h.2.2.1
  have h2 : n.step * (i : Int) ≤ n.step * ((cycK n : Int) + 1) := Int.mul_le_mul_of_nonneg_left (by omega) (by omega)
  have h3 : 0 ≤ n.step * (i : Int) := Int.mul_nonneg (by omega) (by omega)
  rw [Int.mul_add] at h2
  have := h.1
  have := h.2.1
  unfold cycAt
  omega
end Go.Proofs.YthjojamcolmbdaaDoor
