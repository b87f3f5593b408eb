/- The plan next to any one may be a plan of its site. -/
import Derived.Test.YtdeionjkcmpnpaaDoorClamp
set_option linter.unusedSimpArgs false
set_option linter.unusedVariables false
namespace Go.Proofs.YtdeionjkcmpnpaaDoor
open Go.AM Go.RowKit
set_option maxRecDepth 100000

theorem sum_set : ∀ (l : List Int) (q : Nat) (h : q < l.length) (x : Int), (l.set q x).sum = l.sum - l[q] + x
  | [], _, h, _ => by simp at h
  | a :: l, 0, _, x => by simp; omega
  | a :: l, q + 1, h, x => by
    have := sum_set l q (by simpa using h) x
    simp only [List.set_cons_succ, List.sum_cons, List.getElem_cons_succ]
    omega
theorem le_sum : ∀ (l : List Int), (∀ i, ∀ h : i < l.length, 0 ≤ l[i]) → 0 ≤ l.sum ∧ ∀ i, ∀ h : i < l.length, l[i] ≤ l.sum
  | [], _ => by simp
  | a :: l, h => by
    have h0 := h 0 (by simp)
    have ih := le_sum l (fun i hi => by have := h (i + 1) (by simpa using hi); simpa using this)
    simp only [List.getElem_cons_zero] at h0
    refine ⟨by simp only [List.sum_cons]; omega, fun i hi => ?_⟩
    cases i with
    | zero => simp only [List.getElem_cons_zero, List.sum_cons]; omega
    | succ i =>
      have := ih.2 i (by simpa using hi)
      simp only [List.getElem_cons_succ, List.sum_cons]; omega
/-- What is shared out of the rest never is more than it. -/
theorem left_mul {s : Sit} {p : Pln} {c : Int} (hL : 0 ≤ s.low ∧ s.high ≤ 1048576) (hN : NeedsOk s) (hc : roundK s s.phases.length ≤ c ∧ c ≤ 1048576) (ha : 0 < allC s p s.phases.length) :
    ∀ k, k ≤ s.phases.length → allC s p s.phases.length * (restC s c s.phases.length - leftC s p c k) ≤ restC s c s.phases.length * allC s p k
  | 0, _ => by simp [leftC, allC]
  | k + 1, h => by
    have ih := left_mul (p := p) hL hN hc ha k (by omega)
    have e : shareC s p c k = restC s c s.phases.length * wishP s p k / allC s p s.phases.length := by unfold shareC; rw [if_pos ha]
    have h1 : allC s p s.phases.length * shareC s p c k ≤ restC s c s.phases.length * wishP s p k := by
      rw [e]; exact Int.mul_ediv_self_le (by omega)
    show allC s p s.phases.length * (restC s c s.phases.length - (leftC s p c k - shareC s p c k)) ≤ restC s c s.phases.length * (allC s p k + wishP s p k)
    rw [show restC s c s.phases.length - (leftC s p c k - shareC s p c k) = (restC s c s.phases.length - leftC s p c k) + shareC s p c k by omega, Int.mul_add, Int.mul_add]
    omega
theorem left_nonneg {s : Sit} {p : Pln} {c : Int} (hL : 0 ≤ s.low ∧ s.high ≤ 1048576) (hN : NeedsOk s) (hc : roundK s s.phases.length ≤ c ∧ c ≤ 1048576) : 0 ≤ leftC s p c s.phases.length := by
  have a1 := restC_bound hN hc (Nat.le_refl s.phases.length)
  by_cases ha : 0 < allC s p s.phases.length
  · have h := left_mul (p := p) hL hN hc ha s.phases.length (Nat.le_refl _)
    rw [Int.mul_comm (restC s c s.phases.length)] at h
    have := Int.le_of_mul_le_mul_left h ha
    omega
  · have : ∀ k, leftC s p c k = restC s c s.phases.length := fun k => by
      induction k with
      | zero => rfl
      | succ k ih =>
        show leftC s p c k - shareC s p c k = _
        rw [ih, show shareC s p c k = 0 by unfold shareC; rw [if_neg ha]]
        omega
    rw [this]; omega
theorem sl2_sum (s : Sit) (p : Pln) (c : Int) : (sl2 s p c s.phases.length).sum + leftC s p c s.phases.length = roundK s s.phases.length + restC s c s.phases.length := by
  have e : sl2 s p c s.phases.length = (List.range s.phases.length).map fun i => needsN s i + shareC s p c i := by
    unfold sl2
    apply List.map_congr_left
    intro i hi
    rw [if_pos (by simpa using hi)]
  rw [e]
  have : ∀ k, ((List.range k).map fun i => needsN s i + shareC s p c i).sum + leftC s p c k = roundK s k + restC s c s.phases.length := fun k => by
    induction k with
    | zero => simp [leftC, roundK]
    | succ k ih =>
      rw [List.range_succ, List.map_append, List.sum_append, roundK_succ]
      show _ + (leftC s p c k - shareC s p c k) = _
      simp only [List.map_cons, List.map_nil, List.sum_cons, List.sum_nil]
      omega
  exact this _

theorem clamp_fits {s : Sit} (p : Pln) (hOk : SiteOk s) : Fits s (clampN s p) := by
  have hL := hOk.low
  have hN := hOk.needs
  have h4 : timedN s = true := hOk 4 (by omega)
  simp [timedN, inN] at h4
  have h8 := (groups_site.1 hOk).2.1.1
  have hrb : roundK s s.phases.length ≤ cycC s p ∧ cycC s p ≤ 1048576 := by unfold cycC; repeat' split <;> omega
  have hcb : s.low ≤ cycC s p ∧ cycC s p ≤ s.high := by unfold cycC; repeat' split <;> omega
  have hc1 : 1 ≤ cycC s p := by omega
  rw [fits_iff hN]
  show (s.low ≤ cycC s p ∧ cycC s p ≤ s.high) ∧ (0 ≤ (p.offset.tmod (cycC s p) + cycC s p).tmod (cycC s p) ∧ (p.offset.tmod (cycC s p) + cycC s p).tmod (cycC s p) ≤ cycC s p - 1) ∧ (clampL s p (cycC s p)).length = s.phases.length ∧ (∀ i, ∀ h : i < (clampL s p (cycC s p)).length, needsN s i ≤ (clampL s p (cycC s p))[i] ∧ (clampL s p (cycC s p))[i] ≤ cycC s p) ∧ (clampL s p (cycC s p)).sum = cycC s p
  generalize cycC s p = c at *
  have hm2 := Int.lt_tmod_of_pos p.offset (show 0 < c by omega)
  have ho1 : 0 ≤ (p.offset.tmod c + c).tmod c := Int.tmod_nonneg _ (by omega)
  have ho2 := Int.tmod_lt_of_pos (p.offset.tmod c + c) (show 0 < c by omega)
  have hfb := firstC_bound s p s.phases.length
  have hln := left_nonneg (p := p) hL hN hrb
  have hlen : (clampL s p c).length = s.phases.length := by simp [clampL, sl2_len]
  have hq : (firstC s p s.phases.length).toNat < s.phases.length := by omega
  have hsum : (clampL s p c).sum = c := by
    have h1 := sl2_sum s p c
    have h2 := restC_round (s := s) (c := c) s.phases.length
    unfold clampL
    rw [sum_set _ _ (by rw [sl2_len]; exact hq), List.getD_eq_getElem?_getD, List.getElem?_eq_getElem (by rw [sl2_len]; exact hq)]
    simp only [Option.getD_some]
    omega
  have hge : ∀ i, ∀ h : i < (clampL s p c).length, needsN s i ≤ (clampL s p c)[i] := fun i h => by
    have hi : i < s.phases.length := by omega
    have hs := (shareC_bound (p := p) hL hN hrb hi).2
    have hat : (sl2 s p c s.phases.length)[i]'(by rw [sl2_len]; exact hi) = needsN s i + shareC s p c i := by rw [sl2_at hi, if_pos hi]
    simp only [clampL, List.getElem_set]
    split
    · rename_i e
      rw [List.getD_eq_getElem?_getD, List.getElem?_eq_getElem (by rw [sl2_len]; exact hq)]
      simp only [Option.getD_some, e, hat]
      omega
    · rw [hat]; omega
  refine ⟨hcb, ⟨ho1, by omega⟩, hlen, fun i h => ⟨hge i h, ?_⟩, hsum⟩
  have := (le_sum (clampL s p c) fun i h => by have := hge i h; have := hN i (by omega); omega).2 i h
  omega
end Go.Proofs.YtdeionjkcmpnpaaDoor
