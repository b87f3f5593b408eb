/- CycleNears: the same load brings the cycle to what it wishes. -/
import Derived.Test.YthjojamcolmbdaaDoorRises
namespace Go.Proofs.YthjojamcolmbdaaDoor
open Go.AM Go.RowKit
set_option maxRecDepth 100000

def distN (a j : Nat) : Nat := (a - j) + (j - a)
def mN (v : Int × Int × Int) (t : Int) : Nat := if 0 < v.2.2 ∧ v.2.1 = t then (min v.2.2 2).toNat else 0
theorem mN_le (v : Int × Int × Int) (t : Int) : mN v t ≤ 2 := by unfold mN; split <;> omega
def nearInv (n : NetN) (j S k : Nat) (v : Int × Int × Int) : Prop :=
  ∃ a, a ≤ cycK n ∧ v.1 = cycAt n a ∧ inM v.2.1 = true ∧ inM v.2.2 = true ∧ (0 < distN a j → k + 3 * distN a j ≤ 3 * S + mN v (towards v.1 (cycAt n j) n.step)) ∧ (3 * S < k → v.2.2 = 0)

theorem near_round {n : NetN} (h : TimedOk n) {j S k : Nat} (hj : j ≤ cycK n) {v : Int × Int × Int} (hv : nearInv n j S k v) {r : Int × Int × Int} (hr : r = heardN v.1 v.2.1 v.2.2 (towards v.1 (cycAt n j) n.step) 3) :
    nearInv n j S (k + 1) r ∧ (r.1 - v.1 = 0 ∨ (r.1 - v.1 = n.step ∧ r.1 ≤ cycAt n j) ∨ (r.1 - v.1 = -n.step ∧ cycAt n j ≤ r.1)) ∧ (3 * S ≤ k → r.1 = cycAt n j) := by
  obtain ⟨now, wish0, many⟩ := v
  obtain ⟨a, ha, rfl, hw, hm, hD, h0⟩ := hv
  simp only at hw hm hD h0 hr ⊢
  have hs := h.2.2.1
  have hlt := fun {i j} => cycAt_lt h (i := i) (j := j)
  by_cases hz : distN a j = 0
  · have e : a = j := by unfold distN at hz; omega
    subst e
    have ht : towards (cycAt n a) (cycAt n a) n.step = cycAt n a := by unfold towards; simp
    rw [ht, heardN_eq rfl] at hr
    subst hr
    refine ⟨⟨a, ha, rfl, ?_, rfl, fun h => by unfold distN at h; omega, fun _ => rfl⟩, .inl (by simp), fun _ => rfl⟩
    have := cyc_bound h (mem_cyc.2 ⟨a, ha, rfl⟩)
    exact inM_iff.2 (by simp only; omega)
  · have hD := hD (by omega)
    -- the next cycle on the way
    have key : ∃ b, b ≤ cycK n ∧ towards (cycAt n a) (cycAt n j) n.step = cycAt n b ∧ distN b j + 1 = distN a j ∧ cycAt n b ≠ cycAt n a ∧ ((cycAt n b - cycAt n a = n.step ∧ cycAt n b ≤ cycAt n j) ∨ (cycAt n b - cycAt n a = -n.step ∧ cycAt n j ≤ cycAt n b)) := by
      by_cases hlt2 : a < j
      · refine ⟨a + 1, by omega, ?_, by unfold distN; omega, by rw [cycAt_succ]; omega, .inl ⟨by rw [cycAt_succ]; omega, ?_⟩⟩
        · unfold towards; rw [if_pos (hlt.2 hlt2), cycAt_succ]
        · apply Classical.byContradiction
          intro hc
          have := hlt.1 (show cycAt n j < cycAt n (a + 1) by omega)
          omega
      · obtain ⟨b, rfl⟩ : ∃ b, a = b + 1 := ⟨a - 1, by unfold distN at hz; omega⟩
        have hjb : j ≤ b := by unfold distN at hz; omega
        have h1 : cycAt n j < cycAt n (b + 1) := hlt.2 (by omega)
        refine ⟨b, by omega, ?_, by unfold distN; omega, by rw [cycAt_succ]; omega, .inr ⟨by rw [cycAt_succ]; omega, ?_⟩⟩
        · unfold towards; rw [if_neg (by omega), if_pos h1, cycAt_succ]; omega
        · apply Classical.byContradiction
          intro hc
          have := hlt.1 (show cycAt n b < cycAt n j by omega)
          omega
    obtain ⟨b, hb, et, hdb, hne, hside⟩ := key
    have hbm := cyc_bound h (mem_cyc.2 ⟨b, hb, rfl⟩)
    rw [et] at hr hD
    have hm2 := mN_le (cycAt n a, wish0, many) (cycAt n b)
    have hmi := inM_iff.1 hm
    have hS : ¬ 3 * S ≤ k := by omega
    by_cases hc : cycAt n b = wish0 ∧ 0 < many
    · by_cases h2 : (3 : Int) ≤ many + 1
      · rw [heardN_up hne hc h2] at hr
        subst hr
        refine ⟨⟨b, hb, rfl, inM_iff.2 (by simp only; omega), rfl, fun h => ?_, fun _ => rfl⟩, .inr hside, fun hk => absurd hk hS⟩
        simp only
        omega
      · rw [heardN_more hne hc (by omega)] at hr
        subst hr
        refine ⟨⟨a, ha, rfl, inM_iff.2 (by simp only; omega), inM_iff.2 (by simp only; omega), fun h => ?_, fun hk => by omega⟩, .inl (by simp), fun hk => absurd hk hS⟩
        have e1 : mN (cycAt n a, wish0, many) (cycAt n b) = 1 := by unfold mN; rw [if_pos ⟨hc.2, hc.1.symm⟩]; simp only; omega
        have e2 : mN (cycAt n a, cycAt n b, many + 1) (cycAt n b) = 2 := by unfold mN; rw [if_pos ⟨by simp only; omega, rfl⟩]; simp only; omega
        simp only [et]
        omega
    · rw [heardN_one hne (fun e => by
        apply Classical.byContradiction
        intro hx
        exact hc ⟨e, by omega⟩) (by omega)] at hr
      subst hr
      refine ⟨⟨a, ha, rfl, inM_iff.2 (by simp only; omega), rfl, fun h => ?_, fun hk => by omega⟩, .inl (by simp), fun hk => absurd hk hS⟩
      have e1 : mN (cycAt n a, wish0, many) (cycAt n b) = 0 := by unfold mN; rw [if_neg fun hx => hc ⟨hx.2.symm, hx.1⟩]
      have e2 : mN (cycAt n a, cycAt n b, 1) (cycAt n b) = 1 := by unfold mN; rw [if_pos ⟨by simp, rfl⟩]; rfl
      simp only [et]
      omega
theorem near_end {n : NetN} {j S k : Nat} {v : Int × Int × Int} (hv : nearInv n j S k v) (hk : 3 * S + 3 ≤ k) : v.1 = cycAt n j ∧ v.2.2 = 0 := by
  obtain ⟨a, ha, e, hw, hm, hD, h0⟩ := hv
  have hm2 := mN_le v (towards v.1 (cycAt n j) n.step)
  have hz : distN a j = 0 := by
    apply Classical.byContradiction
    intro h
    have := hD (by omega)
    omega
  have : a = j := by unfold distN at hz; omega
  subst this
  exact ⟨e, h0 (by omega)⟩
theorem near_valid {n : NetN} (h : TimedOk n) {j S k : Nat} {v : Int × Int × Int} (hv : nearInv n j S k v) : (inM v.1 && (inM v.2.1 && inM v.2.2)) = true ∧ v.1 ∈ cycN n (cycK n + 1) := by
  obtain ⟨a, ha, e, hw, hm, _⟩ := hv
  have hmem : v.1 ∈ cycN n (cycK n + 1) := mem_cyc.2 ⟨a, ha, e⟩
  have := cyc_bound h hmem
  exact ⟨by rw [inM_iff.2 (show 0 ≤ v.1 ∧ v.1 ≤ 1048576 by omega), hw, hm]; rfl, hmem⟩
end Go.Proofs.YthjojamcolmbdaaDoor
