
/- The layer cycle: votes. -/
import Derived.Test.YtdeionjkcmpnpaaGreatDoorNetA
set_option linter.unusedSimpArgs false
set_option linter.unusedVariables false
namespace Go.Proofs.YtdeionjkcmpnpaaGreatDoor
open Go.AM Go.RowKit
set_option maxRecDepth 100000

def inM (n : Int) : Bool := decide (0 ≤ n) && decide (n ≤ 1048576)
theorem inM_iff {n : Int} : inM n = true ↔ 0 ≤ n ∧ n ≤ 1048576 := by simp [inM]
theorem span1_spec (n : Int) : FnD Tryz.prog 204 [.int .i64 n] (.bool (decide (n < 0) || decide (n > 1048576))) := by
  refine fnD_of mixed Tryz.func204 rfl rfl (by simp [Tryz.ntmps204]) fun hwf E => ?_
  simp [Tryz.ntmps204, go_sem]
theorem span_spec (l : List Int) : FnD Tryz.prog 165 [.sl 1 (ints l)] (.bool (l.all inM)) := by
  refine fnD_of mixed Tryz.func165 rfl rfl (by simp [Tryz.ntmps165]) fun hwf E => ?_
  simp (disch := omega) [Tryz.ntmps165, go_sem] at hwf ⊢
  refine callK_data (containsFunc_ints l 204 [] [] (fun n => decide (n < 0) || decide (n > 1048576)) (by simp [go_sem]) (by simp [go_sem]) (fun x _ => span1_spec x)) [] ?_ (.inl rfl) (by simp [go_sem]) fun hw => ?_
  · simp [go_sem, ints_pure]
  · simp (disch := omega) [go_sem]
    unfold inM
    rw [Bool.eq_iff_iff]
    simp
    constructor
    · rintro ⟨x, hx, h⟩
      exact ⟨x, hx, by omega⟩
    · rintro ⟨x, hx, h⟩
      exact ⟨x, hx, by omega⟩

def voteV (r : Int × Int × Int) : V := .agg [.int .i64 r.1, .int .i64 r.2.1, .int .i64 r.2.2]
/-- A vote that may be, behind a wish (the plain law): its Now, Wish and Many. -/
def heardN (now wish0 many wish need : Int) : Int × Int × Int :=
  if wish = now then (now, now, 0)
  else if wish = wish0 ∧ 0 < many then if need ≤ many + 1 then (wish, wish, 0) else (now, wish, many + 1)
  else if need ≤ 1 then (wish, wish, 0) else (now, wish, 1)
/-- A vote behind a wish, and the error. -/
def tallyN (now wish0 many wish need : Int) : (Int × Int × Int) × Int :=
  if (!inM now || (!inM wish0 || (!inM many || (!inM wish || !inM need))) || need == 0) = true then ((0, 0, 0), 2)
  else (heardN now wish0 many wish need, 0)
def voteE (r : (Int × Int × Int) × Int) : V := .tup [voteV r.1, .int .i64 r.2]

section
variable {now wish0 many wish need : Int}
theorem tallyN_bad (h : (!inM now || (!inM wish0 || (!inM many || (!inM wish || !inM need))) || need == 0) = true) : tallyN now wish0 many wish need = ((0, 0, 0), 2) := by
  simp only [tallyN, h, if_true]
theorem tallyN_ok (h : (!inM now || (!inM wish0 || (!inM many || (!inM wish || !inM need))) || need == 0) = false) : tallyN now wish0 many wish need = (heardN now wish0 many wish need, 0) := by
  simp only [tallyN, h, Bool.false_eq_true, if_false]
theorem heardN_eq (h1 : wish = now) : heardN now wish0 many wish need = (now, now, 0) := by
  simp only [heardN, if_pos h1]
theorem heardN_up (h1 : ¬ wish = now) (h2 : wish = wish0 ∧ 0 < many) (h3 : need ≤ many + 1) : heardN now wish0 many wish need = (wish, wish, 0) := by
  simp only [heardN, if_neg h1, if_pos h2, if_pos h3]
theorem heardN_more (h1 : ¬ wish = now) (h2 : wish = wish0 ∧ 0 < many) (h3 : many + 1 < need) : heardN now wish0 many wish need = (now, wish, many + 1) := by
  simp only [heardN, if_neg h1, if_pos h2, if_neg (by omega : ¬ need ≤ many + 1)]
theorem heardN_up1 (h1 : ¬ wish = now) (h2 : wish = wish0 → many ≤ 0) (h3 : need ≤ 1) : heardN now wish0 many wish need = (wish, wish, 0) := by
  have e2 : ¬ (wish = wish0 ∧ 0 < many) := fun ⟨a, b⟩ => by have := h2 a; omega
  simp only [heardN, if_neg h1, if_neg e2, if_pos h3]
theorem heardN_one (h1 : ¬ wish = now) (h2 : wish = wish0 → many ≤ 0) (h3 : 1 < need) : heardN now wish0 many wish need = (now, wish, 1) := by
  have e2 : ¬ (wish = wish0 ∧ 0 < many) := fun ⟨a, b⟩ => by have := h2 a; omega
  simp only [heardN, if_neg h1, if_neg e2, if_neg (by omega : ¬ need ≤ 1)]
end

theorem tally_spec (now wish0 many wish need : Int) : FnD Tryz.prog 167 [voteV (now, wish0, many), .int .i64 wish, .int .i64 need] (voteE (tallyN now wish0 many wish need)) := by
  unfold voteV
  refine fnD_of mixed Tryz.func167 rfl rfl (by simp [Tryz.ntmps167]) fun hwf E => ?_
  simp (disch := omega) [go_sem] at hwf
  simp (disch := omega) [Tryz.ntmps167, go_sem]
  refine callK_data (span_spec [now, wish0, many, wish, need]) [176] ?_ (.inr (by simp [go_sem])) (by simp [go_sem]) fun hw => ?_
  · simp [go_sem, ints]
  · simp (disch := omega) [go_sem]
    refine br_of (fun h => ?_) (fun h => ?_)
    · simp (disch := omega) [go_sem, voteE, voteV, tallyN_bad h]
    · have hm : many + 1 ≤ 9223372036854775807 ∧ -9223372036854775808 ≤ many + 1 := by
        simp [inM] at h; omega
      simp (disch := omega) [go_sem]
      refine br_of (fun h1 => ?_) (fun h1 => ?_) <;> simp at h1
      · have e := heardN_eq (wish0 := wish0) (many := many) (need := need) h1
        simp (disch := omega) [go_sem, tallyN_ok h, e, voteE, voteV]
      · simp (disch := omega) [go_sem]
        refine br_of (fun h2 => ?_) (fun h2 => ?_) <;> simp at h2
        · simp (disch := omega) [go_sem]
          refine br_of (fun h3 => ?_) (fun h3 => ?_) <;> simp at h3
          · simp (disch := omega) [go_sem, tallyN_ok h, heardN_up h1 h2 h3, voteE, voteV]
          · simp (disch := omega) [go_sem, tallyN_ok h, heardN_more h1 h2 h3, voteE, voteV]
        · simp (disch := omega) [go_sem]
          refine br_of (fun h3 => ?_) (fun h3 => ?_) <;> simp at h3
          · simp (disch := omega) [go_sem, tallyN_ok h, heardN_up1 h1 h2 h3, voteE, voteV]
          · simp (disch := omega) [go_sem, tallyN_ok h, heardN_one h1 h2 h3, voteE, voteV]


def wishI (n : NetN) (load : Int) : Nat := min (load * ((cycK n : Int) + 1) / 65536).toNat (cycK n)
def wishN (n : NetN) (load : Int) : Int := cycAt n (wishI n load)
noncomputable def wishC (n : NetN) (load : Int) : Int := if NetOk n then if 0 ≤ load ∧ load ≤ 65536 then 0 else 2 else 60
theorem wishC_bad {n : NetN} {load : Int} (h : ¬ NetOk n) : wishC n load = 60 := by unfold wishC; rw [if_neg h]
theorem wishC_arg {n : NetN} {load : Int} (h : NetOk n) (h2 : ¬ (0 ≤ load ∧ load ≤ 65536)) : wishC n load = 2 := by unfold wishC; rw [if_pos h, if_neg h2]
theorem wishC_ok {n : NetN} {load : Int} (h : NetOk n) (h2 : 0 ≤ load ∧ load ≤ 65536) : wishC n load = 0 := by unfold wishC; rw [if_pos h, if_pos h2]
noncomputable def wishE (n : NetN) (load : Int) : V := .tup [.int .i64 (if wishC n load = 0 then wishN n load else 0), .int .i64 (wishC n load)]

def towards (now to step : Int) : Int := if now < to then now + step else if to < now then now - step else now
noncomputable def nextC (n : NetN) (v : Int × Int × Int) (load : Int) : Int :=
  if NetOk n then if (inM v.1 && (inM v.2.1 && inM v.2.2)) = true ∧ v.1 ∈ cycN n (cycK n + 1) then if 0 ≤ load ∧ load ≤ 65536 then 0 else 2 else 2 else 60
noncomputable def nextV (n : NetN) (v : Int × Int × Int) (load : Int) : Int × Int × Int :=
  if nextC n v load = 0 then heardN v.1 v.2.1 v.2.2 (towards v.1 (wishN n load) n.step) 3 else (0, 0, 0)
theorem mem_cyc {n : NetN} {c : Int} : c ∈ cycN n (cycK n + 1) ↔ ∃ i, i ≤ cycK n ∧ c = cycAt n i := by
  simp only [cycN, List.mem_map, List.mem_range]
  constructor
  · rintro ⟨i, hi, rfl⟩; exact ⟨i, by omega, rfl⟩
  · rintro ⟨i, hi, rfl⟩; exact ⟨i, by omega, rfl⟩
theorem wish_mem (n : NetN) (load : Int) : wishN n load ∈ cycN n (cycK n + 1) := mem_cyc.2 ⟨wishI n load, by unfold wishI; omega, rfl⟩
theorem cycAt_lt {n : NetN} (h : TimedOk n) {i j : Nat} : cycAt n i < cycAt n j ↔ i < j := by
  have hs := h.2.2.1.1
  have key : ∀ {i j : Nat}, i < j → cycAt n i < cycAt n j := fun {i j} hij => by
    unfold cycAt
    have : n.step * ((i : Int) + 1) ≤ n.step * (j : Int) := Int.mul_le_mul_of_nonneg_left (by omega) (by omega)
    rw [Int.mul_add] at this
    omega
  constructor
  · intro h1
    apply Classical.byContradiction
    intro h2
    rcases Nat.lt_or_eq_of_le (Nat.le_of_not_lt h2) with h3 | h3
    · have := key h3; omega
    · subst h3; omega
  · exact key
theorem cycAt_succ (n : NetN) (i : Nat) : cycAt n (i + 1) = cycAt n i + n.step := by
  unfold cycAt
  rw [show ((i + 1 : Nat) : Int) = (i : Int) + 1 by omega, Int.mul_add]; omega
/-- A step towards a cycle of the region stays one of its cycles. -/
theorem towards_mem {n : NetN} (h : TimedOk n) {now to : Int} (h1 : now ∈ cycN n (cycK n + 1)) (h2 : to ∈ cycN n (cycK n + 1)) : towards now to n.step ∈ cycN n (cycK n + 1) := by
  obtain ⟨i, hi, rfl⟩ := mem_cyc.1 h1
  obtain ⟨j, hj, rfl⟩ := mem_cyc.1 h2
  unfold towards
  split
  · rename_i h3
    have := (cycAt_lt h).1 h3
    exact mem_cyc.2 ⟨i + 1, by omega, (cycAt_succ n i).symm⟩
  · split
    · rename_i h3
      have := (cycAt_lt h).1 h3
      obtain ⟨k, rfl⟩ : ∃ k, i = k + 1 := ⟨i - 1, by omega⟩
      exact mem_cyc.2 ⟨k, by omega, by rw [cycAt_succ]; omega⟩
    · exact h1
theorem cyc_bound {n : NetN} (h : TimedOk n) {c : Int} (hc : c ∈ cycN n (cycK n + 1)) : 1 ≤ c ∧ c ≤ 1048576 := by
  obtain ⟨i, hi, rfl⟩ := mem_cyc.1 hc
  have := h.at_bound (i := i) (by omega)
  have := h.at.2 hi
  have := h.2.1
  omega

theorem nextC_net {n : NetN} {v : Int × Int × Int} {load : Int} (h : ¬ NetOk n) : nextC n v load = 60 := by unfold nextC; rw [if_neg h]
theorem nextC_arg {n : NetN} {v : Int × Int × Int} {load : Int} (h : NetOk n) (h2 : ¬ ((inM v.1 && (inM v.2.1 && inM v.2.2)) = true ∧ v.1 ∈ cycN n (cycK n + 1))) : nextC n v load = 2 := by unfold nextC; rw [if_pos h, if_neg h2]
theorem nextC_load {n : NetN} {v : Int × Int × Int} {load : Int} (h : NetOk n) (h2 : (inM v.1 && (inM v.2.1 && inM v.2.2)) = true ∧ v.1 ∈ cycN n (cycK n + 1)) (h3 : ¬ (0 ≤ load ∧ load ≤ 65536)) : nextC n v load = 2 := by unfold nextC; rw [if_pos h, if_pos h2, if_neg h3]
theorem nextC_ok {n : NetN} {v : Int × Int × Int} {load : Int} (h : NetOk n) (h2 : (inM v.1 && (inM v.2.1 && inM v.2.2)) = true ∧ v.1 ∈ cycN n (cycK n + 1)) (h3 : 0 ≤ load ∧ load ≤ 65536) : nextC n v load = 0 := by unfold nextC; rw [if_pos h, if_pos h2, if_pos h3]
theorem nextV_bad {n : NetN} {v : Int × Int × Int} {load : Int} (h : nextC n v load ≠ 0) : nextV n v load = (0, 0, 0) := by unfold nextV; rw [if_neg h]
theorem nextV_ok {n : NetN} {v : Int × Int × Int} {load : Int} (h : nextC n v load = 0) : nextV n v load = heardN v.1 v.2.1 v.2.2 (towards v.1 (wishN n load) n.step) 3 := by unfold nextV; rw [if_pos h]

end Go.Proofs.YtdeionjkcmpnpaaGreatDoor
