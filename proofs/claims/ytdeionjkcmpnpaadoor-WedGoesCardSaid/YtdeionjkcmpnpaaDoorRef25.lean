
/- The document's own answer on cycles. -/
import Derived.Test.YtdeionjkcmpnpaaDoorRefN
import Derived.Test.YtdeionjkcmpnpaaDoorCyc
set_option linter.unusedSimpArgs false
set_option linter.unusedVariables false
namespace Go.Proofs.YtdeionjkcmpnpaaDoor
open Go.AM Go.RowKit
set_option maxRecDepth 100000

theorem r25heard_spec (now wish0 many wish need : Int) (hm : many + 1 ≤ 9223372036854775807) : FnD Tryd.prog 62 [voteV (now, wish0, many), .int .i64 wish, .int .i64 need] (voteV (heardN now wish0 many wish need)) := by
  unfold voteV
  refine fnD_of mixed Tryd.func62 rfl rfl (by simp [Tryd.ntmps62]) fun hwf E => ?_
  simp (disch := omega) [go_sem] at hwf
  simp (disch := omega) [Tryd.ntmps62, go_sem]
  refine br_of (fun h1 => ?_) (fun h1 => ?_) <;> simp at h1
  · have e := heardN_eq (wish0 := wish0) (many := many) (need := need) h1
    simp (disch := omega) [go_sem, e]
  · simp (disch := omega) [go_sem]
    refine br_of (fun h2 => ?_) (fun h2 => ?_) <;> simp at h2
    · have h2' : wish = wish0 ∧ 0 < many := ⟨h2.1.symm, h2.2⟩
      simp (disch := omega) [go_sem]
      refine br_of (fun h3 => ?_) (fun h3 => ?_) <;> simp at h3
      · have e := heardN_up (now := now) (need := need) h1 h2' (by omega)
        simp (disch := omega) [go_sem, e]
      · have e := heardN_more (now := now) (need := need) h1 h2' (by omega)
        simp (disch := omega) [go_sem, e, Int.add_comm]
    · have h2' : wish = wish0 → many ≤ 0 := fun h => h2 h.symm
      simp (disch := omega) [go_sem]
      refine br_of (fun h3 => ?_) (fun h3 => ?_) <;> simp at h3
      · simp (disch := omega) [go_sem, heardN_up1 h1 h2' h3]
      · simp (disch := omega) [go_sem, heardN_one h1 h2' h3]


theorem mem_cyc2 {n : NetN} (hT : TimedOk n) {c : Int} : c ∈ cycN n (cycK n + 1) ↔ (n.low ≤ c ∧ c ≤ n.high) ∧ (c - n.low).tmod n.step = 0 := by
  have hs := hT.2.2.1
  rw [mem_cyc]
  constructor
  · rintro ⟨i, hi, rfl⟩
    have h1 := hT.at.2 hi
    have h2 : 0 ≤ n.step * (i : Int) := Int.mul_nonneg (by omega) (by omega)
    refine ⟨⟨by unfold cycAt; omega, h1⟩, ?_⟩
    rw [show cycAt n i - n.low = n.step * i by unfold cycAt; omega]
    exact Int.mul_tmod_right _ _
  · rintro ⟨⟨h1, h2⟩, h3⟩
    rw [Int.tmod_eq_emod_of_nonneg (by omega)] at h3
    have h4 := Int.mul_ediv_cancel_of_emod_eq_zero h3
    have h5 : 0 ≤ (c - n.low) / n.step := Int.ediv_nonneg (by omega) (by omega)
    obtain ⟨i, hi⟩ := Int.eq_ofNat_of_zero_le h5
    rw [hi] at h4
    have e : c = cycAt n i := by unfold cycAt; omega
    exact ⟨i, hT.at.1 (by omega), e⟩

theorem one_spec (n : NetN) (c : Int) (hT : TimedOk n) : FnD Tryd.prog 139 [netV n, .int .i64 c] (.bool (decide (c ∈ cycN n (cycK n + 1)))) := by
  have hq := hT.q
  obtain ⟨t1, t2, t3, t4, t5⟩ := id hT
  unfold netV
  refine fnD_of mixed Tryd.func139 rfl rfl (by simp [Tryd.ntmps139]) fun hwf E => ?_
  simp (disch := omega) [go_sem] at hwf
  simp (disch := omega) [Tryd.ntmps139, go_sem]
  refine ⟨fun _ _ => by omega, ?_⟩
  rw [Bool.eq_iff_iff, decide_eq_true_iff, mem_cyc2 hT]
  simp only [Bool.and_eq_true, decide_eq_true_eq, beq_iff_eq]

end Go.Proofs.YtdeionjkcmpnpaaDoor
