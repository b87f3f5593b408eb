/- CycleRises: a greater load wishes no lesser cycle. -/
import Derived.Test.YthjojamcolmbdaaDoorRegion
namespace Go.Proofs.YthjojamcolmbdaaDoor
open Go.AM Go.RowKit
set_option maxRecDepth 100000

theorem wish_low {n : NetN} : wishN n 0 = n.low := by
  unfold wishN wishI cycAt; simp
theorem wish_high {n : NetN} (h : TimedOk n) : wishN n 65536 = n.high := by
  have hq := h.q
  have : wishI n 65536 = cycK n := by unfold wishI; omega
  unfold wishN cycAt
  rw [this]; omega
theorem wish_mono {n : NetN} (h : TimedOk n) {a b : Int} (ha : 0 ≤ a) (hab : a ≤ b) : wishN n a ≤ wishN n b := by
  have hs := h.2.2.1.1
  have hi : wishI n a ≤ wishI n b := by
    unfold wishI
    have h1 : a * ((cycK n : Int) + 1) ≤ b * ((cycK n : Int) + 1) := Int.mul_le_mul_of_nonneg_right hab (by omega)
    have h2 : 0 ≤ a * ((cycK n : Int) + 1) := Int.mul_nonneg ha (by omega)
    omega
  unfold wishN cycAt
  have : n.step * (wishI n a : Int) ≤ n.step * (wishI n b : Int) := Int.mul_le_mul_of_nonneg_left (by omega) (by omega)
  omega

set_option maxHeartbeats 1000000 in
theorem rises_spec (n : NetN) (a b : Int) : FnD Tryd.prog 11 [netV n, .int .i64 a, .int .i64 b] (.bool true) tabG := by
  have hp1 := sits_pure n.sites
  have hp2 := subs_pure n.subs
  have hp3 := weds_pure n.weds
  have hg := greatN_spec n
  have hw := fun load => wish_spec n load
  have hnv : netV n = .agg [.sl 12 (n.sites.map sitV), .sl 2 (n.subs.map subV), .sl 4 (n.weds.map wedV), .int .i64 n.low, .int .i64 n.high, .int .i64 n.step] := rfl
  rw [hnv] at hg hw ⊢
  refine fnD_of mixed Tryd.func11 rfl rfl (by simp [Tryd.ntmps11]) fun hwf E => ?_
  simp (disch := omega) [Tryd.ntmps11, go_sem]
  refine callK_data alive25_spec [] (by simp [go_sem]) (.inl rfl) (by simp [go_sem]) (fun _ => ?_) (by simp [tabG, go_sem])
  simp (disch := omega) [go_sem]
  refine callK_bool hg [] (by simp [go_sem, hp1, hp2, hp3]) (fun h1 => ?_) (fun h1 => ?_)
  · simp (disch := omega) [go_sem]
  · simp (disch := omega) [go_sem]
    refine callK_data (hw a) [] (by simp [go_sem, hp1, hp2, hp3]) (.inl rfl) (by simp [go_sem, wishE]) (fun _ => ?_) (by simp [tabG, go_sem])
    simp (disch := omega) [go_sem, wishE]
    refine callK_data (hw b) [] (by simp [go_sem, hp1, hp2, hp3]) (.inl rfl) (by simp [go_sem, wishE]) (fun _ => ?_) (by simp [tabG, go_sem])
    simp (disch := omega) [go_sem, wishE]
    refine callK_data (hw 0) [] (by simp [go_sem, hp1, hp2, hp3]) (.inl rfl) (by simp [go_sem, wishE]) (fun _ => ?_) (by simp [tabG, go_sem])
    simp (disch := omega) [go_sem, wishE]
    refine callK_data (hw 65536) [] (by simp [go_sem, hp1, hp2, hp3]) (.inl rfl) (by simp [go_sem, wishE]) (fun _ => ?_) (by simp [tabG, go_sem])
    by_cases hOk : NetOk n
    · have hl := @wish_low n
      have hh := wish_high hOk.1
      have c0 := wishC_ok hOk (load := 0) (by omega)
      have c1 := wishC_ok hOk (load := 65536) (by omega)
      by_cases ha : 0 ≤ a ∧ a ≤ 65536
      · have ca := wishC_ok hOk ha
        by_cases hb : 0 ≤ b ∧ b ≤ 65536
        · have cb := wishC_ok hOk hb
          have hm := fun hab => wish_mono hOk.1 (a := a) (b := b) ha.1 hab
          simp (disch := omega) [go_sem, wishE, c0, c1, ca, cb, hl, hh]
          by_cases hab : a ≤ b
          · exact .inr (hm hab)
          · exact .inl (by omega)
        · have cb := wishC_arg hOk hb
          simp (disch := omega) [go_sem, wishE, c0, c1, ca, cb, hl, hh]
      · have ca := wishC_arg hOk ha
        simp (disch := omega) [go_sem, wishE, c0, c1, ca, hl, hh]
    · have c0 := fun load => wishC_bad hOk (load := load)
      simp (disch := omega) [go_sem, wishE, c0]
end Go.Proofs.YthjojamcolmbdaaDoor
