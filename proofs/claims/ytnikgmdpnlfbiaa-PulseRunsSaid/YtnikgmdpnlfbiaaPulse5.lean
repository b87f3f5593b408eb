/- The laws PulseNames and PulseRuns. -/
import Derived.Test.YtnikgmdpnlfbiaaPulse2
namespace Go.Proofs.Ytnikgmdpnlfbiaa
open Go.AM Go.RowKit
set_option maxRecDepth 100000

theorem rNext_spec (p : Pul) (x : Bool) (hold : Int) : FnD Try.prog 15 [pulV p, .bool x, .int .i64 hold] (nextE p x hold) := by
  obtain ⟨u, r, s⟩ := p
  unfold pulV
  refine fnD_of mixed Try.func15 rfl rfl (by simp [Try.ntmps15]) fun hwf E => ?_
  simp (disch := omega) [go_sem] at hwf
  simp (disch := omega) [Try.ntmps15, go_sem]
  refine br_of (fun h1 => ?_) (fun h1 => ?_) <;> simp at h1 <;> simp (disch := omega) [go_sem]
  · have e : askedN (u, r, s) 1 hold = 8 := by simp only [askedN]; rw [if_pos (by omega)]
    simp (disch := omega) [go_sem, nextE, pulV, e]
  · refine br_of (fun h3 => ?_) (fun h3 => ?_) <;> simp at h3 <;> simp (disch := omega) [go_sem]
    · have e : askedN (u, r, s) 1 hold = 2 := by simp only [askedN]; rw [if_neg (by omega), if_neg (by omega), if_pos (by omega)]
      simp (disch := omega) [go_sem, nextE, pulV, e]
    · have hp0 : 0 ≤ s ∧ s ≤ 1048576 := ⟨by omega, by omega⟩
      have e : askedN (u, r, s) 1 hold = 0 := askedN_yes hp0 (by omega) ⟨by omega, by omega⟩
      refine callK_data (rnext_spec (u, r, s) x hold hp0) [] ?_ (.inl rfl) ?_ fun _ => ?_
      · simp [go_sem, pulV]
      · simp [go_sem, pulV]
      · simp (disch := omega) [go_sem, nextE, pulV, e]

theorem runs_spec (p : Pul) (l : List Bool) (x : Bool) (hold : Int) : FnD Try.prog 7 [pulV p, .sl 1 (bools l), .bool x, .int .i64 hold] (.bool true) := by
  have h1 := next_spec p x hold
  have h2 := rNext_spec p x hold
  have h3 := run_spec p l hold
  have h4 := rrun_spec p l hold
  unfold nextE at h1 h2
  unfold runE at h4
  generalize (if askedN p 1 hold = 0 then stepP hold p x else (false, false, 0)) = a at h1 h2
  generalize askedN p 1 hold = e at h1 h2
  generalize (if askedN p l.length hold = 0 then (runP hold p l).1 else (false, false, 0)) = c at h3 h4
  generalize (if askedN p l.length hold = 0 then (runP hold p l).2 else []) = o at h3 h4
  generalize askedN p l.length hold = g at h3 h4
  have s1 := rsame_spec o o
  have s2 := rsame_spec l l
  rw [show decide (o = o) = true by simp] at s1
  rw [show decide (l = l) = true by simp] at s2
  obtain ⟨u, r, s⟩ := p
  unfold pulV
  refine fnD_of mixed Try.func7 rfl rfl (by simp [Try.ntmps7]) fun hwf E => ?_
  simp (disch := omega) [go_sem, bools_len] at hwf
  simp (disch := omega) [Try.ntmps7, go_sem, bools_len]
  refine br_of (fun h => ?_) (fun h => ?_) <;> simp at h <;> simp (disch := omega) [go_sem, bools_len]
  refine ⟨by omega, callK_data h1 [] (by simp [go_sem, pulV]) (.inl rfl) (by simp [go_sem, pulV]) fun _ => ?_⟩
  simp (disch := omega) [go_sem, pulV]
  refine callK_data h2 [] (by simp [go_sem, pulV]) (.inl rfl) (by simp [go_sem, pulV]) fun _ => ?_
  simp (disch := omega) [go_sem, pulV]
  refine callK_frz h3 [96] [(96, ⟨.ro, 4, 1, bools l⟩)] ?_ ?_ ?_ fun _ => ?_
  · simp [go_sem, pulV, bools_pure, bools_len]
  · simp [go_sem, bools_pure, bools_len]
  · simp [go_sem, pulV, bools_pure]
  simp (disch := omega) [go_sem, pulV]
  refine callK_data h4 [] (by simp [go_sem, pulV, bools_pure]) (.inl rfl) (by simp [go_sem, pulV, bools_pure]) fun _ => ?_
  simp (disch := omega) [go_sem, pulV]
  refine callK_data s1 [] (by simp [go_sem, bools_pure]) (.inl rfl) (by simp [go_sem]) fun _ => ?_
  simp (disch := omega) [go_sem]
  refine callK_data s2 [96] ?_ (.inr (by simp [go_sem])) (by simp [go_sem]) fun _ => ?_
  · simp [go_sem, bools_pure, bools_len]
  simp (disch := omega) [go_sem]

theorem rep_bools (n : Nat) : bools (List.replicate n false) = List.replicate n (V.bool false) := by simp [bools]
theorem names_spec : FnD Try.prog 6 [] (.bool true) := by
  have h1 := next_spec (false, false, 0) true 2
  have h2 := next_spec (false, true, 1) true 2
  have h3 := next_spec (true, true, 2) false 2
  have h4 := next_spec (false, true, 1) true 0
  have h5 := next_spec (false, false, -1) true 1
  have h6 := run_spec (false, true, 1) (List.replicate 4097 false) 1
  rw [show nextE (false, false, 0) true 2 = .tup [pulV (false, true, 1), .int .i64 0] by kernel_rfl] at h1
  rw [show nextE (false, true, 1) true 2 = .tup [pulV (true, true, 2), .int .i64 0] by kernel_rfl] at h2
  rw [show nextE (true, true, 2) false 2 = .tup [pulV (true, false, 1), .int .i64 0] by kernel_rfl] at h3
  rw [show nextE (false, true, 1) true 0 = .tup [pulV (false, false, 0), .int .i64 2] by kernel_rfl] at h4
  rw [show nextE (false, false, -1) true 1 = .tup [pulV (false, false, 0), .int .i64 8] by kernel_rfl] at h5
  rw [List.length_replicate, show askedN (false, true, 1) ((4097 : Nat) : Int) 1 = 4 by decide +kernel, if_neg (by decide), if_neg (by decide)] at h6
  have hpr := bools_pure (List.replicate 4097 false)
  have hlr : (bools (List.replicate 4097 false)).length = 4097 := by rw [bools_len, List.length_replicate]
  rw [rep_bools] at hpr hlr h6
  refine fnD_of mixed Try.func6 rfl rfl (by simp [Try.ntmps6]) fun hwf E => ?_
  simp (disch := omega) [Try.ntmps6, go_sem]
  refine callK_data h1 [] (by simp [go_sem, pulV]) (.inl rfl) (by simp [go_sem, pulV]) fun _ => ?_
  simp (disch := omega) [go_sem, pulV]
  refine callK_data h2 [] (by simp [go_sem, pulV]) (.inl rfl) (by simp [go_sem, pulV]) fun _ => ?_
  simp (disch := omega) [go_sem, pulV]
  refine callK_data h3 [] (by simp [go_sem, pulV]) (.inl rfl) (by simp [go_sem, pulV]) fun _ => ?_
  simp (disch := omega) [go_sem, pulV]
  refine callK_data h4 [] (by simp [go_sem, pulV]) (.inl rfl) (by simp [go_sem, pulV]) fun _ => ?_
  simp (disch := omega) [go_sem, pulV]
  refine callK_data h5 [] (by simp [go_sem, pulV]) (.inl rfl) (by simp [go_sem, pulV]) fun _ => ?_
  simp (disch := omega) [go_sem, pulV, -List.reduceReplicate]
  generalize List.replicate 4097 (V.bool false) = R at h6 hpr hlr ⊢
  refine callK_frz h6 [672] [(672, ⟨.ro, 4, 1, R⟩)] ?_ ?_ ?_ fun _ => ?_
  · simp [go_sem, pulV, hpr, hlr]
  · simp [go_sem, hpr, hlr]
  · simp [go_sem, pulV, bools_nil]
  simp (disch := omega) [go_sem, pulV, bools_nil]
  refine ⟨by kernel_rfl, ?_⟩
  refine callK_data alive_spec [] (by simp [go_sem]) (.inl rfl) (by simp [go_sem]) fun _ => ?_
  simp (disch := omega) [go_sem]
end Go.Proofs.Ytnikgmdpnlfbiaa
