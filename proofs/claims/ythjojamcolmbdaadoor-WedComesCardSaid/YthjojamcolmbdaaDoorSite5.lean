/- The layer site: what phases need, whether plans fit. -/
import Derived.Test.YthjojamcolmbdaaDoorSite4
namespace Go.Proofs.YthjojamcolmbdaaDoor
open Go.AM Go.RowKit
set_option maxRecDepth 100000

def minAt (s : Sit) (i : Nat) : Int := ((s.phases[i]?).map Pha.min).getD 0
def needsN (s : Sit) (i : Nat) : Int := minAt s i + clearN s i ((i + 1) % s.phases.length)
theorem needs_spec (s : Sit) (i : Nat) (hS : Shaped s) (hi : i < s.phases.length) (hw : 0 ≤ needsN s i ∧ needsN s i ≤ 4294967296) : FnD Tryd.prog 130 [sitV s, .int .i64 i] (.int .i64 (needsN s i)) tabG := by
  have hpu := (⟨grps_pure s.groups, phas_pure s.phases, eyes_pure s.eyes, plns_pure s.plans, sets_pure s.apart, rows_pure s.between⟩ : _ ∧ _ ∧ _ ∧ _ ∧ _ ∧ _)
  obtain ⟨hp1, hp2, hp3, hp4, hp5, hp6⟩ := hpu
  have hc := clear_spec s i ((i + 1) % s.phases.length) hS hi (Nat.mod_lt _ (by omega))
  obtain ⟨hn, ha, hb, hph, -, -, hrow⟩ := hS
  have hpi : nth (s.phases.map phaV) i = phaV s.phases[i] := nth_map hi
  have hmi : s.phases[i].min = minAt s i := by simp [minAt, hi]
  have hsv : sitV s = .agg [.int .i64 s.id, .sl 3 (s.groups.map grpV), .sl 1 (sets s.apart), .sl 1 (rows s.between), .sl 5 (s.phases.map phaV), .sl 4 (s.eyes.map eyeV), .int .i64 s.watch, .int .i64 s.feed, .int .i64 s.heal, .int .i64 s.low, .int .i64 s.high, .sl 3 (s.plans.map plnV)] := rfl
  rw [hsv] at hc ⊢
  refine fnD_of mixed Tryd.func130 rfl rfl (by simp [Tryd.ntmps130]) fun hwf E => ?_
  simp (disch := omega) [go_sem] at hwf
  have hmod : ((i : Int) + 1).tmod (s.phases.length : Int) = (((i + 1) % s.phases.length : Nat) : Int) := by
    rw [Int.tmod_eq_emod_of_nonneg (by omega)]; rfl
  have hph0 : ¬ s.phases.length = 0 := by omega
  simp (disch := omega) [Tryd.ntmps130, go_sem, hpi, phaV, hi, hmi, hmod, hph0]
  refine callK_data hc [] (by simp [go_sem, hp1, hp2, hp3, hp4, hp5, hp6]) (.inl rfl) (by simp [go_sem]) (fun _ => ?_) (by simp [tabG, go_sem])
  have hne : needsN s i = minAt s i + clearN s i ((i + 1) % s.phases.length) := rfl
  rw [hne] at hw ⊢
  simp (disch := omega) [go_sem]
  kernel_rfl

def leftK (p : Pln) (k : Nat) : Int := p.cycle - (p.splits.take k).sum
theorem leftK_succ (p : Pln) (k : Nat) (h : k < p.splits.length) : leftK p (k + 1) = leftK p k - p.splits[k] := by
  unfold leftK
  rw [List.take_succ_eq_append_getElem h, List.sum_append]; simp; omega
def fitAt (s : Sit) (p : Pln) (i : Nat) : Prop := needsN s i ≤ p.splits.getD i 0 ∧ p.splits.getD i 0 ≤ leftK p i
instance (s : Sit) (p : Pln) (i : Nat) : Decidable (fitAt s p i) := by unfold fitAt; infer_instance
def Fits (s : Sit) (p : Pln) : Prop := (s.low ≤ p.cycle ∧ p.cycle ≤ s.high) ∧ (0 ≤ p.offset ∧ p.offset ≤ p.cycle - 1) ∧ p.splits.length = s.phases.length ∧ (∀ i, i < p.splits.length → fitAt s p i) ∧ leftK p p.splits.length = 0
instance (s : Sit) (p : Pln) : Decidable (Fits s p) := by unfold Fits; infer_instance

/-- What the checks ahead tell of what phases need. -/
def NeedsOk (s : Sit) : Prop := ∀ i, i < s.phases.length → 0 ≤ needsN s i ∧ needsN s i ≤ 4294967296
theorem fits_spec (s : Sit) (p : Pln) (hS : Shaped s) (hN : NeedsOk s) (hL : 0 ≤ s.low ∧ s.high ≤ 1048576) : FnD Tryd.prog 82 [sitV s, plnV p] (.bool (decide (Fits s p))) tabG := by
  have hpu := (⟨grps_pure s.groups, phas_pure s.phases, eyes_pure s.eyes, plns_pure s.plans, sets_pure s.apart, rows_pure s.between⟩ : _ ∧ _ ∧ _ ∧ _ ∧ _ ∧ _)
  obtain ⟨hp1, hp2, hp3, hp4, hp5, hp6⟩ := hpu
  have hne := fun i hi => needs_spec s i hS hi (hN i hi)
  have hsv : sitV s = .agg [.int .i64 s.id, .sl 3 (s.groups.map grpV), .sl 1 (sets s.apart), .sl 1 (rows s.between), .sl 5 (s.phases.map phaV), .sl 4 (s.eyes.map eyeV), .int .i64 s.watch, .int .i64 s.feed, .int .i64 s.heal, .int .i64 s.low, .int .i64 s.high, .sl 3 (s.plans.map plnV)] := rfl
  have hpv : plnV p = .agg [.int .i64 p.cycle, .int .i64 p.offset, .sl 1 (ints p.splits)] := rfl
  rw [hsv] at hne ⊢
  rw [hpv]
  refine fnD_of mixed Tryd.func82 rfl rfl (by simp [Tryd.ntmps82]) fun hwf E => ?_
  simp (disch := omega) [go_sem, ints_len] at hwf
  simp (disch := omega) [Tryd.ntmps82, go_sem]
  refine callK_bool (in_spec p.cycle s.low s.high) [] (by simp [go_sem]) (fun h1 => ?_) (fun h1 => ?_)
  · rw [inN_iff] at h1
    simp (disch := omega) [go_sem]
    refine callK_bool (in_spec p.offset 0 (p.cycle - 1)) [] (by simp [go_sem]) (fun h2 => ?_) (fun h2 => ?_)
    · rw [inN_iff] at h2
      simp (disch := omega) [go_sem, ints_len]
      refine br_of (fun h3 => ?_) (fun h3 => ?_) <;> simp at h3
      · simp (disch := omega) [go_sem]
        rintro ⟨_, _, a, _⟩; omega
      · have hl : p.splits.length = s.phases.length := by omega
        simp (disch := omega) [go_sem, ints_len]
        have hz : leftK p 0 = p.cycle := by simp [leftK]
        refine awz_loop mixed (fun k : Nat => ⟨[(39, .int .i64 k), (38, .int .i64 p.splits.length), (37, .sl 1 (ints p.splits)), (5, .int .i64 (leftK p k)), (2, .ptr 0 1 0 0), (4, .bool false)], [(0, ⟨.box, 29, 12, [sitV s]⟩)], 2048, [], 57, 0, tabG⟩)
          (fun k => k ≤ p.splits.length ∧ (0 ≤ leftK p k ∧ leftK p k ≤ 1048576) ∧ ∀ i, i < k → fitAt s p i) (fun k => p.splits.length - k) 0 ⟨by omega, by rw [hz]; omega, fun i hi => by omega⟩ ?_ ?_
        · refine Le.mk [(0, some 0)] [0] ⟨rfl, rfl, rfl⟩ ?_ ?_ ?_ <;> simp [go_sem, sitV, hp1, hp2, hp3, hp4, hp5, hp6, ints_pure, hz]
        · rintro k ⟨hk, hlk, hno⟩
          simp (disch := omega) [go_sem]
          refine br_of (fun h => ?_) (fun h => ?_) <;> simp at h
          · have hnk := hN k (by omega)
            have g1 : p.splits.getD k 0 = p.splits[k] := by simp [h]
            have hfa : fitAt s p k ↔ inN p.splits[k] (needsN s k) (leftK p k) = true := by unfold fitAt; rw [g1, inN_iff]
            have hls := leftK_succ p k h
            simp (disch := omega) [go_sem, ints_len, nth_ints, h, sitV]
            refine callK_data (hne k (by omega)) [] (by simp [go_sem, hp1, hp2, hp3, hp4, hp5, hp6]) (.inl rfl) (by simp [go_sem]) (fun _ => ?_) (by simp [tabG, go_sem])
            simp (disch := omega) [go_sem]
            refine callK_bool (in_spec p.splits[k] (needsN s k) (leftK p k)) [] (by simp [go_sem]) (fun h4 => ?_) (fun h4 => ?_)
            · have h5 := inN_iff.1 h4
              simp (disch := omega) [go_sem]
              refine round_of (k + 1) ⟨by omega, by omega, fun j hj => ?_⟩ (by omega) (Le.mk [(0, some 0)] [0] ⟨rfl, rfl, rfl⟩ ?_ ?_ ?_)
              · by_cases e : j = k
                · subst e; exact hfa.2 h4
                · exact hno j (by omega)
              all_goals simp [go_sem, sitV, hp1, hp2, hp3, hp4, hp5, hp6, ints_pure, hls]
            · simp (disch := omega) [go_sem]
              rintro ⟨_, _, _, hall, _⟩
              have := hfa.1 (hall k h)
              rw [h4] at this; cases this
          · have hkl : k = p.splits.length := by omega
            subst hkl
            simp (disch := omega) [go_sem]
            rw [Bool.eq_iff_iff]
            simp
            constructor
            · intro h5; exact ⟨h1, h2, hl, hno, h5⟩
            · rintro ⟨_, _, _, _, h5⟩; exact h5
    · simp (disch := omega) [go_sem]
      rintro ⟨_, a, _⟩
      rw [← inN_iff] at a; simp [h2] at a
  · simp (disch := omega) [go_sem]
    rintro ⟨a, _⟩
    rw [← inN_iff] at a; simp [h1] at a
end Go.Proofs.YthjojamcolmbdaaDoor
