/- The layer site: phases. -/
import Derived.Test.YthjojamcolmbdaaDoorSite7
namespace Go.Proofs.YthjojamcolmbdaaDoor
open Go.AM Go.RowKit
set_option maxRecDepth 100000

def minGrp (s : Sit) (a : Nat) : Int := ((s.groups[a]?).map Grp.min).getD 0
def grpIn (s : Sit) (p : Pha) (a : Nat) : Prop := minGrp s a ≤ p.min ∧ (s.apart.getD a 0 &&& p.set) = 0
def phaOk (s : Sit) (p : Pha) : Prop := p.set ≠ 0 ∧ p.set < 2 ^ s.groups.length ∧ ((1 ≤ p.min ∧ p.min ≤ 1048576) ∧ (1 ≤ p.max ∧ p.max ≤ 1048576) ∧ (1 ≤ p.gap ∧ p.gap ≤ 1048576)) ∧ p.min ≤ p.max ∧ ∀ a, p.set.testBit a = true → grpIn s p a
def allK (s : Sit) (k : Nat) : Nat := (s.phases.take k).foldl (fun t p => t ||| p.set) 0
theorem allK_succ (s : Sit) (k : Nat) (h : k < s.phases.length) : allK s (k + 1) = allK s k ||| s.phases[k].set := by
  unfold allK
  rw [List.take_succ_eq_append_getElem h, List.foldl_append]; rfl
def phaAt (s : Sit) (k : Nat) : Prop := ∀ h : k < s.phases.length, phaOk s s.phases[k]
def PhasedOk (s : Sit) : Prop := (∀ k, k < s.phases.length → phaAt s k) ∧ popN (allK s s.phases.length) = s.groups.length
noncomputable instance (s : Sit) : Decidable (PhasedOk s) := Classical.propDecidable _

set_option maxHeartbeats 1000000 in
theorem phased_spec (s : Sit) (hS : Shaped s) : FnD Tryd.prog 72 [sitV s] (.bool (decide (PhasedOk s))) tabG := by
  have hpu := (⟨grps_pure s.groups, phas_pure s.phases, eyes_pure s.eyes, plns_pure s.plans, sets_pure s.apart, rows_pure s.between⟩ : _ ∧ _ ∧ _ ∧ _ ∧ _ ∧ _)
  obtain ⟨hp1, hp2, hp3, hp4, hp5, hp6⟩ := hpu
  obtain ⟨hn, ha, hb, hph, -, -, hrow⟩ := hS
  unfold sitV
  refine fnD_of mixed Tryd.func72 rfl rfl (by simp [Tryd.ntmps72]) fun hwf E => ?_
  simp (disch := omega) [go_sem] at hwf
  have hws := wf_phas hwf.2.2.2.2.1.2
  simp (disch := omega) [Tryd.ntmps72, go_sem]
  refine awz_loop mixed (fun k : Nat => ⟨[(11, .int .i64 k), (10, .int .i64 s.phases.length), (9, .sl 5 (s.phases.map phaV)), (3, .int .u32 (allK s k : Int)), (1, .ptr 0 1 0 0), (2, .bool false)], [(0, ⟨.box, 29, 12, [sitV s]⟩)], 1024, [], 85, 0, tabG⟩)
    (fun k => k ≤ s.phases.length ∧ allK s k < 4294967296 ∧ ∀ i, i < k → phaAt s i) (fun k => s.phases.length - k) 0 ⟨by omega, by simp [allK], fun a ha => by omega⟩ ?_ ?_
  · refine Le.mk [(0, some 0)] [0] ⟨rfl, rfl, rfl⟩ ?_ ?_ ?_ <;> simp [go_sem, sitV, hp1, hp2, hp3, hp4, hp5, hp6, allK]
  · rintro k ⟨hk, hall, hno⟩
    simp (disch := omega) [go_sem, sitV]
    refine br_of (fun h => ?_) (fun h => ?_) <;> simp at h
    · have hg : nth (s.phases.map phaV) k = phaV s.phases[k] := nth_map h
      have hset := hws _ (List.getElem_mem h)
      have bad : ¬ phaOk s s.phases[k] → ¬ PhasedOk s := fun hb hA => hb (hA.1 k h h)
      have hz := shr_zero s.phases[k].set s.groups.length
      have hpv : phaV s.phases[k] = .agg [.int .u32 s.phases[k].set, .int .i64 s.phases[k].min, .int .i64 s.phases[k].max, .int .i64 s.phases[k].gap, .bool s.phases[k].always] := rfl
      have hsucc := allK_succ s k h
      obtain ⟨p, hpk⟩ : ∃ p, s.phases[k] = p := ⟨_, rfl⟩
      rw [hpk] at hset bad hz hpv hsucc hg
      by_cases c1 : p.set = 0
      · simp (disch := omega) [go_sem, h, hg, hpv, sitV, c1]
        exact bad fun hh => hh.1 c1
      · by_cases c2 : p.set < 2 ^ s.groups.length
        · simp (disch := omega) [go_sem, h, hg, hpv, sitV, c1, hz.2 c2]
          refine callK_bool (ticks_spec [p.min, p.max, p.gap]) [1408] (by simp [go_sem, ints]) (fun h2 => ?_) (fun h2 => ?_)
          · simp only [List.all_cons, List.all_nil, Bool.and_true, Bool.and_eq_true, inN_iff] at h2
            simp (disch := omega) [go_sem]
            refine br_of (fun h3 => ?_) (fun h3 => ?_) <;> simp at h3
            · simp (disch := omega) [go_sem]
              apply bad
              rintro ⟨_, _, _, c, _⟩; omega
            · have hor : allK s k ||| p.set < 4294967296 := or_lt hall hset
              simp (disch := omega) [go_sem, hpv]
              refine awz_loop mixed (fun t : Nat => ⟨[(6, .int .u32 (t : Int)), (11, .int .i64 k), (10, .int .i64 s.phases.length), (9, .sl 5 (s.phases.map phaV)), (3, .int .u32 ((allK s k ||| p.set : Nat) : Int)), (5, .ptr 32 1 0 0), (1, .ptr 0 1 0 0), (2, .bool false)],
                  [(0, ⟨.box, 29, 12, [sitV s]⟩), (32, ⟨.box, 114, 5, [phaV p]⟩)], 4096, [], 85, 0, tabG⟩)
                (fun t => t < 4294967296 ∧ (∀ a, t.testBit a = true → p.set.testBit a = true) ∧ ∀ a, p.set.testBit a = true → t.testBit a = false → grpIn s p a) (fun t => (bitsOf t).length) p.set ⟨hset, fun a ha => ha, fun a ha hb => by rw [ha] at hb; cases hb⟩ ?_ ?_
              · refine Le.mk [(0, some 0), (32, some 1072)] [0, 1072] ⟨rfl, rfl, rfl⟩ ?_ ?_ ?_ <;> simp [go_sem, sitV, hpv, hp1, hp2, hp3, hp4, hp5, hp6]
              · rintro t ⟨ht, hsub, hdone⟩
                simp (disch := omega) [go_sem, sitV]
                refine br_of (fun h4 => ?_) (fun h4 => ?_) <;> simp at h4
                · obtain ⟨hk1, hk2, -, -⟩ := low_ex t h4 ht
                  have hls := least_spec t ht
                  rw [show leastN t = (lowN t : Int) by simp [leastN, h4]] at hls
                  have hwo := without_spec t (lowN t) ht
                  have hlen := congrArg List.length (bitsOf_step h4 ht)
                  have hwt := withoutN_testBit ht (lowN t : Int)
                  have hpb := hsub _ hk2
                  generalize lowN t = b at *
                  have hbn : b < s.groups.length := by
                    apply Classical.byContradiction
                    intro hnb
                    have : p.set.testBit b = false := Nat.testBit_lt_two_pow (Nat.lt_of_lt_of_le c2 (Nat.pow_le_pow_right (by omega) (by omega)))
                    rw [this] at hpb; cases hpb
                  have hba : b < s.apart.length := by omega
                  have hgb : nth (s.groups.map grpV) b = grpV s.groups[b] := nth_map hbn
                  have hgm : s.groups[b].min = minGrp s b := by simp [minGrp, hbn]
                  have g2 : s.apart.getD b 0 = s.apart[b] := by simp [hba]
                  have hapb : s.apart[b] < 4294967296 := by
                    have h5 := (hrow b (by omega)).2
                    rw [g2] at h5
                    have h6 : 2 ^ s.groups.length ≤ 2 ^ 16 := Nat.pow_le_pow_right (by omega) hn.2
                    omega
                  have hgi : grpIn s p b ↔ minGrp s b ≤ p.min ∧ (s.apart[b] &&& p.set) = 0 := by unfold grpIn; rw [g2]
                  simp (disch := omega) [go_sem]
                  refine callK_data hls [] (by simp [go_sem]) (.inl rfl) (by simp [go_sem]) (fun _ => ?_) (by simp [tabG, go_sem])
                  simp (disch := omega) [go_sem]
                  refine callK_data hwo [] (by simp [go_sem]) (.inl rfl) (by simp [go_sem]) (fun _ => ?_)
                  simp (disch := omega) [go_sem, sitV, hgb, grpV, hbn, hgm, hpv, nth_sets, sets_len, hba]
                  refine ⟨by kernel_rfl, br_of (fun h5 => ?_) (fun h5 => ?_)⟩
                  · simp (disch := omega) [go_sem]
                    apply bad
                    rintro ⟨_, _, _, _, hall2⟩
                    have h6 := hgi.1 (hall2 b hpb)
                    simp at h5
                    rcases h5 with h5 | h5
                    · omega
                    · exact h5 (by simpa using h6.2)
                  · have h6 : grpIn s p b := by
                      rw [hgi]
                      simp at h5
                      exact ⟨by omega, by simpa using h5.2⟩
                    simp (disch := omega) [go_sem]
                    refine round_of (withoutN t b) ⟨withoutN_lt _ _, fun a ha => ?_, fun a ha hb => ?_⟩ ?_ (Le.mk [(0, some 0), (32, some 32)] [0, 32] ⟨rfl, rfl, rfl⟩ ?_ ?_ ?_)
                    · rw [hwt] at ha; simp at ha; exact hsub a ha.1
                    · rw [hwt] at hb
                      by_cases e : a = b
                      · subst e; exact h6
                      · refine hdone a ha ?_
                        rw [decide_eq_false (show ¬ (a : Int) = (b : Int) by omega)] at hb
                        simpa using hb
                    · simp at hlen ⊢; omega
                    all_goals simp [go_sem, sitV, hpv, hp1, hp2, hp3, hp4, hp5, hp6]
                · subst h4
                  simp (disch := omega) [go_sem]
                  refine round_of (k + 1) ⟨by omega, by rw [hsucc]; exact hor, fun i hi => ?_⟩ (by omega) (Le.mk [(0, some 0)] [0] ⟨rfl, rfl, rfl⟩ ?_ ?_ ?_)
                  · by_cases e : i = k
                    · subst e; intro h'; rw [hpk]; exact ⟨c1, c2, h2, h3, fun a ha => hdone a ha (by simp)⟩
                    · exact hno i (by omega)
                  all_goals simp [go_sem, sitV, hp1, hp2, hp3, hp4, hp5, hp6, hsucc]
          · simp (disch := omega) [go_sem]
            apply bad
            rintro ⟨_, _, ⟨b1, b2, b3⟩, _⟩
            simp [inN] at h2
            omega
        · have c2' : ((p.set : Int).fdiv (2 ^ s.groups.length) != 0) = true := by simp [hz, c2]
          simp (disch := omega) [go_sem, h, hg, hpv, sitV, c1, c2']
          exact bad fun hh => c2 hh.2.1
    · have hkl : k = s.phases.length := by omega
      subst hkl
      simp (disch := omega) [go_sem]
      refine callK_data (count_spec (allK s s.phases.length) hall) [] (by simp [go_sem]) (.inl rfl) (by simp [go_sem]) (fun _ => ?_)
      simp (disch := omega) [go_sem, sitV]
      refine ⟨by kernel_rfl, ?_⟩
      rw [Bool.eq_iff_iff]
      simp
      constructor
      · intro h5; exact ⟨hno, by omega⟩
      · rintro ⟨_, h5⟩; omega
end Go.Proofs.YthjojamcolmbdaaDoor
