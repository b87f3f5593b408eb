
/- The layer site: Check, and what is asked. -/
import Derived.Test.YtdeionjkcmpnpaaGreatDoorSiteA
set_option linter.unusedSimpArgs false
set_option linter.unusedVariables false
namespace Go.Proofs.YtdeionjkcmpnpaaGreatDoor
open Go.AM Go.RowKit
set_option maxRecDepth 100000

/-! The layer site: groups, and what lies between them. -/
def grpOk (g : Grp) : Prop := (g.kind = 1 ∨ g.kind = 2) ∧ (1 ≤ g.min ∧ g.min ≤ 1048576) ∧ (1 ≤ g.yellow ∧ g.yellow ≤ 1048576)
def betw (s : Sit) (a b : Nat) : Int := (s.between.getD a []).getD b 0
def isAp (s : Sit) (a b : Nat) : Bool := (s.apart.getD a 0).testBit b
def yelAt (s : Sit) (a : Nat) : Int := ((s.groups[a]?).map Grp.yellow).getD 0
def cellOk (s : Sit) (a b : Nat) : Prop := isAp s a b = isAp s b a ∧ (isAp s a b = true → a ≠ b ∧ yelAt s a ≤ betw s a b ∧ betw s a b ≤ 1048576) ∧ (isAp s a b = false → betw s a b = 0)
def lineOk (s : Sit) (a : Nat) : Prop := (∀ h : a < s.groups.length, grpOk s.groups[a]) ∧ ∀ b, b < s.groups.length → cellOk s a b
def ApartOk (s : Sit) : Prop := ∀ a, a < s.groups.length → lineOk s a
noncomputable instance (s : Sit) : Decidable (ApartOk s) := Classical.propDecidable _

theorem hasNat_spec (t b : Nat) (ht : t < 4294967296) : FnD Tryz.prog 189 [.int .u32 t, .int .i64 b] (.bool (t.testBit b)) := by
  have h := has_spec t b ht
  rwa [show hasN t b = t.testBit b by simp [hasN]] at h

set_option maxHeartbeats 1000000 in
theorem apart_spec (s : Sit) (hS : Shaped s) : FnD Tryz.prog 139 [sitV s] (.bool (decide (ApartOk s))) := by
  have hpu := (⟨grps_pure s.groups, phas_pure s.phases, eyes_pure s.eyes, plns_pure s.plans, sets_pure s.apart, rows_pure s.between⟩ : _ ∧ _ ∧ _ ∧ _ ∧ _ ∧ _)
  obtain ⟨hp1, hp2, hp3, hp4, hp5, hp6⟩ := hpu
  obtain ⟨hn, ha, hb, hph, -, -, hrow⟩ := hS
  unfold sitV
  refine fnD_of mixed Tryz.func139 rfl rfl (by simp [Tryz.ntmps139]) fun hwf E => ?_
  simp (disch := omega) [go_sem] at hwf
  simp (disch := omega) [Tryz.ntmps139, go_sem]
  refine awz_loop mixed (fun k : Nat => ⟨[(11, .int .i64 k), (10, .int .i64 s.groups.length), (9, .sl 3 (s.groups.map grpV)), (1, .ptr 0 1 0 0), (2, .bool false)], [(0, ⟨.box, 87, 12, [sitV s]⟩)], 1024, [], 83, 0, []⟩)
    (fun k => k ≤ s.groups.length ∧ ∀ a, a < k → lineOk s a) (fun k => s.groups.length - k) 0 ⟨by omega, fun a ha => by omega⟩ ?_ ?_
  · refine Le.mk [(0, some 0)] [0] ⟨rfl, rfl, rfl⟩ ?_ ?_ ?_ <;> simp [go_sem, sitV, hp1, hp2, hp3, hp4, hp5, hp6]
  · rintro k ⟨hk, hno⟩
    simp (disch := omega) [go_sem, sitV]
    refine br_of (fun h => ?_) (fun h => ?_) <;> simp at h
    · have hg : nth (s.groups.map grpV) k = grpV s.groups[k] := nth_map h
      have bad : ¬ grpOk s.groups[k] → ¬ ApartOk s := fun hb hA => hb ((hA k h).1 h)
      have hka : k < s.apart.length := by omega
      have hkb : k < s.between.length := by omega
      have hap : ∀ a (h : a < s.apart.length), s.apart[a] < 4294967296 := fun a h => by
        have h2 := (hrow a (by omega)).2
        rw [show s.apart.getD a 0 = s.apart[a] by simp [h]] at h2
        have h3 : 2 ^ s.groups.length ≤ 2 ^ 16 := Nat.pow_le_pow_right (by omega) hn.2
        omega
      have hrl : s.between[k].length = s.groups.length := by
        have h2 := (hrow k hkb).1
        rwa [show s.between.getD k [] = s.between[k] by simp [hkb]] at h2
      have hy : s.groups[k].yellow = yelAt s k := by simp [yelAt, h]
      have pure6 := (⟨hp1, hp2, hp3, hp4, hp5, hp6⟩ : _ ∧ _ ∧ _ ∧ _ ∧ _ ∧ _)
      by_cases hkd : s.groups[k].kind = 1 ∨ s.groups[k].kind = 2
      · have tail : ∀ kd : Int, (kd = 1 ∨ kd = 2) → s.groups[k].kind = kd → True := fun _ _ _ => trivial
        rcases hkd with e | e
        all_goals
          simp (disch := omega) [go_sem, h, hg, grpV, sitV, e]
          refine callK_bool (ticks_spec [s.groups[k].min, s.groups[k].yellow]) [1344] (by simp [go_sem, ints]) (fun h2 => ?_) (fun h2 => ?_)
          · have hgo : grpOk s.groups[k] := ⟨by omega, by simp [inN] at h2; omega, by simp [inN] at h2; omega⟩
            have hyb := hgo.2.2
            rw [hy] at hyb
            simp (disch := omega) [go_sem, sitV, nth_rows, rows_len, hkb, ints_len, hrl, hy]
            refine awz_loop mixed (fun m : Nat => ⟨[(39, .int .i64 m), (38, .int .i64 s.groups.length), (37, .sl 1 (ints s.between[k])), (3, .int .i64 k), (4, .ptr 32 1 0 0), (11, .int .i64 k), (10, .int .i64 s.groups.length), (9, .sl 3 (s.groups.map grpV)), (1, .ptr 0 1 0 0), (2, .bool false)],
                [(0, ⟨.box, 87, 12, [sitV s]⟩), (32, ⟨.box, 148, 3, [grpV s.groups[k]]⟩)], 4096, [], 83, 0, []⟩)
              (fun m => m ≤ s.groups.length ∧ ∀ b, b < m → cellOk s k b) (fun m => s.groups.length - m) 0 ⟨by omega, fun b hb => by omega⟩ ?_ ?_
            · refine Le.mk [(0, some 0), (32, some 1088)] [0, 1088] ⟨rfl, rfl, rfl⟩ ?_ ?_ ?_ <;> simp [go_sem, sitV, grpV, hp1, hp2, hp3, hp4, hp5, hp6, ints_pure, e, hy]
            · rintro m ⟨hm, hmo⟩
              simp (disch := omega) [go_sem, sitV]
              refine br_of (fun h3 => ?_) (fun h3 => ?_) <;> simp at h3
              · have hma : m < s.apart.length := by omega
                have hmr : m < s.between[k].length := by omega
                have i1 : s.apart[k].testBit m = isAp s k m := by simp [isAp, hka]
                have i2 : s.apart[m].testBit k = isAp s m k := by simp [isAp, hma]
                have i3 : s.between[k][m] = betw s k m := by simp [betw, hkb, hmr]
                have q1 := hasNat_spec s.apart[k] m (hap k hka)
                have q2 := hasNat_spec s.apart[m] k (hap m hma)
                rw [i1] at q1
                rw [i2] at q2
                have badc : ¬ cellOk s k m → ¬ ApartOk s := fun hb hA => hb ((hA k h).2 m h3)
                simp (disch := omega) [go_sem, sitV, grpV, nth_sets, sets_len, hka, nth_ints, ints_len, hmr, i3]
                refine callK_bool q1 [] (by simp [go_sem]) (fun j1 => ?_) (fun j1 => ?_)
                · simp (disch := omega) [go_sem, sitV, nth_sets, sets_len, hma]
                  refine callK_bool q2 [] (by simp [go_sem]) (fun j2 => ?_) (fun j2 => ?_)
                  · simp (disch := omega) [go_sem]
                    refine br_of (fun j3 => ?_) (fun j3 => ?_) <;> simp at j3
                    · simp (disch := omega) [go_sem, j3]
                      exact badc fun hc => (hc.2.1 j1).1 (by omega)
                    · simp (disch := omega) [go_sem, grpV, hy, j3]
                      refine callK_bool (in_spec (betw s k m) (yelAt s k) 1048576) [] (by simp [go_sem]) (fun j4 => ?_) (fun j4 => ?_)
                      · have j5 := inN_iff.1 j4
                        simp (disch := omega) [go_sem]
                        refine round_of (m + 1) ⟨by omega, fun b hb => ?_⟩ (by omega) (Le.mk [(0, some 0), (32, some 32)] [0, 32] ⟨rfl, rfl, rfl⟩ ?_ ?_ ?_)
                        · by_cases eb : b = m
                          · subst eb; exact ⟨by rw [j1, j2], fun _ => ⟨by omega, j5⟩, fun j6 => by rw [j1] at j6; cases j6⟩
                          · exact hmo b (by omega)
                        all_goals simp [go_sem, sitV, grpV, hp1, hp2, hp3, hp4, hp5, hp6, ints_pure, hy]
                      · simp (disch := omega) [go_sem]
                        exact badc fun hc => by have := (hc.2.1 j1).2; rw [← inN_iff, j4] at this; cases this
                  · simp (disch := omega) [go_sem]
                    exact badc fun hc => by have := hc.1; rw [j1, j2] at this; cases this
                · simp (disch := omega) [go_sem, sitV, nth_sets, sets_len, hma]
                  refine callK_bool q2 [] (by simp [go_sem]) (fun j2 => ?_) (fun j2 => ?_)
                  · simp (disch := omega) [go_sem]
                    exact badc fun hc => by have := hc.1; rw [j1, j2] at this; cases this
                  · simp (disch := omega) [go_sem]
                    refine br_of (fun j3 => ?_) (fun j3 => ?_) <;> simp at j3
                    · simp (disch := omega) [go_sem, j3]
                      exact badc fun hc => j3 (hc.2.2 j1)
                    · simp (disch := omega) [go_sem, j3]
                      refine round_of (m + 1) ⟨by omega, fun b hb => ?_⟩ (by omega) (Le.mk [(0, some 0), (32, some 32)] [0, 32] ⟨rfl, rfl, rfl⟩ ?_ ?_ ?_)
                      · by_cases eb : b = m
                        · subst eb; exact ⟨by rw [j1, j2], fun j6 => (by rw [j1] at j6; cases j6), fun _ => j3⟩
                        · exact hmo b (by omega)
                      all_goals simp [go_sem, sitV, grpV, hp1, hp2, hp3, hp4, hp5, hp6, ints_pure, hy]
              · simp (disch := omega) [go_sem]
                refine round_of (k + 1) ⟨by omega, fun b hb => ?_⟩ (by omega) (Le.mk [(0, some 0)] [0] ⟨rfl, rfl, rfl⟩ ?_ ?_ ?_)
                · by_cases eb : b = k
                  · subst eb; exact ⟨fun _ => hgo, fun c hc => hmo c (by omega)⟩
                  · exact hno b (by omega)
                all_goals simp [go_sem, sitV, grpV, hp1, hp2, hp3, hp4, hp5, hp6, ints_pure]
          · simp (disch := omega) [go_sem]
            apply bad
            rintro ⟨_, c1, c2⟩
            simp [inN] at h2; omega
      · have e1 : ¬ s.groups[k].kind = 1 := fun e => hkd (.inl e)
        have e2 : ¬ s.groups[k].kind = 2 := fun e => hkd (.inr e)
        have e1' : (s.groups[k].kind != 1) = true := by simp [e1]
        have e2' : (s.groups[k].kind != 2) = true := by simp [e2]
        simp (disch := omega) [go_sem, h, hg, grpV, sitV, e1', e2']
        exact bad fun hh => hkd hh.1
    · simp (disch := omega) [go_sem]
      exact fun a ha => hno a (by omega)

/-! The layer site: phases. -/
def minGrp (s : Sit) (a : Nat) : Int := ((s.groups[a]?).map Grp.min).getD 0
def grpIn (s : Sit) (p : Pha) (a : Nat) : Prop := minGrp s a ≤ p.min ∧ (s.apart.getD a 0 &&& p.set) = 0
def phaOk (s : Sit) (p : Pha) : Prop := p.set ≠ 0 ∧ p.set < 2 ^ s.groups.length ∧ ((1 ≤ p.min ∧ p.min ≤ 1048576) ∧ (1 ≤ p.max ∧ p.max ≤ 1048576) ∧ (1 ≤ p.gap ∧ p.gap ≤ 1048576)) ∧ p.min ≤ p.max ∧ ∀ a, p.set.testBit a = true → grpIn s p a
def allK (s : Sit) (k : Nat) : Nat := (s.phases.take k).foldl (fun t p => t ||| p.set) 0
theorem allK_succ (s : Sit) (k : Nat) (h : k < s.phases.length) : allK s (k + 1) = allK s k ||| s.phases[k].set := by
  unfold allK
  rw [List.take_succ_eq_append_getElem h, List.foldl_append]; rfl
def phaAt (s : Sit) (k : Nat) : Prop := ∀ h : k < s.phases.length, phaOk s s.phases[k]
def PhasedOk (s : Sit) : Prop := (∀ k, k < s.phases.length → phaAt s k) ∧ popN (allK s s.phases.length) = s.groups.length
noncomputable instance (s : Sit) : Decidable (PhasedOk s) := Classical.propDecidable _

set_option maxHeartbeats 1000000 in
theorem phased_spec (s : Sit) (hS : Shaped s) : FnD Tryz.prog 140 [sitV s] (.bool (decide (PhasedOk s))) tabG := by
  have hpu := (⟨grps_pure s.groups, phas_pure s.phases, eyes_pure s.eyes, plns_pure s.plans, sets_pure s.apart, rows_pure s.between⟩ : _ ∧ _ ∧ _ ∧ _ ∧ _ ∧ _)
  obtain ⟨hp1, hp2, hp3, hp4, hp5, hp6⟩ := hpu
  obtain ⟨hn, ha, hb, hph, -, -, hrow⟩ := hS
  unfold sitV
  refine fnD_of mixed Tryz.func140 rfl rfl (by simp [Tryz.ntmps140]) fun hwf E => ?_
  simp (disch := omega) [go_sem] at hwf
  have hws := wf_phas hwf.2.2.2.2.1.2
  simp (disch := omega) [Tryz.ntmps140, go_sem]
  refine awz_loop mixed (fun k : Nat => ⟨[(11, .int .i64 k), (10, .int .i64 s.phases.length), (9, .sl 5 (s.phases.map phaV)), (3, .int .u32 (allK s k : Int)), (1, .ptr 0 1 0 0), (2, .bool false)], [(0, ⟨.box, 87, 12, [sitV s]⟩)], 1024, [], 85, 0, tabG⟩)
    (fun k => k ≤ s.phases.length ∧ allK s k < 4294967296 ∧ ∀ i, i < k → phaAt s i) (fun k => s.phases.length - k) 0 ⟨by omega, by simp [allK], fun a ha => by omega⟩ ?_ ?_
  · refine Le.mk [(0, some 0)] [0] ⟨rfl, rfl, rfl⟩ ?_ ?_ ?_ <;> simp [go_sem, sitV, hp1, hp2, hp3, hp4, hp5, hp6, allK]
  · rintro k ⟨hk, hall, hno⟩
    simp (disch := omega) [go_sem, sitV]
    refine br_of (fun h => ?_) (fun h => ?_) <;> simp at h
    · have hg : nth (s.phases.map phaV) k = phaV s.phases[k] := nth_map h
      have hset := hws _ (List.getElem_mem h)
      have bad : ¬ phaOk s s.phases[k] → ¬ PhasedOk s := fun hb hA => hb (hA.1 k h h)
      have hz := shr_zero s.phases[k].set s.groups.length
      have hpv : phaV s.phases[k] = .agg [.int .u32 s.phases[k].set, .int .i64 s.phases[k].min, .int .i64 s.phases[k].max, .int .i64 s.phases[k].gap, .bool s.phases[k].always] := rfl
      have hsucc := allK_succ s k h
      obtain ⟨p, hpk⟩ : ∃ p, s.phases[k] = p := ⟨_, rfl⟩
      rw [hpk] at hset bad hz hpv hsucc hg
      by_cases c1 : p.set = 0
      · simp (disch := omega) [go_sem, h, hg, hpv, sitV, c1]
        exact bad fun hh => hh.1 c1
      · by_cases c2 : p.set < 2 ^ s.groups.length
        · simp (disch := omega) [go_sem, h, hg, hpv, sitV, c1, hz.2 c2]
          refine callK_bool (ticks_spec [p.min, p.max, p.gap]) [1408] (by simp [go_sem, ints]) (fun h2 => ?_) (fun h2 => ?_)
          · simp only [List.all_cons, List.all_nil, Bool.and_true, Bool.and_eq_true, inN_iff] at h2
            simp (disch := omega) [go_sem]
            refine br_of (fun h3 => ?_) (fun h3 => ?_) <;> simp at h3
            · simp (disch := omega) [go_sem]
              apply bad
              rintro ⟨_, _, _, c, _⟩; omega
            · have hor : allK s k ||| p.set < 4294967296 := or_lt hall hset
              simp (disch := omega) [go_sem, hpv]
              refine awz_loop mixed (fun t : Nat => ⟨[(6, .int .u32 (t : Int)), (11, .int .i64 k), (10, .int .i64 s.phases.length), (9, .sl 5 (s.phases.map phaV)), (3, .int .u32 ((allK s k ||| p.set : Nat) : Int)), (5, .ptr 32 1 0 0), (1, .ptr 0 1 0 0), (2, .bool false)],
                  [(0, ⟨.box, 87, 12, [sitV s]⟩), (32, ⟨.box, 151, 5, [phaV p]⟩)], 4096, [], 85, 0, tabG⟩)
                (fun t => t < 4294967296 ∧ (∀ a, t.testBit a = true → p.set.testBit a = true) ∧ ∀ a, p.set.testBit a = true → t.testBit a = false → grpIn s p a) (fun t => (bitsOf t).length) p.set ⟨hset, fun a ha => ha, fun a ha hb => by rw [ha] at hb; cases hb⟩ ?_ ?_
              · refine Le.mk [(0, some 0), (32, some 1072)] [0, 1072] ⟨rfl, rfl, rfl⟩ ?_ ?_ ?_ <;> simp [go_sem, sitV, hpv, hp1, hp2, hp3, hp4, hp5, hp6]
              · rintro t ⟨ht, hsub, hdone⟩
                simp (disch := omega) [go_sem, sitV]
                refine br_of (fun h4 => ?_) (fun h4 => ?_) <;> simp at h4
                · obtain ⟨hk1, hk2, -, -⟩ := low_ex t h4 ht
                  have hls := least_spec t ht
                  rw [show leastN t = (lowN t : Int) by simp [leastN, h4]] at hls
                  have hwo := without_spec t (lowN t) ht
                  have hlen := congrArg List.length (bitsOf_step h4 ht)
                  have hwt := withoutN_testBit ht (lowN t : Int)
                  have hpb := hsub _ hk2
                  generalize lowN t = b at *
                  have hbn : b < s.groups.length := by
                    apply Classical.byContradiction
                    intro hnb
                    have : p.set.testBit b = false := Nat.testBit_lt_two_pow (Nat.lt_of_lt_of_le c2 (Nat.pow_le_pow_right (by omega) (by omega)))
                    rw [this] at hpb; cases hpb
                  have hba : b < s.apart.length := by omega
                  have hgb : nth (s.groups.map grpV) b = grpV s.groups[b] := nth_map hbn
                  have hgm : s.groups[b].min = minGrp s b := by simp [minGrp, hbn]
                  have g2 : s.apart.getD b 0 = s.apart[b] := by simp [hba]
                  have hapb : s.apart[b] < 4294967296 := by
                    have h5 := (hrow b (by omega)).2
                    rw [g2] at h5
                    have h6 : 2 ^ s.groups.length ≤ 2 ^ 16 := Nat.pow_le_pow_right (by omega) hn.2
                    omega
                  have hgi : grpIn s p b ↔ minGrp s b ≤ p.min ∧ (s.apart[b] &&& p.set) = 0 := by unfold grpIn; rw [g2]
                  simp (disch := omega) [go_sem]
                  refine callK_data hls [] (by simp [go_sem]) (.inl rfl) (by simp [go_sem]) (fun _ => ?_) (by simp [tabG, go_sem])
                  simp (disch := omega) [go_sem]
                  refine callK_data hwo [] (by simp [go_sem]) (.inl rfl) (by simp [go_sem]) (fun _ => ?_)
                  simp (disch := omega) [go_sem, sitV, hgb, grpV, hbn, hgm, hpv, nth_sets, sets_len, hba]
                  refine ⟨.inl (by kernel_rfl), br_of (fun h5 => ?_) (fun h5 => ?_)⟩
                  · simp (disch := omega) [go_sem]
                    apply bad
                    rintro ⟨_, _, _, _, hall2⟩
                    have h6 := hgi.1 (hall2 b hpb)
                    simp at h5
                    rcases h5 with h5 | h5
                    · omega
                    · exact h5 (by simpa using h6.2)
                  · have h6 : grpIn s p b := by
                      rw [hgi]
                      simp at h5
                      exact ⟨by omega, by simpa using h5.2⟩
                    simp (disch := omega) [go_sem]
                    refine round_of (withoutN t b) ⟨withoutN_lt _ _, fun a ha => ?_, fun a ha hb => ?_⟩ ?_ (Le.mk [(0, some 0), (32, some 32)] [0, 32] ⟨rfl, rfl, rfl⟩ ?_ ?_ ?_)
                    · rw [hwt] at ha; simp at ha; exact hsub a ha.1
                    · rw [hwt] at hb
                      by_cases e : a = b
                      · subst e; exact h6
                      · refine hdone a ha ?_
                        rw [decide_eq_false (show ¬ (a : Int) = (b : Int) by omega)] at hb
                        simpa using hb
                    · simp at hlen ⊢; omega
                    all_goals simp [go_sem, sitV, hpv, hp1, hp2, hp3, hp4, hp5, hp6]
                · subst h4
                  simp (disch := omega) [go_sem]
                  refine round_of (k + 1) ⟨by omega, by rw [hsucc]; exact hor, fun i hi => ?_⟩ (by omega) (Le.mk [(0, some 0)] [0] ⟨rfl, rfl, rfl⟩ ?_ ?_ ?_)
                  · by_cases e : i = k
                    · subst e; intro h'; rw [hpk]; exact ⟨c1, c2, h2, h3, fun a ha => hdone a ha (by simp)⟩
                    · exact hno i (by omega)
                  all_goals simp [go_sem, sitV, hp1, hp2, hp3, hp4, hp5, hp6, hsucc]
          · simp (disch := omega) [go_sem]
            apply bad
            rintro ⟨_, _, ⟨b1, b2, b3⟩, _⟩
            simp [inN] at h2
            omega
        · have c2' : ((p.set : Int).fdiv (2 ^ s.groups.length) != 0) = true := by simp [hz, c2]
          simp (disch := omega) [go_sem, h, hg, hpv, sitV, c1, c2']
          exact bad fun hh => c2 hh.2.1
    · have hkl : k = s.phases.length := by omega
      subst hkl
      simp (disch := omega) [go_sem]
      refine callK_data (count_spec (allK s s.phases.length) hall) [] (by simp [go_sem]) (.inl rfl) (by simp [go_sem]) (fun _ => ?_)
      simp (disch := omega) [go_sem, sitV]
      refine ⟨.inl (by kernel_rfl), ?_⟩
      rw [Bool.eq_iff_iff]
      simp
      constructor
      · intro h5; exact ⟨hno, by omega⟩
      · rintro ⟨_, h5⟩; omega

/-! The layer site: what phases need is bounded; site.Check. -/
theorem fold_bound (f : Nat → Int) : ∀ (l : List Nat) (n : Int), (∀ b ∈ l, 0 ≤ f b ∧ f b ≤ 1048576) → 0 ≤ n ∧ n ≤ 1048576 → 0 ≤ l.foldl (fun m b => maxI m (f b)) n ∧ l.foldl (fun m b => maxI m (f b)) n ≤ 1048576
  | [], n, _, h => h
  | b :: l, n, hf, h => by
    have hb := hf b (by simp)
    refine fold_bound f l _ (fun c hc => hf c (by simp [hc])) ?_
    show 0 ≤ maxI n (f b) ∧ maxI n (f b) ≤ 1048576
    unfold maxI; split <;> omega
theorem betw_bound (s : Sit) (hA : ApartOk s) (a b : Nat) (ha : a < s.groups.length) (hb : b < s.groups.length) : 0 ≤ betw s a b ∧ betw s a b ≤ 1048576 := by
  obtain ⟨h1, h2⟩ := hA a ha
  obtain ⟨-, h3, h4⟩ := h2 b hb
  have hy := (h1 ha).2.2
  have hya : yelAt s a = s.groups[a].yellow := by simp [yelAt, ha]
  cases h : isAp s a b
  · rw [h4 h]; omega
  · have := h3 h; omega
theorem clear_bound (s : Sit) (hS : Shaped s) (hA : ApartOk s) (i j : Nat) : 0 ≤ clearN s i j ∧ clearN s i j ≤ 1048576 := by
  unfold clearN
  have : ∀ k, k ≤ s.groups.length → 0 ≤ clearK s (setAt s i) (setAt s j) k ∧ clearK s (setAt s i) (setAt s j) k ≤ 1048576 := by
    intro k
    induction k with
    | zero => intro _; simp [clearK]
    | succ k ih =>
      intro hk
      have ih := ih (by omega)
      rw [clearK_succ]
      unfold clearRow
      split
      · unfold most
        refine fold_bound _ _ _ (fun b hb => ?_) ih
        have hb2 := (bitsOf_mem.1 hb).2
        rw [Nat.testBit_and] at hb2
        have hbn : b < s.groups.length := by
          apply Classical.byContradiction
          intro hnb
          have hr := (hS.2.2.2.2.2.2 k (by rw [hS.2.2.1]; omega)).2
          have : (s.apart.getD k 0).testBit b = false := Nat.testBit_lt_two_pow (Nat.lt_of_lt_of_le hr (Nat.pow_le_pow_right (by omega) (by omega)))
          simp only [this, Bool.false_and] at hb2
          cases hb2
        exact betw_bound s hA k b (by omega) hbn
      · exact ih
  exact this _ (Nat.le_refl _)
theorem needs_ok (s : Sit) (hS : Shaped s) (hA : ApartOk s) (hP : PhasedOk s) : NeedsOk s := by
  intro i hi
  have hc := clear_bound s hS hA i ((i + 1) % s.phases.length)
  have hm := (hP.1 i hi hi).2.2.1.1
  have : minAt s i = s.phases[i].min := by simp [minAt, hi]
  unfold needsN; omega

def chk (s : Sit) : Nat → Prop
  | 0 => (0 ≤ s.id ∧ s.id ≤ 65535) ∧ Shaped s
  | 1 => ApartOk s
  | 2 => PhasedOk s
  | 3 => s.eyes.all (eyeOk s.phases.length) = true
  | 4 => timedN s = true
  | 5 => (s.plans.all fun p => decide (Fits s p)) = true
  | _ => True
def SiteOk (s : Sit) : Prop := ∀ i, i < 6 → chk s i
noncomputable instance (s : Sit) : Decidable (SiteOk s) := Classical.propDecidable _
noncomputable def checkN (s : Sit) : Int := if SiteOk s then 0 else 50

set_option maxHeartbeats 1000000 in
theorem check_spec (s : Sit) : FnD Tryz.prog 70 [sitV s] (.int .i64 (checkN s)) tabG := by
  have hpu := (⟨grps_pure s.groups, phas_pure s.phases, eyes_pure s.eyes, plns_pure s.plans, sets_pure s.apart, rows_pure s.between⟩ : _ ∧ _ ∧ _ ∧ _ ∧ _ ∧ _)
  obtain ⟨hp1, hp2, hp3, hp4, hp5, hp6⟩ := hpu
  unfold sitV
  refine fnD_of mixed Tryz.func70 rfl rfl (by simp [Tryz.ntmps70]) fun hwf E => ?_
  simp (disch := omega) [go_sem] at hwf
  simp (disch := omega) [Tryz.ntmps70, go_sem]
  have bad : ∀ i, i < 6 → ¬ chk s i → checkN s = 50 := fun i hi h => by unfold checkN; rw [if_neg fun hA => h (hA i hi)]
  refine awz_loop mixed (fun k : Nat => ⟨[(5, .int .i64 k), (3, .bool false), (1, .ptr 0 1 0 0), (2, .int .i64 0)], [(0, ⟨.box, 87, 12, [sitV s]⟩)], 1024, [], 48, 0, tabG⟩)
    (fun k => k ≤ 6 ∧ ∀ i, i < k → chk s i) (fun k => 6 - k) 0 ⟨by omega, fun a ha => by omega⟩ ?_ ?_
  · refine Le.mk [(0, some 0)] [0] ⟨rfl, rfl, rfl⟩ ?_ ?_ ?_ <;> simp [go_sem, sitV, hp1, hp2, hp3, hp4, hp5, hp6]
  · rintro k ⟨hk, hno⟩
    have hcases : k = 0 ∨ k = 1 ∨ k = 2 ∨ k = 3 ∨ k = 4 ∨ k = 5 ∨ k = 6 := by omega
    rcases hcases with rfl | rfl | rfl | rfl | rfl | rfl | rfl
    · simp (disch := omega) [go_sem, sitV]
      refine callK_bool (in_spec s.id 0 65535) [] (by simp [go_sem]) (fun h0 => ?_) (fun h0 => ?_)
      · simp (disch := omega) [go_sem, sitV]
        refine callK_bool (shape_spec s) [] (by simp [go_sem, sitV, hp1, hp2, hp3, hp4, hp5, hp6]) (fun h1 => ?_) (fun h1 => ?_)
        · simp (disch := omega) [go_sem]
          refine round_of 1 ⟨by omega, fun i hi => ?_⟩ (by omega) (Le.mk [(0, some 0)] [0] ⟨rfl, rfl, rfl⟩ ?_ ?_ ?_)
          · have : i = 0 := by omega
            subst this; exact ⟨inN_iff.1 h0, by simpa using h1⟩
          all_goals simp [go_sem, sitV, hp1, hp2, hp3, hp4, hp5, hp6]
        · simp (disch := omega) [go_sem]
          exact (bad 0 (by omega) (fun hc => by simp at h1; exact h1 hc.2)).symm
      · simp (disch := omega) [go_sem]
        exact (bad 0 (by omega) (fun hc => by have := inN_iff.2 hc.1; rw [h0] at this; cases this)).symm
    · have hS : Shaped s := (hno 0 (by omega)).2
      simp (disch := omega) [go_sem, sitV]
      refine callK_bool (apart_spec s hS) [] (by simp [go_sem, sitV, hp1, hp2, hp3, hp4, hp5, hp6]) (fun h1 => ?_) (fun h1 => ?_)
      · simp (disch := omega) [go_sem]
        refine round_of 2 ⟨by omega, fun i hi => ?_⟩ (by omega) (Le.mk [(0, some 0)] [0] ⟨rfl, rfl, rfl⟩ ?_ ?_ ?_)
        · by_cases e : i = 1
          · subst e; simpa [chk] using h1
          · exact hno i (by omega)
        all_goals simp [go_sem, sitV, hp1, hp2, hp3, hp4, hp5, hp6]
      · simp (disch := omega) [go_sem]
        exact (bad 1 (by omega) (by simpa [chk] using h1)).symm
    · have hS : Shaped s := (hno 0 (by omega)).2
      simp (disch := omega) [go_sem, sitV]
      refine callK_bool (phased_spec s hS) [] (by simp [go_sem, sitV, hp1, hp2, hp3, hp4, hp5, hp6]) (fun h1 => ?_) (fun h1 => ?_) (by simp [tabG, go_sem])
      · simp (disch := omega) [go_sem]
        refine round_of 3 ⟨by omega, fun i hi => ?_⟩ (by omega) (Le.mk [(0, some 0)] [0] ⟨rfl, rfl, rfl⟩ ?_ ?_ ?_)
        · by_cases e : i = 2
          · subst e; simpa [chk] using h1
          · exact hno i (by omega)
        all_goals simp [go_sem, sitV, hp1, hp2, hp3, hp4, hp5, hp6]
      · simp (disch := omega) [go_sem]
        exact (bad 2 (by omega) (by simpa [chk] using h1)).symm
    · simp (disch := omega) [go_sem, sitV]
      refine callK_bool (eyed_spec s) [] (by simp [go_sem, sitV, hp1, hp2, hp3, hp4, hp5, hp6]) (fun h1 => ?_) (fun h1 => ?_)
      · simp (disch := omega) [go_sem]
        refine round_of 4 ⟨by omega, fun i hi => ?_⟩ (by omega) (Le.mk [(0, some 0)] [0] ⟨rfl, rfl, rfl⟩ ?_ ?_ ?_)
        · by_cases e : i = 3
          · subst e; simpa [chk] using h1
          · exact hno i (by omega)
        all_goals simp [go_sem, sitV, hp1, hp2, hp3, hp4, hp5, hp6]
      · simp (disch := omega) [go_sem]
        exact (bad 3 (by omega) (by simpa [chk] using h1)).symm
    · have hS : Shaped s := (hno 0 (by omega)).2
      have hN : NeedsOk s := needs_ok s hS (hno 1 (by omega)) (hno 2 (by omega))
      simp (disch := omega) [go_sem, sitV]
      refine callK_bool (timed_spec s hS hN) [] (by simp [go_sem, sitV, hp1, hp2, hp3, hp4, hp5, hp6]) (fun h1 => ?_) (fun h1 => ?_) (by simp [tabG, go_sem])
      · simp (disch := omega) [go_sem]
        refine round_of 5 ⟨by omega, fun i hi => ?_⟩ (by omega) (Le.mk [(0, some 0)] [0] ⟨rfl, rfl, rfl⟩ ?_ ?_ ?_)
        · by_cases e : i = 4
          · subst e; simpa [chk] using h1
          · exact hno i (by omega)
        all_goals simp [go_sem, sitV, hp1, hp2, hp3, hp4, hp5, hp6]
      · simp (disch := omega) [go_sem]
        exact (bad 4 (by omega) (by simpa [chk] using h1)).symm
    · have hS : Shaped s := (hno 0 (by omega)).2
      have hN : NeedsOk s := needs_ok s hS (hno 1 (by omega)) (hno 2 (by omega))
      have hL : 0 ≤ s.low ∧ s.high ≤ 1048576 := by
        have h4 : timedN s = true := hno 4 (by omega)
        simp [timedN, inN] at h4
        omega
      simp (disch := omega) [go_sem, sitV]
      refine callK_bool (planned_spec s hS hN hL) [] (by simp [go_sem, sitV, hp1, hp2, hp3, hp4, hp5, hp6]) (fun h1 => ?_) (fun h1 => ?_) (by simp [tabG, go_sem])
      · simp (disch := omega) [go_sem]
        refine round_of 6 ⟨by omega, fun i hi => ?_⟩ (by omega) (Le.mk [(0, some 0)] [0] ⟨rfl, rfl, rfl⟩ ?_ ?_ ?_)
        · by_cases e : i = 5
          · subst e; simpa [chk] using h1
          · exact hno i (by omega)
        all_goals simp [go_sem, sitV, hp1, hp2, hp3, hp4, hp5, hp6]
      · simp (disch := omega) [go_sem]
        exact (bad 5 (by omega) (by simpa [chk] using h1)).symm
    · simp (disch := omega) [go_sem]
      unfold checkN; rw [if_pos (show SiteOk s from hno)]

/-! The layer site: Plan and Worst. -/
theorem SiteOk.shaped {s : Sit} (h : SiteOk s) : Shaped s := (h 0 (by omega)).2
theorem SiteOk.apart {s : Sit} (h : SiteOk s) : ApartOk s := h 1 (by omega)
theorem SiteOk.phased {s : Sit} (h : SiteOk s) : PhasedOk s := h 2 (by omega)
theorem SiteOk.needs {s : Sit} (h : SiteOk s) : NeedsOk s := needs_ok s h.shaped h.apart h.phased
theorem SiteOk.low {s : Sit} (h : SiteOk s) : 0 ≤ s.low ∧ s.high ≤ 1048576 := by
  have h4 : timedN s = true := h 4 (by omega)
  simp [timedN, inN] at h4
  omega
theorem checkN_ok {s : Sit} (h : SiteOk s) : checkN s = 0 := by unfold checkN; rw [if_pos h]
theorem checkN_bad {s : Sit} (h : ¬ SiteOk s) : checkN s = 50 := by unfold checkN; rw [if_neg h]

theorem plan_spec (s : Sit) (p : Pln) : FnD Tryz.prog 30 [sitV s, plnV p] (.tup [.bool (decide (SiteOk s) && decide (Fits s p)), .int .i64 (checkN s)]) tabG := by
  have hpu := (⟨grps_pure s.groups, phas_pure s.phases, eyes_pure s.eyes, plns_pure s.plans, sets_pure s.apart, rows_pure s.between⟩ : _ ∧ _ ∧ _ ∧ _ ∧ _ ∧ _)
  obtain ⟨hp1, hp2, hp3, hp4, hp5, hp6⟩ := hpu
  have hc := check_spec s
  have hf := fun (h : SiteOk s) => fits_spec s p h.shaped h.needs h.low
  have hsv : sitV s = .agg [.int .i64 s.id, .sl 3 (s.groups.map grpV), .sl 1 (sets s.apart), .sl 1 (rows s.between), .sl 5 (s.phases.map phaV), .sl 4 (s.eyes.map eyeV), .int .i64 s.watch, .int .i64 s.feed, .int .i64 s.heal, .int .i64 s.low, .int .i64 s.high, .sl 3 (s.plans.map plnV)] := rfl
  have hpv : plnV p = .agg [.int .i64 p.cycle, .int .i64 p.offset, .sl 1 (ints p.splits)] := rfl
  rw [hsv] at hc hf ⊢
  rw [hpv] at hf ⊢
  refine fnD_of mixed Tryz.func30 rfl rfl (by simp [Tryz.ntmps30]) fun hwf E => ?_
  simp (disch := omega) [Tryz.ntmps30, go_sem]
  refine callK_data hc [] (by simp [go_sem, hp1, hp2, hp3, hp4, hp5, hp6]) (.inl rfl) (by simp [go_sem]) (fun _ => ?_) (by simp [tabG, go_sem])
  by_cases hOk : SiteOk s
  · rw [checkN_ok hOk]
    simp (disch := omega) [go_sem]
    refine callK_data (hf hOk) [] (by simp [go_sem, hp1, hp2, hp3, hp4, hp5, hp6, ints_pure]) (.inl rfl) (by simp [go_sem]) (fun _ => ?_) (by simp [tabG, go_sem])
    simp (disch := omega) [go_sem, hOk]
  · rw [checkN_bad hOk]
    simp (disch := omega) [go_sem, hOk]

def rowMost (row : List Int) (k : Nat) (n : Int) : Int := (row.take k).foldl maxI n
theorem rowMost_succ {row : List Int} {k : Nat} (n : Int) (h : k < row.length) : rowMost row (k + 1) n = maxI (rowMost row k n) row[k] := by
  unfold rowMost
  rw [List.take_succ_eq_append_getElem h, List.foldl_append]; rfl
def worstK (s : Sit) (k : Nat) : Int := (s.between.take k).foldl (fun m row => row.foldl maxI m) 0
theorem worstK_succ {s : Sit} {k : Nat} (h : k < s.between.length) : worstK s (k + 1) = s.between[k].foldl maxI (worstK s k) := by
  unfold worstK
  rw [List.take_succ_eq_append_getElem h, List.foldl_append]; rfl
def worstN (s : Sit) : Int := worstK s s.between.length

/-! The layer site: what is asked, and its answers. -/
theorem sit_pure (s : Sit) : (sitV s).pure := by
  simp [sitV, go_sem, grps_pure, phas_pure, eyes_pure, plns_pure, sets_pure, rows_pure]
def groupsV (s : Sit) (g : FuncId) : V := .func (.func g) [] [.tptr 12 [sitV s] 0 0]
noncomputable def askN (s : Sit) (b : Int) (l : List Int) : Int := if SiteOk s then if (l.all fun x => inN x 0 (b - 1)) = true then 0 else 2 else 50

theorem asked_spec (s : Sit) (g : FuncId) (b : Int) (l : List Int) (hb : 0 ≤ b ∧ b ≤ 140737488355328) (hg : FnD Tryz.prog g [.tptr 12 [sitV s] 0 0] (.int .i64 b)) :
    FnD Tryz.prog 228 [sitV s, groupsV s g, .sl 1 (ints l)] (.int .i64 (askN s b l)) tabG := by
  have hpu := (⟨grps_pure s.groups, phas_pure s.phases, eyes_pure s.eyes, plns_pure s.plans, sets_pure s.apart, rows_pure s.between⟩ : _ ∧ _ ∧ _ ∧ _ ∧ _ ∧ _)
  obtain ⟨hp1, hp2, hp3, hp4, hp5, hp6⟩ := hpu
  have hc := check_spec s
  have hsv : sitV s = .agg [.int .i64 s.id, .sl 3 (s.groups.map grpV), .sl 1 (sets s.apart), .sl 1 (rows s.between), .sl 5 (s.phases.map phaV), .sl 4 (s.eyes.map eyeV), .int .i64 s.watch, .int .i64 s.feed, .int .i64 s.heal, .int .i64 s.low, .int .i64 s.high, .sl 3 (s.plans.map plnV)] := rfl
  unfold groupsV
  rw [hsv] at hc hg ⊢
  refine fnD_of mixed Tryz.func228 rfl rfl (by simp [Tryz.ntmps228]) fun hwf E => ?_
  simp (disch := omega) [go_sem, ints_len] at hwf
  simp (disch := omega) [Tryz.ntmps228, go_sem]
  refine callK_data hc [] (by simp [go_sem, hp1, hp2, hp3, hp4, hp5, hp6]) (.inl rfl) (by simp [go_sem]) (fun _ => ?_) (by simp [tabG, go_sem])
  by_cases hOk : SiteOk s
  · rw [checkN_ok hOk]
    simp (disch := omega) [go_sem, ints_len]
    refine awz_loop mixed (fun k : Nat => ⟨[(17, .int .i64 k), (16, .int .i64 l.length), (15, .sl 1 (ints l)), (1, .func (.func g) [] [.tptr 12 [sitV s] 0 0]), (6, .int .i64 0)], [], 1024, [], 28, 0, tabG⟩)
      (fun k => k ≤ l.length ∧ ∀ j (h : j < l.length), j < k → inN l[j] 0 (b - 1) = true) (fun k => l.length - k) 0 (by simp) ?_ ?_
    · refine Le.mk [] [] ⟨rfl, rfl, rfl⟩ ?_ ?_ ?_ <;> simp [go_sem, ints_pure, sitV, hp1, hp2, hp3, hp4, hp5, hp6]
    · rintro k ⟨hk, hno⟩
      simp (disch := omega) [go_sem]
      refine br_of (fun h => ?_) (fun h => ?_) <;> simp at h
      · simp (disch := omega) [go_sem, ints_len, nth_ints, h]
        refine callK_data hg [] (by simp [go_sem, sitV, hp1, hp2, hp3, hp4, hp5, hp6]) (.inl rfl) (by simp [go_sem]) (fun _ => ?_)
        simp (disch := omega) [go_sem]
        refine callK_bool (in_spec l[k] 0 (b - 1)) [] (by simp [go_sem]) (fun h1 => ?_) (fun h1 => ?_)
        · simp (disch := omega) [go_sem]
          refine round_of (k + 1) ⟨by omega, fun j h3 hj => ?_⟩ (by omega) (Le.mk [] [] ⟨rfl, rfl, rfl⟩ ?_ ?_ ?_)
          · by_cases e : j = k
            · subst e; exact h1
            · exact hno j h3 (by omega)
          all_goals simp (disch := omega) [go_sem, ints_pure, sitV, hp1, hp2, hp3, hp4, hp5, hp6]
        · simp (disch := omega) [go_sem]
          unfold askN
          rw [if_pos hOk, if_neg]
          simp only [List.all_eq_true]
          intro hA
          have := hA _ (List.getElem_mem h)
          rw [h1] at this; cases this
      · simp (disch := omega) [go_sem]
        unfold askN
        rw [if_pos hOk, if_pos]
        simp only [List.all_eq_true]
        intro x hx
        obtain ⟨j, hj, rfl⟩ := List.getElem_of_mem hx
        exact hno j hj (by omega)
  · rw [checkN_bad hOk]
    simp (disch := omega) [go_sem]
    unfold askN; rw [if_neg hOk]

/-! The layer site: Apart, Clear. -/
theorem clear1_spec (s : Sit) : FnD Tryz.prog 229 [.tptr 12 [sitV s] 0 0] (.int .i64 s.phases.length) := by
  unfold sitV
  refine fnD_of mixed Tryz.func229 rfl rfl (by simp [Tryz.ntmps229]) fun hwf E => ?_
  simp (disch := omega) [Tryz.ntmps229, go_sem]

theorem askN_zero {s : Sit} {b : Int} {l : List Int} (h : askN s b l = 0) : SiteOk s ∧ ∀ x ∈ l, 0 ≤ x ∧ x ≤ b - 1 := by
  unfold askN at h
  split at h
  · rename_i hOk
    split at h
    · rename_i hA
      simp only [List.all_eq_true, inN_iff] at hA
      exact ⟨hOk, hA⟩
    · cases h
  · cases h

theorem sclear_spec (s : Sit) (a b : Int) : FnD Tryz.prog 226 [sitV s, .int .i64 a, .int .i64 b] (.tup [.int .i64 (if askN s s.phases.length [a, b] = 0 then clearN s a.toNat b.toNat else 0), .int .i64 (askN s s.phases.length [a, b])]) tabG := by
  have hpu := (⟨grps_pure s.groups, phas_pure s.phases, eyes_pure s.eyes, plns_pure s.plans, sets_pure s.apart, rows_pure s.between⟩ : _ ∧ _ ∧ _ ∧ _ ∧ _ ∧ _)
  obtain ⟨hp1, hp2, hp3, hp4, hp5, hp6⟩ := hpu
  have hsv : sitV s = .agg [.int .i64 s.id, .sl 3 (s.groups.map grpV), .sl 1 (sets s.apart), .sl 1 (rows s.between), .sl 5 (s.phases.map phaV), .sl 4 (s.eyes.map eyeV), .int .i64 s.watch, .int .i64 s.feed, .int .i64 s.heal, .int .i64 s.low, .int .i64 s.high, .sl 3 (s.plans.map plnV)] := rfl
  have hq := fun hb => asked_spec s 229 s.phases.length [a, b] hb (clear1_spec s)
  have hc := clear_spec s
  unfold groupsV at hq
  rw [hsv] at hq hc ⊢
  refine fnD_of mixed Tryz.func226 rfl rfl (by simp [Tryz.ntmps226]) fun hwf E => ?_
  simp (disch := omega) [go_sem] at hwf
  simp (disch := omega) [Tryz.ntmps226, go_sem]
  refine callK_data (hq ⟨by omega, by omega⟩) [0, 112] (by simp [go_sem, ints, hp1, hp2, hp3, hp4, hp5, hp6]) (.inr (by simp [go_sem])) (by simp [go_sem]) (fun _ => ?_) (by simp [tabG, go_sem])
  simp (disch := omega) [go_sem]
  refine br_of (fun h => ?_) (fun h => ?_) <;> simp at h
  · simp (disch := omega) [go_sem, h]
  · obtain ⟨hOk, hl⟩ := askN_zero h
    have ha := hl a (by simp)
    have hb := hl b (by simp)
    obtain ⟨i, rfl⟩ := Int.eq_ofNat_of_zero_le ha.1
    obtain ⟨j, rfl⟩ := Int.eq_ofNat_of_zero_le hb.1
    simp (disch := omega) [go_sem]
    refine callK_data (hc i j hOk.shaped (by omega) (by omega)) [] (by simp [go_sem, hp1, hp2, hp3, hp4, hp5, hp6]) (.inl rfl) (by simp [go_sem]) (fun _ => ?_) (by simp [tabG, go_sem])
    simp (disch := omega) [go_sem, h]

/-! The layer site: Between. -/
end Go.Proofs.YtdeionjkcmpnpaaGreatDoor
