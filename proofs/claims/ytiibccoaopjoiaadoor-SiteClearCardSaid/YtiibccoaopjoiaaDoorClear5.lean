/- The statement SiteClear. -/
import Derived.Test.YtiibccoaopjoiaaDoorApart5
set_option linter.unusedSimpArgs false
set_option linter.unusedVariables false
namespace Go.Proofs.YtiibccoaopjoiaaDoor
open Go.AM Go.RowKit
set_option maxRecDepth 100000

theorem rowK_ge (s : Sit) (A B a : Nat) (m : Int) : ∀ k, m ≤ rowK s A B a k m
  | 0 => by simp [rowK]
  | k + 1 => by
    have ih := rowK_ge s A B a m k
    rw [rowK_succ]
    split
    · unfold maxI; split <;> omega
    · exact ih
theorem rowK_le {s : Sit} {A B a : Nat} {m W : Int} (hm : m ≤ W) : ∀ k, (∀ b, b < k → betw s a b ≤ W) → rowK s A B a k m ≤ W
  | 0, _ => by simpa [rowK] using hm
  | k + 1, h => by
    have ih := rowK_le (A := A) (B := B) hm k fun b hb => h b (by omega)
    have hk := h k (by omega)
    rw [rowK_succ]
    split
    · unfold maxI; split <;> omega
    · exact ih
/-- What is not apart has nothing between. -/
theorem rowK_all {s : Sit} (hA : ApartOk s) {A B a k : Nat} (ha : a < s.groups.length) (hk : k < s.groups.length) {m : Int} (hm : 0 ≤ m) :
    rowK s A B a (k + 1) m = if (A.testBit a && B.testBit k) = true then maxI (rowK s A B a k m) (betw s a k) else rowK s A B a k m := by
  have hge := rowK_ge s A B a m k
  have hc := (hA a ha).2 k hk
  rw [rowK_succ]
  cases hx : isAp s a k with
  | true =>
    cases A.testBit a <;> cases B.testBit k <;> simp
  | false =>
    rw [hc.2.2 hx]
    cases A.testBit a <;> cases B.testBit k <;> simp [maxI]
    omega
theorem clear_row {s : Sit} (hOk : SiteOk s) (A B : Nat) {a : Nat} (ha : a < s.groups.length) : clearK s A B (a + 1) = rowK s A B a s.groups.length (clearK s A B a) := by
  have hS := hOk.shaped
  have ha' : a < s.between.length := by rw [hS.2.2.1]; exact ha
  have hr := (hS.2.2.2.2.2.2 a ha').2
  rw [clearK_succ, rowK_clear s A B a s.groups.length _ (by have := hS.1.2; omega) (fun b hb => Nat.testBit_lt_two_pow (Nat.lt_of_lt_of_le hr (Nat.pow_le_pow_right (by omega) hb)))]
theorem clearK_ge {s : Sit} (hOk : SiteOk s) (A B : Nat) : ∀ a, a ≤ s.groups.length → 0 ≤ clearK s A B a
  | 0, _ => by simp [clearK]
  | a + 1, ha => by
    rw [clear_row hOk A B (by omega)]
    have := rowK_ge s A B a (clearK s A B a) s.groups.length
    have := clearK_ge hOk A B a (by omega)
    omega
theorem mostRow_ge (s : Sit) (a : Nat) (m : Int) : ∀ b, m ≤ mostRow s a b m ∧ ∀ j, j < b → betw s a j ≤ mostRow s a b m
  | 0 => ⟨by simp [mostRow], fun j hj => by omega⟩
  | b + 1 => by
    obtain ⟨h1, h2⟩ := mostRow_ge s a m b
    have hm := (show mostRow s a b m ≤ maxI (mostRow s a b m) (betw s a b) ∧ betw s a b ≤ maxI (mostRow s a b m) (betw s a b) by unfold maxI; split <;> omega)
    rw [mostRow_succ]
    refine ⟨by omega, fun j hj => ?_⟩
    by_cases e : j = b
    · rw [e]; exact hm.2
    · have := h2 j (by omega); omega
theorem worst_mono {s : Sit} (hOk : SiteOk s) {a : Nat} : ∀ d, a + d ≤ s.groups.length → worstK s a ≤ worstK s (a + d)
  | 0, _ => by simp
  | d + 1, hd => by
    have ih := worst_mono hOk (a := a) d (by omega)
    have h := mostRow_worst hOk (a := a + d) (by omega)
    have hg := (mostRow_ge s (a + d) (worstK s (a + d)) s.groups.length).1
    rw [show a + (d + 1) = a + d + 1 by omega, ← h]
    omega
theorem betw_worst {s : Sit} (hOk : SiteOk s) {a b : Nat} (ha : a < s.groups.length) (hb : b < s.groups.length) : betw s a b ≤ worstN s := by
  have h1 := (mostRow_ge s a (worstK s a) s.groups.length).2 b hb
  rw [mostRow_worst hOk ha] at h1
  have h2 := worst_mono hOk (a := a + 1) (s.groups.length - (a + 1)) (by omega)
  rw [show a + 1 + (s.groups.length - (a + 1)) = s.groups.length by omega] at h2
  have e : worstK s s.groups.length = worstN s := by unfold worstN; rw [hOk.shaped.2.2.1]
  omega
theorem worst_ge {s : Sit} (hOk : SiteOk s) : 0 ≤ worstN s := by
  have h2 := worst_mono hOk (a := 0) s.groups.length (by omega)
  have e : worstK s s.groups.length = worstN s := by unfold worstN; rw [hOk.shaped.2.2.1]
  rw [Nat.zero_add, e] at h2
  simpa [worstK] using h2
theorem clear_worst {s : Sit} (hOk : SiteOk s) (i j : Nat) : clearN s i j ≤ worstN s := by
  unfold clearN
  have : ∀ a, a ≤ s.groups.length → clearK s (setAt s i) (setAt s j) a ≤ worstN s := by
    intro a
    induction a with
    | zero => intro _; have := worst_ge hOk; simpa [clearK] using this
    | succ a ih =>
      intro ha
      rw [clear_row hOk _ _ (by omega)]
      exact rowK_le (ih (by omega)) _ fun b hb => betw_worst hOk (by omega) hb
  exact this _ (Nat.le_refl _)
theorem clear_self {s : Sit} (hOk : SiteOk s) {i : Nat} (hi : i < s.phases.length) : clearN s i i = 0 := by
  unfold clearN
  have hP := hOk.phased
  have e : setAt s i = s.phases[i].set := by simp [setAt, hi]
  have key : ∀ a, a < s.groups.length → ∀ m : Int, rowK s (setAt s i) (setAt s i) a s.groups.length m = m := by
    intro a ha m
    unfold rowK
    refine fold_skip _ _ _ fun b hb x => ?_
    rw [if_neg]
    intro h
    simp only [Bool.and_eq_true] at h
    obtain ⟨h1, h2, h3⟩ := h
    rw [e] at h1 h2
    have h0 := ((hP.1 i hi hi).2.2.2.2 a h1).2
    have : (s.apart.getD a 0 &&& s.phases[i].set).testBit b = true := by
      rw [Nat.testBit_and, h2]
      unfold isAp at h3
      rw [h3]; rfl
    rw [h0] at this
    simp at this
  have : ∀ a, a ≤ s.groups.length → clearK s (setAt s i) (setAt s i) a = 0 := by
    intro a
    induction a with
    | zero => intro _; simp [clearK]
    | succ a ih => intro ha; rw [clear_row hOk _ _ (by omega), key a (by omega), ih (by omega)]
  exact this _ (Nat.le_refl _)
theorem clear_ask {s : Sit} (hOk : SiteOk s) {a b : Nat} (ha : a < s.phases.length) (hb : b < s.phases.length) : FnD Tryd.prog 57 [sitU s, .int .i64 a, .int .i64 b] (.tup [.int .i64 (clearN s a b), .int .i64 0]) tabG := by
  have q := sclear_spec s a b
  rw [ask_two hOk ha hb, sitU_eq] at q
  simpa using q
def clS (s : Sit) (i j : Nat) (sl : List (Nat × V)) (nx : Nat) : St := ⟨sl ++ [(10, .int .i64 (worstN s)), (9, .int .i64 0), (8, .int .i64 (clearN s i j)), (7, .bool true), (3, .ptr 0 1 0 0), (2, .int .i64 j), (1, .int .i64 i)], [(0, ⟨.box, 29, 12, [sitU s]⟩)], nx, [], 174, 0, tabG⟩
set_option maxHeartbeats 8000000 in
theorem sclear5_spec (s : Sit) (fr to : Int) : FnD Tryd.prog 10 [sitV s, .int .i64 fr, .int .i64 to] (.bool true) tabG := by
  have qs := small5_spec s
  have qc := check_spec s
  have qw := worst_spec s
  rw [sitU_eq] at qs qc qw ⊢
  refine fnD_of mixed Tryd.func10 rfl rfl (by simp [Tryd.ntmps10]) fun hwf E => ?_
  have hwp : ∀ p ∈ s.phases, p.set < 4294967296 := by
    simp (disch := omega) [go_sem, sets_len, rows_len] at hwf
    exact wf_phas hwf.1.2.2.2.2.1.2
  simp (disch := omega) [Tryd.ntmps10, go_sem]
  refine callK_data alive5_spec [] (by simp [go_sem]) (.inl rfl) (by simp [go_sem]) (fun _ => ?_) (by simp [tabG, go_sem])
  simp (disch := omega) [go_sem]
  refine callK_bool qs [] (by simp [go_sem, grps_pure, sets_pure, rows_pure, phas_pure, eyes_pure, plns_pure]) (fun hs1 => ?_) (fun hs1 => ?_)
  · by_cases hr : (0 ≤ fr ∧ fr < s.phases.length) ∧ (0 ≤ to ∧ to < s.phases.length)
    · obtain ⟨⟨r1, r2⟩, r3, r4⟩ := hr
      obtain ⟨i, rfl⟩ := Int.eq_ofNat_of_zero_le r1
      obtain ⟨j, rfl⟩ := Int.eq_ofNat_of_zero_le r3
      have hi : i < s.phases.length := by omega
      have hj : j < s.phases.length := by omega
      have d1 : decide ((i : Int) < 0) = false := by simp
      have d2 : decide ((j : Int) < 0) = false := by simp
      have d3 : decide ((s.phases.length : Int) ≤ (i : Int)) = false := by simp; omega
      have d4 : decide ((s.phases.length : Int) ≤ (j : Int)) = false := by simp; omega
      have d5 : decide (s.phases.length ≤ i) = false := by simp; omega
      have d6 : decide (s.phases.length ≤ j) = false := by simp; omega
      simp (disch := omega) [go_sem, d1, d2, d3, d4, d5, d6]
      refine callK_data qc [] (by simp [go_sem, grps_pure, sets_pure, rows_pure, phas_pure, eyes_pure, plns_pure]) (.inl rfl) (by simp [go_sem]) (fun _ => ?_) (by simp [tabG, go_sem])
      by_cases hOk : SiteOk s
      · rw [checkN_ok hOk]
        rw [if_pos hOk, checkN_ok hOk] at qw
        have q1 := clear_ask hOk hi hj
        have hS := hOk.shaped
        have hA := hOk.apart
        have hP := hOk.phased
        have hN := hOk.needs
        have h4 : timedN s = true := hOk 4 (by omega)
        simp [timedN, inN] at h4
        obtain ⟨⟨s1, s2⟩, s3, s4, ⟨s5, s6⟩, s7, s8, s9⟩ := hS
        simp (disch := omega) [go_sem]
        refine callK_data q1 [] (by simp [go_sem, grps_pure, sets_pure, rows_pure, phas_pure, eyes_pure, plns_pure]) (.inl rfl) (by simp [go_sem]) (fun _ => ?_) (by simp [tabG, go_sem])
        simp (disch := omega) [go_sem]
        refine callK_data qw [] (by simp [go_sem, grps_pure, sets_pure, rows_pure, phas_pure, eyes_pure, plns_pure]) (.inl rfl) (by simp [go_sem]) (fun _ => ?_) (by simp [tabG, go_sem])
        simp (disch := omega) [go_sem]
        refine awz_loop mixed (fun a : Nat => clS s i j [(13, .int .i64 a), (12, .int .i64 (clearK s (setAt s i) (setAt s j) a))] 2048) (fun a => a ≤ s.groups.length) (fun a => s.groups.length - a) 0 (by omega) ?_ ?_
        · refine Le.mk [(0, some 0)] [0] ⟨rfl, rfl, rfl⟩ ?_ ?_ ?_ <;> simp [go_sem, clS, clearK, grps_pure, sets_pure, rows_pure, phas_pure, eyes_pure, plns_pure]
        · intro a ha
          simp (disch := omega) [go_sem, clS]
          refine br_of (fun h => ?_) (fun h => ?_) <;> simp at h
          · simp (disch := omega) [go_sem]
            refine awz_loop mixed (fun b : Nat => clS s i j [(14, .int .i64 b), (13, .int .i64 a), (12, .int .i64 (rowK s (setAt s i) (setAt s j) a b (clearK s (setAt s i) (setAt s j) a)))] 4096) (fun b => b ≤ s.groups.length) (fun b => s.groups.length - b) 0 (by omega) ?_ ?_
            · refine Le.mk [(0, some 0)] [0] ⟨rfl, rfl, rfl⟩ ?_ ?_ ?_ <;> simp [go_sem, clS, rowK, grps_pure, sets_pure, rows_pure, phas_pure, eyes_pure, plns_pure]
            · intro b hb
              simp (disch := omega) [go_sem, clS]
              refine br_of (fun h3 => ?_) (fun h3 => ?_) <;> simp at h3
              · have q3 := between_ask hOk h h3
                have hra := rowK_all hA (A := setAt s i) (B := setAt s j) h h3 (clearK_ge hOk (setAt s i) (setAt s j) a (by omega))
                have hgi : nth (s.phases.map phaV) i = phaV s.phases[i] := nth_map hi
                have hgj : nth (s.phases.map phaV) j = phaV s.phases[j] := nth_map hj
                have ei : setAt s i = s.phases[i].set := by simp [setAt, hi]
                have ej : setAt s j = s.phases[j].set := by simp [setAt, hj]
                have hwi := hwp _ (List.getElem_mem hi)
                have hwj := hwp _ (List.getElem_mem hj)
                have hb1 := bit_odd s.phases[i].set a
                have hb2 := bit_odd s.phases[j].set b
                rw [ei, ej] at hra ⊢
                generalize s.phases[i] = p at *
                generalize s.phases[j] = r at *
                obtain ⟨p1, p2, p3, p4, p5⟩ := p
                obtain ⟨r1, r2, r3, r4, r5⟩ := r
                simp only at hra hb1 hb2 hwi hwj
                simp (disch := omega) [go_sem]
                refine callK_data q3 [] (by simp [go_sem, grps_pure, sets_pure, rows_pure, phas_pure, eyes_pure, plns_pure]) (.inl rfl) (by simp [go_sem]) (fun _ => ?_) (by simp [tabG, go_sem])
                simp (disch := omega) [go_sem, hi, hj, hgi, hgj, phaV]
                refine br_of (fun h5 => ?_) (fun h5 => ?_)
                · have hc : (p1.testBit a && r1.testBit b) = true := by
                    simp at h5
                    rw [(shr_bit p1 a).1 h5.1, (shr_bit r1 b).1 h5.2]; rfl
                  rw [if_pos hc] at hra
                  simp (disch := omega) [go_sem]
                  refine round_of (b + 1) (by omega) (by omega) (Le.mk [(0, some 0)] [0] ⟨rfl, rfl, rfl⟩ ?_ ?_ ?_) <;> simp [go_sem, clS, hra, maxI, grps_pure, sets_pure, rows_pure, phas_pure, eyes_pure, plns_pure]
                · have hc : (p1.testBit a && r1.testBit b) = false := by rw [← hb1, ← hb2]; exact h5
                  rw [if_neg (by rw [hc]; decide)] at hra
                  simp (disch := omega) [go_sem]
                  refine round_of (b + 1) (by omega) (by omega) (Le.mk [(0, some 0)] [0] ⟨rfl, rfl, rfl⟩ ?_ ?_ ?_) <;> simp [go_sem, clS, hra, grps_pure, sets_pure, rows_pure, phas_pure, eyes_pure, plns_pure]
              · have hbl : b = s.groups.length := by omega
                subst hbl
                have hcr := clear_row hOk (setAt s i) (setAt s j) h
                simp (disch := omega) [go_sem]
                refine round_of (a + 1) (by omega) (by omega) (Le.mk [(0, some 0)] [0] ⟨rfl, rfl, rfl⟩ ?_ ?_ ?_) <;> simp [go_sem, clS, hcr, grps_pure, sets_pure, rows_pure, phas_pure, eyes_pure, plns_pure]
          · have hag : a = s.groups.length := by omega
            subst hag
            rw [show clearK s (setAt s i) (setAt s j) s.groups.length = clearN s i j from rfl]
            simp (disch := omega) [go_sem]
            refine awz_loop mixed (fun k : Nat => clS s i j [(18, .int .i64 k), (17, .int .i64 (roundK s k)), (12, .int .i64 (clearN s i j))] 4096) (fun k => k ≤ s.phases.length) (fun k => s.phases.length - k) 0 (by omega) ?_ ?_
            · refine Le.mk [(0, some 0)] [0] ⟨rfl, rfl, rfl⟩ ?_ ?_ ?_ <;> simp [go_sem, clS, roundK, grps_pure, sets_pure, rows_pure, phas_pure, eyes_pure, plns_pure]
            · intro k hk
              simp (disch := omega) [go_sem, clS]
              refine br_of (fun h3 => ?_) (fun h3 => ?_) <;> simp at h3
              · have hmod : (k + 1) % s.phases.length < s.phases.length := Nat.mod_lt _ (by omega)
                have q3 := clear_ask hOk h3 hmod
                have hcb := clear_bound s hOk.shaped hA k ((k + 1) % s.phases.length)
                have hrb := roundK_bound s hN k (by omega)
                have hgi : nth (s.phases.map phaV) k = phaV s.phases[k] := nth_map h3
                have hne : needsN s k = s.phases[k].min + clearN s k ((k + 1) % s.phases.length) := by unfold needsN; simp [minAt, h3]
                have hrs := roundK_succ s k
                have hmb := (hP.1 k h3 h3).2.2.1.1
                rw [hne] at hrs
                have htm : ((k : Int) + 1).tmod (s.phases.length : Int) = (((k + 1) % s.phases.length : Nat) : Int) := by
                  rw [Int.tmod_eq_emod_of_nonneg (by omega)]; push_cast; rfl
                rw [← htm] at q3
                generalize clearN s k ((k + 1) % s.phases.length) = cc at *
                generalize s.phases[k] = p at *
                obtain ⟨p1, p2, p3, p4, p5⟩ := p
                simp only at hrs hmb
                simp (disch := omega) [go_sem, hgi]
                refine ⟨fun e => by rw [e] at s5; simp at s5, ?_⟩
                refine callK_data q3 [] (by simp [go_sem, grps_pure, sets_pure, rows_pure, phas_pure, eyes_pure, plns_pure]) (.inl rfl) (by simp [go_sem]) (fun _ => ?_) (by simp [tabG, go_sem])
                simp (disch := omega) [go_sem, h3, hgi, phaV]
                refine ⟨.inl (by kernel_rfl), round_of (k + 1) (by omega) (by omega) (Le.mk [(0, some 0)] [0] ⟨rfl, rfl, rfl⟩ ?_ ?_ ?_)⟩ <;> simp [go_sem, clS, hrs, grps_pure, sets_pure, rows_pure, phas_pure, eyes_pure, plns_pure]
              · have hkl : k = s.phases.length := by omega
                subst hkl
                have hcw := clear_worst hOk i j
                have hcs : i = j → clearN s i j = 0 := fun e => by rw [← e]; exact clear_self hOk hi
                have hrl : roundK s s.phases.length ≤ s.low := h4.1.2
                simp (disch := omega) [go_sem]
                refine ⟨⟨hcw, ?_⟩, hrl⟩
                by_cases e : i = j
                · exact .inr (hcs e)
                · exact .inl (by omega)
      · rw [checkN_bad hOk]
        simp (disch := omega) [go_sem]
    · by_cases f1 : fr < 0
      · have d1 : decide (fr < 0) = true := by simpa using f1
        simp (disch := omega) [go_sem, d1]
      · have d1 : decide (fr < 0) = false := by simpa using f1
        by_cases f2 : to < 0
        · have d2 : decide (to < 0) = true := by simpa using f2
          simp (disch := omega) [go_sem, d1, d2]
        · have d2 : decide (to < 0) = false := by simpa using f2
          by_cases f3 : (s.phases.length : Int) ≤ fr
          · have d3 : decide ((s.phases.length : Int) ≤ fr) = true := by simpa using f3
            simp (disch := omega) [go_sem, d1, d2, d3]
          · have d3 : decide ((s.phases.length : Int) ≤ fr) = false := by simpa using f3
            have d4 : decide ((s.phases.length : Int) ≤ to) = true := by simp; omega
            simp (disch := omega) [go_sem, d1, d2, d3, d4]
  · simp (disch := omega) [go_sem]
end Go.Proofs.YtiibccoaopjoiaaDoor
