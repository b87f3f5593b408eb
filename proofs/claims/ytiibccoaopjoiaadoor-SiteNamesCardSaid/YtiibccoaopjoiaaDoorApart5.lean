/- The statement SiteApart: the plain facts. -/
import Derived.Test.YtiibccoaopjoiaaDoorBack5
import Derived.Test.YtiibccoaopjoiaaDoorRefS
set_option linter.unusedSimpArgs false
set_option linter.unusedVariables false
namespace Go.Proofs.YtiibccoaopjoiaaDoor
open Go.AM Go.RowKit
set_option maxRecDepth 100000

/-- A set of n below n holds all. -/
theorem pop_full {t n : Nat} (hn : n ≤ 16) (ht : t < 2 ^ n) (hp : popN t = n) : ∀ a, a < n → t.testBit a = true := by
  have h0 : ∀ j, n ≤ j → t.testBit j = false := fun j hj => Nat.testBit_lt_two_pow (Nat.lt_of_lt_of_le ht (Nat.pow_le_pow_right (by omega) hj))
  have hsplit : popN t = (List.range n).countP fun j => t.testBit j := by
    unfold popN
    rw [show 32 = n + (32 - n) by omega, List.range_add, List.countP_append]
    have : (List.map (fun x => n + x) (List.range (32 - n))).countP (fun j => t.testBit j) = 0 := by
      rw [List.countP_eq_zero]
      intro j hj
      obtain ⟨k, _, rfl⟩ := List.mem_map.1 hj
      rw [h0 _ (by omega)]
      simp
    omega
  intro a ha
  have hl : (List.range n).countP (fun j => t.testBit j) = (List.range n).length := by rw [← hsplit, hp, List.length_range]
  exact (List.countP_eq_length.1 hl) a (by simpa using ha)
def inK (s : Sit) (a k : Nat) : Bool := (s.phases.take k).any fun p => p.set.testBit a
theorem inK_succ {s : Sit} {a k : Nat} (h : k < s.phases.length) : inK s a (k + 1) = (inK s a k || s.phases[k].set.testBit a) := by
  unfold inK; rw [List.take_succ_eq_append_getElem h, List.any_append]; simp only [List.any_cons, List.any_nil, Bool.or_false]
theorem allK_bit (s : Sit) (a : Nat) : ∀ k, k ≤ s.phases.length → (allK s k).testBit a = inK s a k
  | 0, _ => by simp [allK, inK]
  | k + 1, hk => by rw [allK_succ s k (by omega), Nat.testBit_or, allK_bit s a k (by omega), inK_succ (by omega)]
theorem allK_low {s : Sit} (hP : ∀ k, k < s.phases.length → phaAt s k) : ∀ k, k ≤ s.phases.length → allK s k < 2 ^ s.groups.length
  | 0, _ => by simp [allK]; exact Nat.two_pow_pos _
  | k + 1, hk => by
    rw [allK_succ s k (by omega)]
    exact Nat.or_lt_two_pow (allK_low hP k (by omega)) (hP k (by omega) (by omega)).2.1
theorem in_some {s : Sit} (hOk : SiteOk s) {a : Nat} (ha : a < s.groups.length) : inK s a s.phases.length = true := by
  have hP := hOk.phased
  have h := pop_full hOk.shaped.1.2 (allK_low hP.1 _ (Nat.le_refl _)) hP.2 a ha
  rwa [allK_bit s a _ (Nat.le_refl _)] at h

/-! the greatest between, row by row -/
def mostRow (s : Sit) (a b : Nat) (m : Int) : Int := (List.range b).foldl (fun m j => maxI m (betw s a j)) m
theorem mostRow_succ (s : Sit) (a b : Nat) (m : Int) : mostRow s a (b + 1) m = maxI (mostRow s a b m) (betw s a b) := by unfold mostRow; rw [List.range_succ, List.foldl_append]; rfl
theorem mostRow_row {s : Sit} {a : Nat} (ha : a < s.between.length) (m : Int) : ∀ b, b ≤ s.between[a].length → mostRow s a b m = (s.between[a].take b).foldl maxI m
  | 0, _ => by simp [mostRow]
  | b + 1, hb => by
    rw [mostRow_succ, mostRow_row ha m b (by omega), List.take_succ_eq_append_getElem (by omega), List.foldl_append]
    have : betw s a b = s.between[a][b] := by simp [betw, ha, show b < s.between[a].length by omega]
    rw [this]; rfl
theorem mostRow_worst {s : Sit} (hOk : SiteOk s) {a : Nat} (ha : a < s.groups.length) : mostRow s a s.groups.length (worstK s a) = worstK s (a + 1) := by
  have hS := hOk.shaped
  have ha' : a < s.between.length := by rw [hS.2.2.1]; exact ha
  have hl := (hS.2.2.2.2.2.2 a ha').1
  rw [show s.between.getD a [] = s.between[a] by simp [ha']] at hl
  rw [mostRow_row ha' _ _ (by omega), worstK_succ ha', List.take_of_length_le (by omega)]

theorem ask_two {s : Sit} (hOk : SiteOk s) {n : Nat} {a b : Nat} (ha : a < n) (hb : b < n) : askN s n [(a : Int), (b : Int)] = 0 := by
  unfold askN
  rw [if_pos hOk, if_pos]
  simp [inN]
  omega
theorem apart_ask {s : Sit} (hOk : SiteOk s) {a b : Nat} (ha : a < s.groups.length) (hb : b < s.groups.length) : FnD Tryd.prog 55 [sitU s, .int .i64 a, .int .i64 b] (.tup [.bool (isAp s a b), .int .i64 0]) tabG := by
  have q := sapart_spec s a b
  rw [ask_two hOk ha hb, sitU_eq] at q
  simpa using q
theorem between_ask {s : Sit} (hOk : SiteOk s) {a b : Nat} (ha : a < s.groups.length) (hb : b < s.groups.length) : FnD Tryd.prog 56 [sitU s, .int .i64 a, .int .i64 b] (.tup [.int .i64 (betw s a b), .int .i64 0]) tabG := by
  have q := sbetween_spec s a b
  rw [ask_two hOk ha hb, sitU_eq] at q
  simpa using q
theorem bit_odd (t b : Nat) : ((((t : Int).fdiv (2 ^ b)).tmod 2) == 1) = t.testBit b := by
  rw [Bool.eq_iff_iff, beq_iff_eq]; exact shr_bit t b
def apS (s : Sit) (sl : List (Nat × V)) (nx : Nat) : St := ⟨sl ++ [(5, .int .i64 0), (4, .int .i64 (worstN s)), (3, .bool true), (1, .ptr 0 1 0 0)], [(0, ⟨.box, 29, 12, [sitU s]⟩)], nx, [], 181, 0, tabG⟩
set_option maxHeartbeats 8000000 in
theorem sapart5_spec (s : Sit) : FnD Tryd.prog 9 [sitV s] (.bool true) tabG := by
  have qs := small5_spec s
  have qc := check_spec s
  have qw := worst_spec s
  rw [sitU_eq] at qs qc qw ⊢
  refine fnD_of mixed Tryd.func9 rfl rfl (by simp [Tryd.ntmps9]) fun hwf E => ?_
  have hwp : ∀ p ∈ s.phases, p.set < 4294967296 := by
    simp (disch := omega) [go_sem, sets_len, rows_len] at hwf
    exact wf_phas hwf.2.2.2.2.1.2
  simp (disch := omega) [Tryd.ntmps9, go_sem]
  refine callK_data alive5_spec [] (by simp [go_sem]) (.inl rfl) (by simp [go_sem]) (fun _ => ?_) (by simp [tabG, go_sem])
  simp (disch := omega) [go_sem]
  refine callK_bool qs [] (by simp [go_sem, grps_pure, sets_pure, rows_pure, phas_pure, eyes_pure, plns_pure]) (fun hs1 => ?_) (fun hs1 => ?_)
  · simp (disch := omega) [go_sem]
    refine callK_data qc [] (by simp [go_sem, grps_pure, sets_pure, rows_pure, phas_pure, eyes_pure, plns_pure]) (.inl rfl) (by simp [go_sem]) (fun _ => ?_) (by simp [tabG, go_sem])
    by_cases hOk : SiteOk s
    · rw [checkN_ok hOk]
      rw [if_pos hOk, checkN_ok hOk] at qw
      have hS := hOk.shaped
      have hA := hOk.apart
      have hP := hOk.phased
      obtain ⟨⟨s1, s2⟩, s3, s4, ⟨s5, s6⟩, s7, s8, s9⟩ := hS
      simp (disch := omega) [go_sem]
      refine callK_data qw [] (by simp [go_sem, grps_pure, sets_pure, rows_pure, phas_pure, eyes_pure, plns_pure]) (.inl rfl) (by simp [go_sem]) (fun _ => ?_) (by simp [tabG, go_sem])
      simp (disch := omega) [go_sem]
      refine awz_loop mixed (fun a : Nat => apS s [(7, .int .i64 a), (6, .int .i64 (worstK s a))] 2048) (fun a => a ≤ s.groups.length) (fun a => s.groups.length - a) 0 (by omega) ?_ ?_
      · refine Le.mk [(0, some 0)] [0] ⟨rfl, rfl, rfl⟩ ?_ ?_ ?_ <;> simp [go_sem, apS, worstK, grps_pure, sets_pure, rows_pure, phas_pure, eyes_pure, plns_pure]
      · intro a ha
        simp (disch := omega) [go_sem, apS]
        refine br_of (fun h => ?_) (fun h => ?_) <;> simp at h
        · simp (disch := omega) [go_sem]
          refine awz_loop mixed (fun k : Nat => apS s [(9, .int .i64 k), (8, .bool (inK s a k)), (7, .int .i64 a), (6, .int .i64 (worstK s a))] 4096) (fun k => k ≤ s.phases.length) (fun k => s.phases.length - k) 0 (by omega) ?_ ?_
          · refine Le.mk [(0, some 0)] [0] ⟨rfl, rfl, rfl⟩ ?_ ?_ ?_ <;> simp [go_sem, apS, inK, grps_pure, sets_pure, rows_pure, phas_pure, eyes_pure, plns_pure]
          · intro k hk
            simp (disch := omega) [go_sem, apS]
            refine br_of (fun h2 => ?_) (fun h2 => ?_) <;> simp at h2
            · have hgp : nth (s.phases.map phaV) k = phaV s.phases[k] := nth_map h2
              have hks := inK_succ (a := a) h2
              have hsl := hwp _ (List.getElem_mem h2)
              have hb := bit_odd s.phases[k].set a
              generalize s.phases[k] = p at *
              obtain ⟨p1, p2, p3, p4, p5⟩ := p
              simp only at *
              simp (disch := omega) [go_sem, h2, hgp, phaV]
              refine round_of (k + 1) (by omega) (by omega) (Le.mk [(0, some 0)] [0] ⟨rfl, rfl, rfl⟩ ?_ ?_ ?_) <;> simp [go_sem, apS, hks, hb, grps_pure, sets_pure, rows_pure, phas_pure, eyes_pure, plns_pure]
            · have hkl : k = s.phases.length := by omega
              subst hkl
              have hin := in_some hOk h
              simp (disch := omega) [go_sem, hin]
              refine awz_loop mixed (fun b : Nat => apS s [(10, .int .i64 b), (7, .int .i64 a), (6, .int .i64 (mostRow s a b (worstK s a)))] 8192) (fun b => b ≤ s.groups.length) (fun b => s.groups.length - b) 0 (by omega) ?_ ?_
              · refine Le.mk [(0, some 0)] [0] ⟨rfl, rfl, rfl⟩ ?_ ?_ ?_ <;> simp [go_sem, apS, mostRow, grps_pure, sets_pure, rows_pure, phas_pure, eyes_pure, plns_pure]
              · intro b hb
                simp (disch := omega) [go_sem, apS]
                refine br_of (fun h3 => ?_) (fun h3 => ?_) <;> simp at h3
                · have q1 := apart_ask hOk h h3
                  have q2 := apart_ask hOk h3 h
                  have q3 := between_ask hOk h h3
                  have hcl := (hA a h).2 b h3
                  have hms := mostRow_succ s a b (worstK s a)
                  have hgg : nth (s.groups.map grpV) a = grpV s.groups[a] := nth_map h
                  have hy : yelAt s a = s.groups[a].yellow := by simp [yelAt, h]
                  obtain ⟨c1, c2, c3⟩ := hcl
                  rw [hy] at c2
                  have hbit : isAp s a b = true → ∀ k, ∀ hk : k < s.phases.length, s.phases[k].set.testBit a = true → s.phases[k].set.testBit b = false := fun hx k hk hba => by
                    have hp := (hP.1 k hk hk).2.2.2.2 a hba
                    have h0 := hp.2
                    cases hbb : s.phases[k].set.testBit b with
                    | false => rfl
                    | true =>
                      have : (s.apart.getD a 0 &&& s.phases[k].set).testBit b = true := by
                        rw [Nat.testBit_and, hbb]
                        unfold isAp at hx
                        rw [hx]; rfl
                      rw [h0] at this
                      simp at this
                  rw [← c1] at q2
                  generalize isAp s a b = x at *
                  generalize betw s a b = n at *
                  generalize s.groups[a] = gg at *
                  obtain ⟨gk, gm, gy⟩ := gg
                  simp only at c2
                  simp (disch := omega) [go_sem]
                  refine callK_data q1 [] (by simp [go_sem, grps_pure, sets_pure, rows_pure, phas_pure, eyes_pure, plns_pure]) (.inl rfl) (by simp [go_sem]) (fun _ => ?_) (by simp [tabG, go_sem])
                  simp (disch := omega) [go_sem]
                  refine callK_data q2 [] (by simp [go_sem, grps_pure, sets_pure, rows_pure, phas_pure, eyes_pure, plns_pure]) (.inl rfl) (by simp [go_sem]) (fun _ => ?_) (by simp [tabG, go_sem])
                  simp (disch := omega) [go_sem]
                  refine callK_data q3 [] (by simp [go_sem, grps_pure, sets_pure, rows_pure, phas_pure, eyes_pure, plns_pure]) (.inl rfl) (by simp [go_sem]) (fun _ => ?_) (by simp [tabG, go_sem])
                  cases x with
                  | true =>
                    obtain ⟨d1, d2, d3⟩ := c2 rfl
                    have e1 : decide ((a : Int) = (b : Int)) = false := by simp; omega
                    have e2 : decide (n < gy) = false := by simp; omega
                    have e3 : ((a : Int) == (b : Int)) = false := by simp; omega
                    simp (disch := omega) [go_sem, h, hgg, grpV, e1, e2, e3]
                    refine awz_loop mixed (fun k : Nat => apS s [(17, .int .i64 k), (11, .bool true), (10, .int .i64 b), (7, .int .i64 a), (6, .int .i64 (mostRow s a (b + 1) (worstK s a)))] 16384) (fun k => k ≤ s.phases.length) (fun k => s.phases.length - k) 0 (by omega) ?_ ?_
                    · refine Le.mk [(0, some 0)] [0] ⟨rfl, rfl, rfl⟩ ?_ ?_ ?_ <;> simp [go_sem, apS, hms, maxI, grps_pure, sets_pure, rows_pure, phas_pure, eyes_pure, plns_pure]
                    · intro k hk
                      by_cases h4 : k < s.phases.length
                      · have hd : decide (k < s.phases.length) = true := by simpa using h4
                        have hgp : nth (s.phases.map phaV) k = phaV s.phases[k] := nth_map h4
                        have hbt := hbit rfl k h4
                        have hsl := hwp _ (List.getElem_mem h4)
                        have hb1 := bit_odd s.phases[k].set a
                        have hb2 := bit_odd s.phases[k].set b
                        generalize s.phases[k] = p at *
                        obtain ⟨p1, p2, p3, p4, p5⟩ := p
                        simp only at *
                        simp (disch := omega) [go_sem, apS, hd, h4, hgp, phaV]
                        refine br_of (fun h5 => ?_) (fun h5 => ?_)
                        · exfalso
                          simp at h5
                          have j1 := (shr_bit p1 a).1 h5.1
                          have j2 := (shr_bit p1 b).1 h5.2
                          rw [hbt j1] at j2
                          exact absurd j2 (by decide)
                        · simp (disch := omega) [go_sem]
                          refine round_of (k + 1) (by omega) (by omega) (Le.mk [(0, some 0)] [0] ⟨rfl, rfl, rfl⟩ ?_ ?_ ?_) <;> simp [go_sem, apS, grps_pure, sets_pure, rows_pure, phas_pure, eyes_pure, plns_pure]
                      · have hd : decide (k < s.phases.length) = false := by simpa using h4
                        simp (disch := omega) [go_sem, apS, hd]
                        refine round_of (b + 1) (by omega) (by omega) (Le.mk [(0, some 0)] [0] ⟨rfl, rfl, rfl⟩ ?_ ?_ ?_) <;> simp [go_sem, apS, grps_pure, sets_pure, rows_pure, phas_pure, eyes_pure, plns_pure]
                  | false =>
                    have d1 := c3 rfl
                    subst d1
                    simp (disch := omega) [go_sem, h, hgg, grpV]
                    refine awz_loop mixed (fun k : Nat => apS s [(17, .int .i64 k), (11, .bool false), (10, .int .i64 b), (7, .int .i64 a), (6, .int .i64 (mostRow s a (b + 1) (worstK s a)))] 16384) (fun k => k ≤ s.phases.length) (fun k => s.phases.length - k) 0 (by omega) ?_ ?_
                    · refine Le.mk [(0, some 0)] [0] ⟨rfl, rfl, rfl⟩ ?_ ?_ ?_ <;> simp [go_sem, apS, hms, maxI, grps_pure, sets_pure, rows_pure, phas_pure, eyes_pure, plns_pure]
                    · intro k hk
                      simp (disch := omega) [go_sem, apS]
                      refine round_of (b + 1) (by omega) (by omega) (Le.mk [(0, some 0)] [0] ⟨rfl, rfl, rfl⟩ ?_ ?_ ?_) <;> simp [go_sem, apS, grps_pure, sets_pure, rows_pure, phas_pure, eyes_pure, plns_pure]
                · have hbl : b = s.groups.length := by omega
                  subst hbl
                  have hwr := mostRow_worst hOk h
                  simp (disch := omega) [go_sem]
                  refine round_of (a + 1) (by omega) (by omega) (Le.mk [(0, some 0)] [0] ⟨rfl, rfl, rfl⟩ ?_ ?_ ?_) <;> simp [go_sem, apS, hwr, grps_pure, sets_pure, rows_pure, phas_pure, eyes_pure, plns_pure]
        · have hag : a = s.groups.length := by omega
          subst hag
          have hww : worstK s s.groups.length = worstN s := by unfold worstN; rw [s4]
          simp (disch := omega) [go_sem, hww]
    · rw [checkN_bad hOk]
      simp (disch := omega) [go_sem]
  · simp (disch := omega) [go_sem]
end Go.Proofs.YtiibccoaopjoiaaDoor
