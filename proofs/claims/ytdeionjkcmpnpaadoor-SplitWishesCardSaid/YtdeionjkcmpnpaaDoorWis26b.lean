
/- The reference stoplineref26: Scale, Wished. -/
import Derived.Test.YtdeionjkcmpnpaaDoorWis26
set_option linter.unusedSimpArgs false
set_option linter.unusedVariables false
namespace Go.Proofs.YtdeionjkcmpnpaaDoor
open Go.AM Go.RowKit
set_option maxRecDepth 100000

set_option maxHeartbeats 1000000 in
theorem rScale_spec (s : Sit) (i c : Int) (qn : SiteOk s → Near17 s) : FnD Tryd.prog 12 [sitV s, .int .i64 i, .int .i64 c] (.tup [plnV (scaleV s i c), .int .i64 (scaleE s i c)]) := by
  have hpu := (⟨grps_pure s.groups, phas_pure s.phases, eyes_pure s.eyes, plns_pure s.plans, sets_pure s.apart, rows_pure s.between⟩ : _ ∧ _ ∧ _ ∧ _ ∧ _ ∧ _)
  obtain ⟨hp1, hp2, hp3, hp4, hp5, hp6⟩ := hpu
  have qc := rcheck_spec s
  have qm := r26plans_spec s
  have qs := fun (h : SiteOk s) (h1 : scaleOk s i c) => scaled26_spec s i.toNat c (qn h) h (by unfold scaleOk manyN at h1; split at h1 <;> omega) h1.2
  have hsv : sitV s = .agg [.int .i64 s.id, .sl 3 (s.groups.map grpV), .sl 1 (sets s.apart), .sl 1 (rows s.between), .sl 5 (s.phases.map phaV), .sl 4 (s.eyes.map eyeV), .int .i64 s.watch, .int .i64 s.feed, .int .i64 s.heal, .int .i64 s.low, .int .i64 s.high, .sl 3 (s.plans.map plnV)] := rfl
  rw [hsv] at qc qm qs ⊢
  refine fnD_of mixed Tryd.func12 rfl rfl (by simp [Tryd.ntmps12]) fun hwf E => ?_
  simp (disch := omega) [go_sem, sets_len, rows_len] at hwf
  have hmn : manyN s ≤ 140737488355328 := by unfold manyN; split <;> omega
  simp (disch := omega) [Tryd.ntmps12, go_sem]
  refine callK_data qc [] (by simp [go_sem, hp1, hp2, hp3, hp4, hp5, hp6]) (.inl rfl) (by simp [go_sem]) (fun _ => ?_)
  by_cases hOk : SiteOk s
  · have e1 : scaleE s i c = if scaleOk s i c then 0 else 2 := by unfold scaleE; rw [if_pos hOk]
    rw [checkN_ok hOk, e1]
    by_cases h0 : i < 0
    · have hb : ¬ scaleOk s i c := fun e => by have := e.1.1; omega
      have e2 : scaleV s i c = ⟨0, 0, []⟩ := by unfold scaleV; rw [if_neg (fun e => hb e.2)]
      rw [e2, if_neg hb]
      simp (disch := omega) [go_sem, h0, plnV, ints]
    · simp (disch := omega) [go_sem, h0]
      refine callK_data qm [] (by simp [go_sem, hp1, hp2, hp3, hp4, hp5, hp6]) (.inl rfl) (by simp [go_sem]) (fun _ => ?_)
      by_cases h1 : (manyN s : Int) ≤ i
      · have hb : ¬ scaleOk s i c := fun e => by have := e.1.2; omega
        have e2 : scaleV s i c = ⟨0, 0, []⟩ := by unfold scaleV; rw [if_neg (fun e => hb e.2)]
        rw [e2, if_neg hb]
        simp (disch := omega) [go_sem, h0, h1, plnV, ints]
      · simp (disch := omega) [go_sem, h0, h1]
        refine callK_data (r26in_spec c) [] (by simp [go_sem]) (.inl rfl) (by simp [go_sem]) (fun _ => ?_)
        by_cases h2 : inN c 0 1048576 = true
        · have hb : scaleOk s i c := ⟨by omega, by simpa [inN] using h2⟩
          have e2 : scaleV s i c = scaleN s i.toNat c := by unfold scaleV; rw [if_pos ⟨hOk, hb⟩]
          rw [e2, if_pos hb]
          have q := qs hOk hb
          rw [show ((i.toNat : Nat) : Int) = i by omega] at q
          simp (disch := omega) [go_sem, h0, h1, h2]
          refine callK_data q [] (by simp [go_sem, hp1, hp2, hp3, hp4, hp5, hp6]) (.inl rfl) (by simp [go_sem, plnV, ints_pure]) (fun _ => ?_)
          simp (disch := omega) [go_sem, plnV, ints_len]
        · have hb : ¬ scaleOk s i c := fun e => h2 (by simpa [inN] using e.2)
          have e2 : scaleV s i c = ⟨0, 0, []⟩ := by unfold scaleV; rw [if_neg (fun e => hb e.2)]
          rw [e2, if_neg hb]
          simp (disch := omega) [go_sem, h0, h1, h2, plnV, ints]
  · have e1 : scaleE s i c = 50 := by unfold scaleE; rw [if_neg hOk]
    have e2 : scaleV s i c = ⟨0, 0, []⟩ := by unfold scaleV; rw [if_neg (fun e => hOk e.1)]
    rw [checkN_bad hOk, e1, e2]
    simp (disch := omega) [go_sem, plnV, ints]

noncomputable def bsR (s : Sit) (v : Nat) (c : Int) (l : List Int) (k : Nat) : Int × Int := bestK (rowsK s v c l (manyN s)) (k + 1)
theorem bsR_zero (s : Sit) (v : Nat) (c : Int) (l : List Int) : bsR s v c l 0 = ((v : Int), wst s v c l (scaleN s v c)) := by
  unfold bsR; rw [bestK_one]; rfl
theorem bsR_succ {s : Sit} {v : Nat} {c : Int} {l : List Int} {k : Nat} (h : k < manyN s) : bsR s v c l (k + 1) = if wst s v c l (scaleN s k c) < (bsR s v c l k).2 then ((k : Int), wst s v c l (scaleN s k c)) else bsR s v c l k := by
  have r1 : (rowsK s v c l (manyN s)).getD (k + 1) (0, 0) = ((k : Int), wst s v c l (scaleN s k c)) := by
    unfold rowsK
    simp [List.getD_cons_succ, List.getD_eq_getElem?_getD, h]
  show bestK _ (k + 1 + 1) = _
  rw [bestK, r1]; rfl
set_option maxHeartbeats 4000000 in
theorem wished26_spec (s : Sit) (v : Nat) (x y c : Int) (l : List Int) (qn : Near17 s) (hOk : SiteOk s) (hv : v < manyN s) (hcb : 0 ≤ c ∧ c ≤ 1048576) (hl : loadedN l = 0) :
    FnD Tryd.prog 60 [sitV s, .agg [.int .i64 v, .int .i64 x, .int .i64 y], .int .i64 c, .sl 1 (ints l)] (.int .i64 (bestN s v c l)) := by
  have hpu := (⟨grps_pure s.groups, phas_pure s.phases, eyes_pure s.eyes, plns_pure s.plans, sets_pure s.apart, rows_pure s.between⟩ : _ ∧ _ ∧ _ ∧ _ ∧ _ ∧ _)
  obtain ⟨hp1, hp2, hp3, hp4, hp5, hp6⟩ := hpu
  have hil := ints_pure l
  have qm := r26plans_spec s
  have hpl8 : s.plans.length ≤ 8 := (groups_site.1 hOk).2.2.2.1
  have hm8 : 1 ≤ manyN s ∧ manyN s ≤ 8 := by unfold manyN; split <;> omega
  have hin : ∀ i, i < manyN s → i = 0 ∨ i < s.plans.length := fun i hi => by unfold manyN at hi; split at hi <;> omega
  have qs := fun i (hi : i < manyN s) => scaled26_spec s i c qn hOk (hin i hi) hcb
  have qw := fun i => most26_spec (scaleN s v c) (scaleN s i c) l (most2_of hOk (scale_fits v c hOk) (scale_fits i c hOk) hl)
  have hps : ∀ i, pures (ints (scaleN s i c).splits) := fun i => ints_pure _
  have hsv : sitV s = .agg [.int .i64 s.id, .sl 3 (s.groups.map grpV), .sl 1 (sets s.apart), .sl 1 (rows s.between), .sl 5 (s.phases.map phaV), .sl 4 (s.eyes.map eyeV), .int .i64 s.watch, .int .i64 s.feed, .int .i64 s.heal, .int .i64 s.low, .int .i64 s.high, .sl 3 (s.plans.map plnV)] := rfl
  rw [hsv] at qm qs ⊢
  refine fnD_of mixed Tryd.func60 rfl rfl (by simp [Tryd.ntmps60]) fun hwf E => ?_
  clear hwf
  simp (disch := omega) [Tryd.ntmps60, go_sem]
  refine callK_data (qs v hv) [] (by simp [go_sem, hp1, hp2, hp3, hp4, hp5, hp6]) (.inl rfl) (by simp [go_sem, plnV, hps]) (fun _ => ?_)
  simp (disch := omega) [go_sem, plnV]
  have qv := qw v
  simp only [plnV] at qv
  refine callK_data qv [] (by simp [go_sem, hps, hil]) (.inl rfl) (by simp [go_sem]) (fun _ => ?_)
  simp (disch := omega) [go_sem]
  have hw0 : mostK (scaleN s v c) (scaleN s v c) l (min (scaleN s v c).splits.length l.length) = wst s v c l (scaleN s v c) := rfl
  rw [hw0]
  have b0 := bsR_zero s v c l
  refine awz_loop mixed (fun k : Nat => ⟨[(12, .int .i64 k), (11, .int .i64 (bsR s v c l k).2), (10, .int .i64 (bsR s v c l k).1), (9, .ptr 128 1 0 0), (4, .ptr 0 1 0 0), (3, .sl 1 (ints l)), (2, .int .i64 c)], [(128, ⟨.box, 36, 3, [plnV (scaleN s v c)]⟩), (0, ⟨.box, 29, 12, [sitV s]⟩)], 2048, [], 44, 0, []⟩)
    (fun k => k ≤ manyN s) (fun k => manyN s - k) 0 (by omega) ?_ ?_
  · refine (Le.mk [(0, some 0), (128, some 128)] [0, 128] ⟨rfl, rfl, rfl⟩ ?_ ?_ ?_) <;> simp [go_sem, sitV, plnV, hp1, hp2, hp3, hp4, hp5, hp6, hil, hps, b0]
  · intro k hk
    simp (disch := omega) [go_sem, sitV, plnV]
    refine callK_data qm [] (by simp [go_sem, hp1, hp2, hp3, hp4, hp5, hp6]) (.inl rfl) (by simp [go_sem]) (fun _ => ?_)
    simp (disch := omega) [go_sem]
    refine br_of (fun g => ?_) (fun g => ?_) <;> simp at g
    · have g' : k < manyN s := by omega
      have qk := qs k g'
      have qv2 := qw k
      simp only [plnV] at qv2 qk
      have hwk : mostK (scaleN s v c) (scaleN s k c) l (min (scaleN s k c).splits.length l.length) = wst s v c l (scaleN s k c) := rfl
      rw [hwk] at qv2
      have bs := bsR_succ (v := v) (c := c) (l := l) g'
      simp (disch := omega) [go_sem]
      refine callK_data qk [] (by simp [go_sem, hp1, hp2, hp3, hp4, hp5, hp6]) (.inl rfl) (by simp [go_sem, hps]) (fun _ => ?_)
      simp (disch := omega) [go_sem]
      refine callK_data qv2 [] (by simp [go_sem, hps, hil]) (.inl rfl) (by simp [go_sem]) (fun _ => ?_)
      simp (disch := omega) [go_sem]
      refine ⟨.inl (by kernel_rfl), ?_⟩
      refine br_of (fun g2 => ?_) (fun g2 => ?_) <;> simp at g2
      · rw [if_pos g2] at bs
        simp (disch := omega) [go_sem]
        refine round_of (k + 1) (by omega) (by omega) (Le.mk [(0, some 0), (128, some 128)] [0, 128] ⟨rfl, rfl, rfl⟩ ?_ ?_ ?_) <;> simp [go_sem, sitV, plnV, hp1, hp2, hp3, hp4, hp5, hp6, hil, hps, bs]
      · rw [if_neg (by omega)] at bs
        simp (disch := omega) [go_sem]
        refine round_of (k + 1) (by omega) (by omega) (Le.mk [(0, some 0), (128, some 128)] [0, 128] ⟨rfl, rfl, rfl⟩ ?_ ?_ ?_) <;> simp [go_sem, sitV, plnV, hp1, hp2, hp3, hp4, hp5, hp6, hil, hps, bs]
    · have hkl : k = manyN s := by omega
      subst hkl
      simp (disch := omega) [go_sem]
      try rfl
end Go.Proofs.YtdeionjkcmpnpaaDoor
