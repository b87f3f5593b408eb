
/- The reference stoplineref26: Wish, Next; SplitWishes: the law, given what Near answers. -/
import Derived.Test.YtdeionjkcmpnpaaDoorWis26b
import Derived.Test.YtdeionjkcmpnpaaDoorBest26
set_option linter.unusedSimpArgs false
set_option linter.unusedVariables false
namespace Go.Proofs.YtdeionjkcmpnpaaDoor
open Go.AM Go.RowKit
set_option maxRecDepth 100000

set_option maxHeartbeats 4000000 in
theorem rwish26_ok (s : Sit) (v : Nat) (x y c : Int) (l : List Int) (qn : Near17 s) (hOk : SiteOk s) (hv : v < manyN s) (hx : inN x 0 1048576 = true) (hy : inN y 0 1048576 = true) (hc : inN c 0 1048576 = true) (hl : loadedN l = 0) :
    FnD Tryd.prog 14 [sitV s, .agg [.int .i64 v, .int .i64 x, .int .i64 y], .int .i64 c, .sl 1 (ints l)] (.tup [.int .i64 (bestN s v c l), .int .i64 0]) := by
  have hpu := (⟨grps_pure s.groups, phas_pure s.phases, eyes_pure s.eyes, plns_pure s.plans, sets_pure s.apart, rows_pure s.between⟩ : _ ∧ _ ∧ _ ∧ _ ∧ _ ∧ _)
  obtain ⟨hp1, hp2, hp3, hp4, hp5, hp6⟩ := hpu
  have hil := ints_pure l
  have hcb : 0 ≤ c ∧ c ≤ 1048576 := by simpa [inN] using hc
  have qc := rcheck_spec s
  rw [checkN_ok hOk] at qc
  have qm := r26plans_spec s
  have ql := rloaded_spec l
  rw [hl] at ql
  have hpl8 : s.plans.length ≤ 8 := (groups_site.1 hOk).2.2.2.1
  have hm8 : 1 ≤ manyN s ∧ manyN s ≤ 8 := by unfold manyN; split <;> omega
  have hin : ∀ i, i < manyN s → i = 0 ∨ i < s.plans.length := fun i hi => by unfold manyN at hi; split at hi <;> omega
  have qs := wished26_spec s v x y c l qn hOk hv hcb hl
  have hps : ∀ i, pures (ints (scaleN s i c).splits) := fun i => ints_pure _
  have hsv : sitV s = .agg [.int .i64 s.id, .sl 3 (s.groups.map grpV), .sl 1 (sets s.apart), .sl 1 (rows s.between), .sl 5 (s.phases.map phaV), .sl 4 (s.eyes.map eyeV), .int .i64 s.watch, .int .i64 s.feed, .int .i64 s.heal, .int .i64 s.low, .int .i64 s.high, .sl 3 (s.plans.map plnV)] := rfl
  rw [hsv] at qc qm qs ⊢
  refine fnD_of mixed Tryd.func14 rfl rfl (by simp [Tryd.ntmps14]) fun hwf E => ?_
  clear hwf
  have v0 : ¬ (v : Int) < 0 := by omega
  have v1 : ¬ (manyN s : Int) ≤ v := by omega
  simp (disch := omega) [Tryd.ntmps14, go_sem]
  refine callK_data qc [] (by simp [go_sem, hp1, hp2, hp3, hp4, hp5, hp6]) (.inl rfl) (by simp [go_sem]) (fun _ => ?_)
  simp (disch := omega) [go_sem, v0]
  refine callK_data qm [] (by simp [go_sem, hp1, hp2, hp3, hp4, hp5, hp6]) (.inl rfl) (by simp [go_sem]) (fun _ => ?_)
  simp (disch := omega) [go_sem, v0, v1]
  refine callK_data (r26in_spec x) [] (by simp [go_sem]) (.inl rfl) (by simp [go_sem]) (fun _ => ?_)
  simp (disch := omega) [go_sem, v0, v1, hx]
  refine callK_data (r26in_spec y) [] (by simp [go_sem]) (.inl rfl) (by simp [go_sem]) (fun _ => ?_)
  simp (disch := omega) [go_sem, v0, v1, hx, hy]
  refine callK_data (r26in_spec c) [] (by simp [go_sem]) (.inl rfl) (by simp [go_sem]) (fun _ => ?_)
  simp (disch := omega) [go_sem, v0, v1, hx, hy, hc]
  refine ⟨.inl (by kernel_rfl), ?_⟩
  try simp (disch := omega) [go_sem, v0, v1, hx, hy, hc]
  refine callK_data ql [] (by simp [go_sem, hil]) (.inl rfl) (by simp [go_sem]) (fun _ => ?_)
  simp (disch := omega) [go_sem]
  refine callK_data qs [] (by simp [go_sem, hp1, hp2, hp3, hp4, hp5, hp6, hil]) (.inl rfl) (by simp [go_sem]) (fun _ => ?_)
  simp (disch := omega) [go_sem]

set_option maxHeartbeats 4000000 in
theorem rwish26_spec (s : Sit) (v x y c : Int) (l : List Int) (qn : SiteOk s → Near17 s) :
    FnD Tryd.prog 14 [sitV s, .agg [.int .i64 v, .int .i64 x, .int .i64 y], .int .i64 c, .sl 1 (ints l)] (.tup [.int .i64 (wish26V s v x y c l), .int .i64 (wish26E s v x y c l)]) := by
  have hpu := (⟨grps_pure s.groups, phas_pure s.phases, eyes_pure s.eyes, plns_pure s.plans, sets_pure s.apart, rows_pure s.between⟩ : _ ∧ _ ∧ _ ∧ _ ∧ _ ∧ _)
  obtain ⟨hp1, hp2, hp3, hp4, hp5, hp6⟩ := hpu
  have hil := ints_pure l
  by_cases hgood : SiteOk s ∧ wishOk s v x y c ∧ loadedN l = 0
  · obtain ⟨hOk, hw, hl⟩ := hgood
    have e1 : wish26E s v x y c l = 0 := by unfold wish26E; rw [if_pos hOk, if_pos hw]; exact hl
    have e2 : wish26V s v x y c l = bestN s v.toNat c l := by unfold wish26V; rw [if_pos e1]
    rw [e1, e2]
    obtain ⟨i, rfl⟩ := Int.eq_ofNat_of_zero_le hw.1.1
    exact rwish26_ok s i x y c l (qn hOk) hOk (by have := hw.1.2; omega) hw.2.1 hw.2.2.1 hw.2.2.2 hl
  have qc := rcheck_spec s
  have qm := r26plans_spec s
  have ql := rloaded_spec l
  have hsv : sitV s = .agg [.int .i64 s.id, .sl 3 (s.groups.map grpV), .sl 1 (sets s.apart), .sl 1 (rows s.between), .sl 5 (s.phases.map phaV), .sl 4 (s.eyes.map eyeV), .int .i64 s.watch, .int .i64 s.feed, .int .i64 s.heal, .int .i64 s.low, .int .i64 s.high, .sl 3 (s.plans.map plnV)] := rfl
  rw [hsv] at qc qm ⊢
  refine fnD_of mixed Tryd.func14 rfl rfl (by simp [Tryd.ntmps14]) fun hwf E => ?_
  clear hwf
  simp (disch := omega) [Tryd.ntmps14, go_sem]
  refine callK_data qc [] (by simp [go_sem, hp1, hp2, hp3, hp4, hp5, hp6]) (.inl rfl) (by simp [go_sem]) (fun _ => ?_)
  have bad2 : SiteOk s → ¬ wishOk s v x y c → wish26V s v x y c l = 0 ∧ wish26E s v x y c l = 2 := fun h1 h2 => by
    have e1 : wish26E s v x y c l = 2 := by unfold wish26E; rw [if_pos h1, if_neg h2]
    exact ⟨by unfold wish26V; rw [if_neg (by rw [e1]; decide)], e1⟩
  by_cases hOk : SiteOk s
  · rw [checkN_ok hOk]
    have bad := bad2 hOk
    clear bad2
    by_cases v0 : v < 0
    · obtain ⟨b1, b2⟩ := bad (fun e => by have := e.1.1; omega)
      rw [b1, b2]
      simp (disch := omega) [go_sem, v0]
      exact .inl (by kernel_rfl)
    · simp (disch := omega) [go_sem, v0]
      refine callK_data qm [] (by simp [go_sem, hp1, hp2, hp3, hp4, hp5, hp6]) (.inl rfl) (by simp [go_sem]) (fun _ => ?_)
      by_cases v1 : (manyN s : Int) ≤ v
      · obtain ⟨b1, b2⟩ := bad (fun e => by have := e.1.2; omega)
        rw [b1, b2]
        simp (disch := omega) [go_sem, v0, v1]
        exact .inl (by kernel_rfl)
      · simp (disch := omega) [go_sem, v0, v1]
        refine callK_data (r26in_spec x) [] (by simp [go_sem]) (.inl rfl) (by simp [go_sem]) (fun _ => ?_)
        by_cases hx : inN x 0 1048576 = true
        · simp (disch := omega) [go_sem, v0, v1, hx]
          refine callK_data (r26in_spec y) [] (by simp [go_sem]) (.inl rfl) (by simp [go_sem]) (fun _ => ?_)
          by_cases hy : inN y 0 1048576 = true
          · simp (disch := omega) [go_sem, v0, v1, hx, hy]
            refine callK_data (r26in_spec c) [] (by simp [go_sem]) (.inl rfl) (by simp [go_sem]) (fun _ => ?_)
            by_cases hc : inN c 0 1048576 = true
            · have hw : wishOk s v x y c := ⟨by omega, hx, hy, hc⟩
              have hl : loadedN l ≠ 0 := fun e => hgood ⟨hOk, hw, e⟩
              have e1 : wish26E s v x y c l = loadedN l := by unfold wish26E; rw [if_pos hOk, if_pos hw]
              have e2 : wish26V s v x y c l = 0 := by unfold wish26V; rw [if_neg (by rw [e1]; exact hl)]
              rw [e1, e2]
              simp (disch := omega) [go_sem, v0, v1, hx, hy, hc]
              refine ⟨.inl (by kernel_rfl), ?_⟩
              refine callK_data ql [] (by simp [go_sem, hil]) (.inl rfl) (by simp [go_sem]) (fun _ => ?_)
              simp (disch := omega) [go_sem]
              refine br_of (fun h => ?_) (fun h => ?_) <;> simp at h
              · simp (disch := omega) [go_sem]
              · exact absurd h hl
            · obtain ⟨b1, b2⟩ := bad (fun e => hc e.2.2.2)
              rw [b1, b2]
              simp (disch := omega) [go_sem, v0, v1, hx, hy, hc]
              exact .inl (by kernel_rfl)
          · obtain ⟨b1, b2⟩ := bad (fun e => hy e.2.2.1)
            rw [b1, b2]
            simp (disch := omega) [go_sem, v0, v1, hx, hy]
            exact .inl (by kernel_rfl)
        · obtain ⟨b1, b2⟩ := bad (fun e => hx e.2.1)
          rw [b1, b2]
          simp (disch := omega) [go_sem, v0, v1, hx]
          exact .inl (by kernel_rfl)
  · have e1 : wish26E s v x y c l = 50 := by unfold wish26E; rw [if_neg hOk]
    have e2 : wish26V s v x y c l = 0 := by unfold wish26V; rw [if_neg (by rw [e1]; decide)]
    rw [checkN_bad hOk, e1, e2]
    simp (disch := omega) [go_sem]

theorem snext_heard {s : Sit} {v x y c : Int} {l : List Int} (h : wish26E s v x y c l = 0) :
    snextN s v x y c l = (heardN v x y (wish26V s v x y c l) 3, 0) ∧ y ≤ 1048576 := by
  obtain ⟨hOk, hw, hl⟩ := wish26_zero h
  have hm := manyN_le hOk
  have hv : inM v = true := inM_iff.2 (by have := hw.1; omega)
  have hx : inM x = true := hw.2.1
  have hy : inM y = true := hw.2.2.1
  have hn : inM (wish26V s v x y c l) = true := by
    rw [(wish26_ok hOk hw hl).2]
    obtain ⟨n, h1, h2, _⟩ := best_law s v.toNat c l (by have := hw.1; omega)
    rw [h2]
    exact inM_iff.2 (by omega)
  refine ⟨?_, (inM_iff.1 hy).2⟩
  unfold snextN
  rw [if_pos h, tallyN_ok (by rw [hv, hx, hy, hn]; rfl)]
set_option maxHeartbeats 1000000 in
theorem rnext26_spec (s : Sit) (v x y c : Int) (l : List Int) (qn : SiteOk s → Near17 s) :
    FnD Tryd.prog 16 [sitV s, voteV (v, x, y), .int .i64 c, .sl 1 (ints l)] (voteE (snextN s v x y c l)) := by
  have hpu := (⟨grps_pure s.groups, phas_pure s.phases, eyes_pure s.eyes, plns_pure s.plans, sets_pure s.apart, rows_pure s.between⟩ : _ ∧ _ ∧ _ ∧ _ ∧ _ ∧ _)
  obtain ⟨hp1, hp2, hp3, hp4, hp5, hp6⟩ := hpu
  have hil := ints_pure l
  have qw := rwish26_spec s v x y c l qn
  have qt := fun (hy : y ≤ 1048576) => hears25_spec v x y (wish26V s v x y c l) 3 (by omega)
  have ht := fun h => snext_heard (s := s) (v := v) (x := x) (y := y) (c := c) (l := l) h
  have hsv : sitV s = .agg [.int .i64 s.id, .sl 3 (s.groups.map grpV), .sl 1 (sets s.apart), .sl 1 (rows s.between), .sl 5 (s.phases.map phaV), .sl 4 (s.eyes.map eyeV), .int .i64 s.watch, .int .i64 s.feed, .int .i64 s.heal, .int .i64 s.low, .int .i64 s.high, .sl 3 (s.plans.map plnV)] := rfl
  have hb : wish26E s v x y c l ≠ 0 → snextN s v x y c l = ((0, 0, 0), wish26E s v x y c l) := fun h => by unfold snextN; rw [if_neg h]
  generalize snextN s v x y c l = r at *
  generalize wish26V s v x y c l = w at *
  generalize wish26E s v x y c l = e at *
  generalize heardN v x y w 3 = t at *
  obtain ⟨t1, t2, t3⟩ := t
  unfold voteV at qt ⊢
  rw [hsv] at qw ⊢
  refine fnD_of mixed Tryd.func16 rfl rfl (by simp [Tryd.ntmps16]) fun hwf E => ?_
  clear hwf
  simp (disch := omega) [Tryd.ntmps16, go_sem]
  refine callK_data qw [] (by simp [go_sem, hp1, hp2, hp3, hp4, hp5, hp6, hil]) (.inl rfl) (by simp [go_sem]) (fun _ => ?_)
  simp (disch := omega) [go_sem]
  refine br_of (fun h => ?_) (fun h => ?_) <;> simp at h
  · rw [hb h]
    simp (disch := omega) [go_sem, voteE, voteV]
  · rw [(ht h).1, h]
    simp (disch := omega) [go_sem]
    refine callK_data (qt (ht h).2) [] (by simp [go_sem]) (.inl rfl) (by simp [go_sem, voteE, voteV]) (fun _ => ?_)
    simp (disch := omega) [go_sem, voteE, voteV]

set_option maxHeartbeats 4000000 in
theorem swishes_of (s : Sit) (v x y i c : Int) (l : List Int) (qn : SiteOk s → Near17 s) : FnD Tryd.prog 3 [sitV s, voteV (v, x, y), .int .i64 i, .int .i64 c, .sl 1 (ints l)] (.bool true) tabG := by
  have hpu := (⟨grps_pure s.groups, phas_pure s.phases, eyes_pure s.eyes, plns_pure s.plans, sets_pure s.apart, rows_pure s.between⟩ : _ ∧ _ ∧ _ ∧ _ ∧ _ ∧ _)
  obtain ⟨hp1, hp2, hp3, hp4, hp5, hp6⟩ := hpu
  have hil := ints_pure l
  have hll := ints_len l
  have ql := long26_spec s ⟨0, 0, []⟩ ⟨0, 0, []⟩ l
  have q1 := Scale_spec s i c
  have q2 := rScale_spec s i c qn
  have q3 := Wish_spec s v x y c l
  have q4 := rwish26_spec s v x y c l qn
  have q5 := snext_spec s v x y c l
  have q6 := rnext26_spec s v x y c l qn
  have q7 := same17_spec (scaleV s i c)
  have hps := ints_pure (scaleV s i c).splits
  clear qn
  generalize wish26V s v x y c l = n at *
  generalize wish26E s v x y c l = e at *
  generalize snextN s v x y c l = r at *
  obtain ⟨⟨r1, r2, r3⟩, r4⟩ := r
  generalize scaleV s i c = p at *
  generalize scaleE s i c = pe at *
  have hsv : sitV s = .agg [.int .i64 s.id, .sl 3 (s.groups.map grpV), .sl 1 (sets s.apart), .sl 1 (rows s.between), .sl 5 (s.phases.map phaV), .sl 4 (s.eyes.map eyeV), .int .i64 s.watch, .int .i64 s.feed, .int .i64 s.heal, .int .i64 s.low, .int .i64 s.high, .sl 3 (s.plans.map plnV)] := rfl
  have hpl : plnV ⟨0, 0, []⟩ = .agg [.int .i64 0, .int .i64 0, .sl 1 []] := rfl
  simp only [voteV, voteE, hpl] at q5 q6 ql ⊢
  simp only [plnV] at q1 q2 q7
  have hlong : (greatS s || decide (100 < (([] : List Int).length : Int)) || decide (100 < (([] : List Int).length : Int)) || decide (1100 < (l.length : Int))) = false → l.length ≤ 1100 := fun h => by
    simp only [Bool.or_eq_false_iff, decide_eq_false_iff_not] at h
    omega
  generalize (greatS s || decide (100 < (([] : List Int).length : Int)) || decide (100 < (([] : List Int).length : Int)) || decide (1100 < (l.length : Int))) = b at *
  simp only [hsv] at ql q1 q2 q3 q4 q5 q6 ⊢
  refine fnD_of mixed Tryd.func3 rfl rfl (by simp [Tryd.ntmps3]) fun hwf E => ?_
  clear hwf
  simp (disch := omega) [Tryd.ntmps3, go_sem]
  refine callK_data ql [] (by simp [go_sem, hp1, hp2, hp3, hp4, hp5, hp6, hil]) (.inl rfl) (by simp [go_sem]) (fun _ => ?_)
  simp (disch := omega) [go_sem]
  refine br_of (fun h1 => ?_) (fun h1 => ?_)
  · simp (disch := omega) [go_sem]
  · have hl11 := hlong (by simpa using h1)
    simp (disch := omega) [go_sem, hll]
    refine ⟨by omega, ?_⟩
    refine callK_data q1 [] (by simp [go_sem, hp1, hp2, hp3, hp4, hp5, hp6, hil, hll]) (.inl rfl) (by simp [go_sem, hps]) (fun _ => ?_) (by simp [tabG, go_sem])
    simp (disch := omega) [go_sem]
    refine callK_data q2 [] (by simp [go_sem, hp1, hp2, hp3, hp4, hp5, hp6, hil]) (.inl rfl) (by simp [go_sem, hps]) (fun _ => ?_) (by simp [tabG, go_sem])
    simp (disch := omega) [go_sem]
    refine callK_data q3 [176] (by simp [go_sem, hp1, hp2, hp3, hp4, hp5, hp6, hil, hll]) (.inr (by simp [go_sem])) (by simp [go_sem]) (fun _ => ?_) (by simp [tabG, go_sem])
    simp (disch := omega) [go_sem]
    refine callK_data q4 [] (by simp [go_sem, hp1, hp2, hp3, hp4, hp5, hp6, hil]) (.inl rfl) (by simp [go_sem]) (fun _ => ?_) (by simp [tabG, go_sem])
    simp (disch := omega) [go_sem]
    refine callK_data q5 [176] (by simp [go_sem, hp1, hp2, hp3, hp4, hp5, hp6, hil, hll]) (.inr (by simp [go_sem])) (by simp [go_sem]) (fun _ => ?_) (by simp [tabG, go_sem])
    simp (disch := omega) [go_sem]
    refine callK_data q6 [] (by simp [go_sem, hp1, hp2, hp3, hp4, hp5, hp6, hil]) (.inl rfl) (by simp [go_sem]) (fun _ => ?_) (by simp [tabG, go_sem])
    simp (disch := omega) [go_sem]
    refine callK_data q7 [] (by simp [go_sem, hps]) (.inl rfl) (by simp [go_sem]) (fun _ => ?_) (by simp [tabG, go_sem])
    simp (disch := omega) [go_sem]
    refine awz_loop mixed (fun k : Nat => ⟨[(24, .int .i64 k), (11, .obj 176 l.length), (4, .sl 1 (ints l))], [(176, ⟨.arr, 2, 1, ints l⟩)], 2048, [], 123, 0, tabG⟩) (fun k => k ≤ l.length) (fun k => l.length - k) 0 (by omega) ?_ ?_
    · refine Le.mk [(176, some 176)] [176] ⟨rfl, rfl, rfl⟩ ?_ ?_ ?_ <;> simp [go_sem, hil, hll]
    · intro k hk
      simp (disch := omega) [go_sem, hll]
      refine br_of (fun h => ?_) (fun h => ?_) <;> simp at h
      · have g : k < l.length := by omega
        have hg := nth_ints g
        simp (disch := omega) [go_sem, g, hg, hll]
        refine ⟨.inl (by kernel_rfl), round_of (k + 1) (by omega) (by omega) (Le.mk [(176, some 176)] [176] ⟨rfl, rfl, rfl⟩ ?_ ?_ ?_)⟩ <;> simp [go_sem, hil, hll]
      · simp (disch := omega) [go_sem]
end Go.Proofs.YtdeionjkcmpnpaaDoor
