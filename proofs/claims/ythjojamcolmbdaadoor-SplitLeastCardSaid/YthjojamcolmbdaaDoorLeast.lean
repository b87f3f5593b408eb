/- SplitLeast: no plan of the site has a lesser worst than the one that is wished. -/
import Derived.Test.YthjojamcolmbdaaDoorBest26
set_option linter.unusedSimpArgs false
set_option linter.unusedVariables false
namespace Go.Proofs.YthjojamcolmbdaaDoor
open Go.AM Go.RowKit
set_option maxRecDepth 100000

def sitC (s : Sit) : List V := [.int .i64 s.id, .sl 3 (s.groups.map grpV), .sl 1 (sets s.apart), .sl 1 (rows s.between), .sl 5 (s.phases.map phaV), .sl 4 (s.eyes.map eyeV), .int .i64 s.watch, .int .i64 s.feed, .int .i64 s.heal, .int .i64 s.low, .int .i64 s.high, .sl 3 (s.plans.map plnV)]

set_option maxHeartbeats 4000000 in
theorem sleast_spec (s : Sit) (v x y c : Int) (l : List Int) : FnD Tryd.prog 14 [sitV s, voteV (v, x, y), .int .i64 c, .sl 1 (ints l)] (.bool true) tabG := by
  have hpu := (⟨grps_pure s.groups, phas_pure s.phases, eyes_pure s.eyes, plns_pure s.plans, sets_pure s.apart, rows_pure s.between⟩ : _ ∧ _ ∧ _ ∧ _ ∧ _ ∧ _)
  obtain ⟨hp1, hp2, hp3, hp4, hp5, hp6⟩ := hpu
  have hil := ints_pure l
  have ql := long26_spec s ⟨0, 0, []⟩ ⟨0, 0, []⟩ l
  have qw := Wish_spec s v x y c l
  have hsv : sitV s = .agg (sitC s) := rfl
  have hvv : ∀ v x y, voteV (v, x, y) = .agg [.int .i64 v, .int .i64 x, .int .i64 y] := fun _ _ _ => rfl
  have hpv : ∀ p, plnV p = .agg [.int .i64 p.cycle, .int .i64 p.offset, .sl 1 (ints p.splits)] := fun _ => rfl
  have hin0 : ints [] = [] := rfl
  have hwok := fun h => wish26_zero (s := s) (v := v) (x := x) (y := y) (c := c) (l := l) h
  have hV0 : wish26E s v x y c l ≠ 0 → wish26V s v x y c l = 0 := fun h => by unfold wish26V; rw [if_neg h]
  have hVb : wish26E s v x y c l = 0 → wish26V s v x y c l = bestN s v.toNat c l := fun h => by unfold wish26V; rw [if_pos h]
  generalize wish26V s v x y c l = n at *
  generalize wish26E s v x y c l = e at *
  have qS' : SiteOk s → (0 ≤ c ∧ c ≤ 1048576) → ∀ j : Nat, j < manyN s → FnD Tryd.prog 63 [.agg (sitC s), .int .i64 j, .int .i64 c] (.tup [plnV (scaleN s j c), .int .i64 0]) tabG := fun hOk hcb j hj => by
    obtain ⟨a1, a2⟩ := scale_zero (s := s) (i := (j : Int)) (c := c) hOk ⟨by omega, hcb⟩
    have := Scale_spec s j c
    rw [a1, a2, Int.toNat_natCast] at this
    exact this
  have qW' : SiteOk s → loadedN l = 0 → ∀ j k : Nat, FnD Tryd.prog 31 [.agg (sitC s), plnV (scaleN s j c), plnV (scaleN s k c), .sl 1 (ints l)] (.tup [.int .i64 (wst s j c l (scaleN s k c)), .int .i64 0]) tabG := fun hOk hl j k => by
    obtain ⟨a1, a2⟩ := worst_scale (s := s) (i := j) (j := k) (c := c) (l := l) hOk hl
    have := Worst_spec s (scaleN s j c) (scaleN s k c) l
    rw [a1, a2] at this
    exact this
  have qP' : SiteOk s → ∀ j : Nat, FnD Tryd.prog 23 [.agg (sitC s), plnV (scaleN s j c)] (.tup [.bool true, .int .i64 0]) tabG := fun hOk j => by
    have := plan_spec s (scaleN s j c)
    rw [checkN_ok hOk] at this
    simp only [hOk, scale_fits j c hOk, decide_true, Bool.and_self] at this
    exact this
  simp only [hsv, hvv] at ql qw ⊢
  simp only [hpv, hin0] at ql
  generalize (greatS s || decide (100 < (([] : List Int).length : Int)) || decide (100 < (([] : List Int).length : Int)) || decide (1100 < (l.length : Int))) = b at *
  unfold sitC at ql qw qS' qW' qP' ⊢
  refine fnD_of mixed Tryd.func14 rfl rfl (by simp [Tryd.ntmps14]) fun hwf E => ?_
  clear hwf
  simp (disch := omega) [Tryd.ntmps14, go_sem]
  refine callK_data alive26_spec [] (by simp [go_sem]) (.inl rfl) (by simp [go_sem]) (fun _ => ?_) (by simp [tabG, go_sem])
  simp (disch := omega) [go_sem]
  refine callK_data ql [] (by simp [go_sem, hp1, hp2, hp3, hp4, hp5, hp6, hil]) (.inl rfl) (by simp [go_sem]) (fun _ => ?_)
  simp (disch := omega) [go_sem]
  refine br_of (fun h1 => ?_) (fun h1 => ?_)
  · simp (disch := omega) [go_sem]
  simp (disch := omega) [go_sem]
  refine callK_data qw [] (by simp [go_sem, hp1, hp2, hp3, hp4, hp5, hp6, hil]) (.inl rfl) (by simp [go_sem]) (fun _ => ?_) (by simp [tabG, go_sem])
  simp (disch := omega) [go_sem]
  refine br_of (fun h2 => ?_) (fun h2 => ?_) <;> simp at h2
  · simp (disch := omega) [go_sem, hV0 h2]
  obtain ⟨hOk, hw, hl⟩ := hwok h2
  have hmany := manyN_le hOk
  have hb := hVb h2
  obtain ⟨i, rfl⟩ := Int.eq_ofNat_of_zero_le hw.1.1
  have hi : i < manyN s := by have := hw.1.2; omega
  obtain ⟨m, hm1, hm2, ⟨hm3, hm4⟩, hm5⟩ := best_law s i c l hi
  have hcb : 0 ≤ c ∧ c ≤ 1048576 := by simpa [inN] using hw.2.2.2
  have hnm : n = (m : Int) := by rw [hb]; exact hm2
  subst hnm
  have qS := qS' hOk hcb
  have qW := qW' hOk hl
  have qP := qP' hOk
  clear hb hVb hV0 hwok hm2 qS' qW' qP'
  have hips : ∀ j, pures (ints (scaleN s j c).splits) := fun j => ints_pure _
  have hm0 := qW i
  generalize hws : wst s i c l = ws at *
  generalize hsc : (fun j => scaleN s j c) = sc at *
  have hsc' : ∀ j, scaleN s j c = sc j := fun j => by rw [← hsc]
  simp only [hsc', hpv] at *
  have q1 := qS i hi
  have q2 := qS m hm1
  simp (disch := omega) [go_sem]
  refine callK_data q1 [] (by simp [go_sem, hp1, hp2, hp3, hp4, hp5, hp6, hil]) (.inl rfl) (by simp [go_sem, hips]) (fun _ => ?_) (by simp [tabG, go_sem])
  simp (disch := omega) [go_sem]
  refine callK_data q2 [] (by simp [go_sem, hp1, hp2, hp3, hp4, hp5, hp6, hil]) (.inl rfl) (by simp [go_sem, hips]) (fun _ => ?_) (by simp [tabG, go_sem])
  simp (disch := omega) [go_sem]
  refine callK_data (hm0 m) [] (by simp [go_sem, hp1, hp2, hp3, hp4, hp5, hp6, hil, hips]) (.inl rfl) (by simp [go_sem, hips]) (fun _ => ?_) (by simp [tabG, go_sem])
  simp (disch := omega) [go_sem]
  refine callK_data (hm0 i) [] (by simp [go_sem, hp1, hp2, hp3, hp4, hp5, hp6, hil, hips]) (.inl rfl) (by simp [go_sem, hips]) (fun _ => ?_) (by simp [tabG, go_sem])
  simp (disch := omega) [go_sem]
  refine br_of (fun h3 => ?_) (fun h3 => ?_)
  · simp at h3; omega
  simp (disch := omega) [go_sem]
  refine awz_loop mixed (fun k : Nat => ⟨[(20, .int .i64 k), (16, .int .i64 (ws (sc m))), (12, .ptr 544 1 0 0), (10, .int .i64 m), (5, .ptr 16 1 0 0), (4, .ptr 0 1 0 0), (3, .sl 1 (ints l)), (2, .int .i64 c)], [(544, ⟨.box, 32, 3, [plnV (sc i)]⟩), (16, ⟨.box, 87, 3, [voteV (i, x, y)]⟩), (0, ⟨.box, 29, 12, [sitV s]⟩)], 2048, [], 175, 0, tabG⟩)
    (fun k => k ≤ manyN s) (fun k => manyN s - k) 0 (by omega) ?_ ?_
  · refine Le.mk [(0, some 0), (16, some 16), (544, some 544)] [0, 16, 544] ⟨rfl, rfl, rfl⟩ ?_ ?_ ?_ <;> simp [go_sem, sitV, voteV, plnV, hp1, hp2, hp3, hp4, hp5, hp6, hil, hips]
  · intro k hk
    have hmn : (manyN s : Int) = if 1 < (s.plans.length : Int) then (s.plans.length : Int) else 1 := by unfold manyN; split <;> split <;> omega
    simp (disch := omega) [go_sem, sitV, voteV, plnV]
    refine br_of (fun h4 => ?_) (fun h4 => ?_) <;> simp at h4
    · have hk' : k < manyN s := by omega
      have q3 := qS k hk'
      obtain ⟨h5, h6⟩ := hm5 k hk'
      simp (disch := omega) [go_sem]
      refine callK_data q3 [] (by simp [go_sem, hp1, hp2, hp3, hp4, hp5, hp6, hil]) (.inl rfl) (by simp [go_sem, hips]) (fun _ => ?_) (by simp [tabG, go_sem])
      simp (disch := omega) [go_sem]
      refine callK_data (qP k) [] (by simp [go_sem, hp1, hp2, hp3, hp4, hp5, hp6, hil, hips]) (.inl rfl) (by simp [go_sem, hips]) (fun _ => ?_) (by simp [tabG, go_sem])
      simp (disch := omega) [go_sem]
      refine callK_data (hm0 k) [] (by simp [go_sem, hp1, hp2, hp3, hp4, hp5, hp6, hil, hips]) (.inl rfl) (by simp [go_sem, hips]) (fun _ => ?_) (by simp [tabG, go_sem])
      simp (disch := omega) [go_sem]
      refine br_of (fun h7 => ?_) (fun h7 => ?_)
      · simp at h7; omega
      · simp (disch := omega) [go_sem]
        refine round_of (k + 1) (by omega) (by omega) (Le.mk [(0, some 0), (16, some 16), (544, some 544)] [0, 16, 544] ⟨rfl, rfl, rfl⟩ ?_ ?_ ?_) <;> simp [go_sem, sitV, voteV, plnV, hp1, hp2, hp3, hp4, hp5, hp6, hil, hips]
    · simp (disch := omega) [go_sem]
end Go.Proofs.YthjojamcolmbdaaDoor
