
/- split.Wish: the plan that is wished. -/
import Derived.Test.YtdeionjkcmpnpaaDoorMost
import Derived.Test.YtdeionjkcmpnpaaDoorMinF
set_option linter.unusedSimpArgs false
set_option linter.unusedVariables false
namespace Go.Proofs.YtdeionjkcmpnpaaDoor
open Go.AM Go.RowKit
set_option maxRecDepth 100000

noncomputable def wst (s : Sit) (v : Nat) (c : Int) (l : List Int) (q : Pln) : Int := mostK (scaleN s v c) q l (min q.splits.length l.length)
noncomputable def rowsK (s : Sit) (v : Nat) (c : Int) (l : List Int) (k : Nat) : List (Int × Int) := ((v : Int), wst s v c l (scaleN s v c)) :: (List.range k).map fun (i : Nat) => ((i : Int), wst s v c l (scaleN s i c))
theorem rowsK_len (s : Sit) (v : Nat) (c : Int) (l : List Int) (k : Nat) : (rowsK s v c l k).length = k + 1 := by simp [rowsK]
theorem rowsK_succ (s : Sit) (v : Nat) (c : Int) (l : List Int) (k : Nat) : rowsK s v c l (k + 1) = rowsK s v c l k ++ [((k : Int), wst s v c l (scaleN s k c))] := by simp [rowsK, List.range_succ]
noncomputable def bestN (s : Sit) (v : Nat) (c : Int) (l : List Int) : Int := (bestK (rowsK s v c l (manyN s)) (manyN s + 1)).1

set_option maxHeartbeats 4000000 in
theorem wish_ok (s : Sit) (v : Nat) (x y c : Int) (l : List Int) (hOk : SiteOk s) (hv : v < manyN s) (hx : inN x 0 1048576 = true) (hy : inN y 0 1048576 = true) (hc : inN c 0 1048576 = true) (hl : loadedN l = 0) :
    FnD Tryd.prog 13 [sitV s, .agg [.int .i64 v, .int .i64 x, .int .i64 y], .int .i64 c, .sl 1 (ints l)] (.tup [.int .i64 (bestN s v c l), .int .i64 0]) tabG := by
  have hpu := (⟨grps_pure s.groups, phas_pure s.phases, eyes_pure s.eyes, plns_pure s.plans, sets_pure s.apart, rows_pure s.between⟩ : _ ∧ _ ∧ _ ∧ _ ∧ _ ∧ _)
  obtain ⟨hp1, hp2, hp3, hp4, hp5, hp6⟩ := hpu
  have hil := ints_pure l
  have hcb : 0 ≤ c ∧ c ≤ 1048576 := by simpa [inN] using hc
  have qc := check_spec s
  rw [checkN_ok hOk] at qc
  have qm := many_spec s
  have ql := loaded_spec l
  rw [hl] at ql
  have hpl8 : s.plans.length ≤ 8 := (groups_site.1 hOk).2.2.2.1
  have hm8 : 1 ≤ manyN s ∧ manyN s ≤ 8 := by unfold manyN; split <;> omega
  have hin : ∀ i, i < manyN s → i = 0 ∨ i < s.plans.length := fun i hi => by unfold manyN at hi; split at hi <;> omega
  have qs := fun i (hi : i < manyN s) => scale_spec s i c hOk (hin i hi) hcb
  have qw := fun i => worst26_spec (scaleN s v c) (scaleN s i c) l (most2_of hOk (scale_fits v c hOk) (scale_fits i c hOk) hl)
  have hps : ∀ i, pures (ints (scaleN s i c).splits) := fun i => ints_pure _
  have hsv : sitV s = .agg [.int .i64 s.id, .sl 3 (s.groups.map grpV), .sl 1 (sets s.apart), .sl 1 (rows s.between), .sl 5 (s.phases.map phaV), .sl 4 (s.eyes.map eyeV), .int .i64 s.watch, .int .i64 s.feed, .int .i64 s.heal, .int .i64 s.low, .int .i64 s.high, .sl 3 (s.plans.map plnV)] := rfl
  rw [hsv] at qc qm qs ⊢
  refine fnD_of mixed Tryd.func13 rfl rfl (by simp [Tryd.ntmps13]) fun hwf E => ?_
  clear hwf
  have v0 : ¬ (v : Int) < 0 := by omega
  have v1 : ¬ (manyN s : Int) ≤ v := by omega
  simp (disch := omega) [Tryd.ntmps13, go_sem]
  refine callK_data qc [] (by simp [go_sem, hp1, hp2, hp3, hp4, hp5, hp6]) (.inl rfl) (by simp [go_sem]) (fun _ => ?_) (by simp [tabG, go_sem])
  simp (disch := omega) [go_sem, v0]
  refine callK_data qm [] (by simp [go_sem, hp1, hp2, hp3, hp4, hp5, hp6]) (.inl rfl) (by simp [go_sem]) (fun _ => ?_)
  simp (disch := omega) [go_sem, v0, v1]
  refine callK_data (span26_spec x) [] (by simp [go_sem]) (.inl rfl) (by simp [go_sem]) (fun _ => ?_)
  simp (disch := omega) [go_sem, v0, v1, hx]
  refine callK_data (span26_spec y) [] (by simp [go_sem]) (.inl rfl) (by simp [go_sem]) (fun _ => ?_)
  simp (disch := omega) [go_sem, v0, v1, hx, hy]
  refine callK_data (span26_spec c) [] (by simp [go_sem]) (.inl rfl) (by simp [go_sem]) (fun _ => ?_)
  simp (disch := omega) [go_sem, v0, v1, hx, hy, hc]
  refine ⟨.inl (by kernel_rfl), ?_⟩
  try simp (disch := omega) [go_sem, v0, v1, hx, hy, hc]
  refine callK_data ql [] (by simp [go_sem, hil]) (.inl rfl) (by simp [go_sem]) (fun _ => ?_) (by simp [tabG, go_sem])
  simp (disch := omega) [go_sem]
  refine callK_data (qs v hv) [] (by simp [go_sem, hp1, hp2, hp3, hp4, hp5, hp6]) (.inl rfl) (by simp [go_sem, plnV, hps]) (fun _ => ?_) (by simp [tabG, go_sem])
  simp (disch := omega) [go_sem, plnV]
  have qv := qw v
  simp only [plnV] at qv
  refine callK_data qv [] (by simp [go_sem, hps, hil]) (.inl rfl) (by simp [go_sem]) (fun _ => ?_) (by simp [tabG, go_sem])
  simp (disch := omega) [go_sem]
  refine ⟨.inl (by kernel_rfl), ?_⟩
  try simp (disch := omega) [go_sem]
  refine callK_data qm [] (by simp [go_sem, hp1, hp2, hp3, hp4, hp5, hp6]) (.inl rfl) (by simp [go_sem]) (fun _ => ?_) (by simp [tabG, go_sem])
  simp (disch := omega) [go_sem]
  have hr0 : (rowsK s v c l 0).map rowV = [.agg [.int .i64 v, .int .i64 (wst s v c l (scaleN s v c))]] := by simp [rowsK, rowV]
  have hw0 : mostK (scaleN s v c) (scaleN s v c) l (min (scaleN s v c).splits.length l.length) = wst s v c l (scaleN s v c) := rfl
  rw [hw0]
  refine awz_loop mixed (fun k : Nat => ⟨[(68, .int .i64 k), (67, .int .i64 (manyN s)), (13, .obj 880 (k + 1)), (12, .ptr 736 1 0 0), (5, .ptr 16 1 0 0), (4, .ptr 0 1 0 0), (3, .sl 1 (ints l)), (2, .int .i64 c), (8, .int .i64 0), (9, .int .i64 0)], [(880, ⟨.arr, 111, 2, (rowsK s v c l k).map rowV⟩), (736, ⟨.box, 36, 3, [plnV (scaleN s v c)]⟩), (16, ⟨.box, 31, 3, [.agg [.int .i64 v, .int .i64 x, .int .i64 y]]⟩), (0, ⟨.box, 29, 12, [sitV s]⟩)], 2048, [], 88, 0, tabG⟩)
    (fun k => k ≤ manyN s) (fun k => manyN s - k) 0 (by omega) ?_ ?_
  · refine (Le.mk [(0, some 0), (16, some 16), (736, some 736), (880, some 880)] [0, 16, 736, 880] ⟨rfl, rfl, rfl⟩ ?_ ?_ ?_) <;> simp [go_sem, sitV, plnV, hp1, hp2, hp3, hp4, hp5, hp6, hil, hps, hr0]
  · intro k hk
    have hrl := rowsK_len s v c l k
    have hrp := rowsV_pure (rowsK s v c l k)
    have hrs : (rowsK s v c l (k + 1)).map rowV = (rowsK s v c l k).map rowV ++ [.agg [.int .i64 k, .int .i64 (wst s v c l (scaleN s k c))]] := by rw [rowsK_succ, List.map_append]; rfl
    simp (disch := omega) [go_sem, sitV, plnV]
    refine br_of (fun g => ?_) (fun g => ?_) <;> simp at g
    · have g' : k < manyN s := by omega
      have qk := qs k g'
      have qv2 := qw k
      simp only [plnV] at qv2 qk
      have hwk : mostK (scaleN s v c) (scaleN s k c) l (min (scaleN s k c).splits.length l.length) = wst s v c l (scaleN s k c) := rfl
      rw [hwk] at qv2
      simp (disch := omega) [go_sem]
      refine callK_data qk [] (by simp [go_sem, hp1, hp2, hp3, hp4, hp5, hp6]) (.inl rfl) (by simp [go_sem, hps]) (fun _ => ?_) (by simp [tabG, go_sem])
      simp (disch := omega) [go_sem]
      refine callK_data qv2 [] (by simp [go_sem, hps, hil]) (.inl rfl) (by simp [go_sem]) (fun _ => ?_) (by simp [tabG, go_sem])
      simp (disch := omega) [go_sem, hrl]
      refine ⟨by omega, .inl (by kernel_rfl), ?_⟩
      refine round_of (k + 1) (by omega) (by omega) (Le.mk [(0, some 0), (16, some 16), (736, some 736), (880, some 880)] [0, 16, 736, 880] ⟨rfl, rfl, rfl⟩ ?_ ?_ ?_) <;> simp [go_sem, sitV, plnV, hp1, hp2, hp3, hp4, hp5, hp6, hil, hps, hrs, hrp]
    · have hkl : k = manyN s := by omega
      subst hkl
      simp (disch := omega) [go_sem]
      have qmf := minFunc_spec (rowsK s v c l (manyN s)) (by rw [rowsK_len]; omega)
      rw [rowsK_len] at qmf
      refine callK_data qmf [880] ?_ (.inr (by simp [go_sem, rowV])) (by simp [go_sem, rowV]) (fun _ => ?_)
      · simp [go_sem, hrl]
        exact argsLe_self hrp
      · simp (disch := omega) [go_sem, rowV, bestN]
end Go.Proofs.YtdeionjkcmpnpaaDoor
